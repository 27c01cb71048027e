/- Rows of cells, rows of rows, and the law's helpers on them. Nothing is claimed here; no condition. -/
import Derived.Test.YtaniaeefijgaiaaDh
namespace Go.Proofs.Ytaniaeefijgaiaa
open Go Go.Abs
set_option linter.unusedSimpArgs false
set_option linter.unusedVariables false
/-! ### Rows of any cells -/
def RowA (σ : St) (b : Nat) (cs : List AV) : Prop := ∃ o, σ.get b = some ⟨cs, 1, o⟩ ∧ b < σ.n
theorem RowA.lt {σ : St} {b : Nat} {cs : List AV} (h : RowA σ b cs) : b < σ.n := by obtain ⟨_, _, h⟩ := h; exact h
theorem RowA.keep {σ σ' : St} {b : Nat} {cs : List AV} (h : RowA σ b cs) (hn : σ.n ≤ σ'.n) (he : σ'.get b = σ.get b) : RowA σ' b cs := by
  obtain ⟨o, h, hlt⟩ := h; exact ⟨o, by rw [he]; exact h, by omega⟩
theorem RowA.old {σ σ' : St} {b : Nat} {cs : List AV} (h : RowA σ b cs) (k : Old σ σ') : RowA σ' b cs := h.keep k.1 (k.2 b h.lt)
theorem RowA.push {σ : St} {cs : List AV} {o : Bool} : RowA (σ.push ⟨cs, 1, o⟩) σ.n cs := ⟨o, get_push_same, Nat.lt_succ_self _⟩
theorem getCells_one {cs : List AV} {i : Nat} {v : AV} (h : cs[i]? = some v) : getCells cs i 1 = some [v] := by
  obtain ⟨hi, hx⟩ := List.getElem?_eq_some_iff.1 h
  rw [getCells_eq, if_pos (by omega), List.drop_eq_getElem_cons hi, hx]
  rfl
theorem lp_cell {cs : List AV} {i : Nat} {v : AV} {σ : St} (h : cs[i]? = some v) : cellsAt σ (.lp cs i) 1 = some [v] := getCells_one h
theorem RowA.read {σ : St} {b i : Nat} {cs : List AV} {v : AV} (h : RowA σ b cs) (hv : cs[i]? = some v) : cellsAt σ (.ptr b i) 1 = some [v] := by
  obtain ⟨o, h, _⟩ := h
  simp only [cellsAt, h]
  exact getCells_one hv
theorem putN_cell {cs : List AV} {i : Nat} {v : AV} (h : i < cs.length) : putN i [v] cs = some (cs.set i v) := by
  rw [putN_eq, if_pos (by simp; omega)]
  congr 1
  unfold putCells
  rw [List.set_eq_take_append_cons_drop, if_pos h]
  simp
theorem RowA.store {σ : St} {b i : Nat} {cs : List AV} {v : AV} (h : RowA σ b cs) (hi : i < cs.length) (ho : v.one = true) :
    ∃ σ', storeCellsA σ b i [v] = some σ' ∧ RowA σ' b (cs.set i v) ∧ But b σ σ' := by
  obtain ⟨o, hg, hlt⟩ := h
  refine ⟨σ.set b ⟨cs.set i v, 1, o⟩, ?_, ⟨o, get_set_eq hg, hlt⟩, rfl, fun c hc => get_set_ne (fun e => hc e.symm)⟩
  unfold storeCellsA
  rw [hg]
  simp only [allOne, ho, Bool.and_self, putN_cell hi]
/-- An append of one cell to a full row. -/
theorem append_cell {T : Tab} {σ : St} {b n : Nat} {cs : List AV} {v : AV} {st e : TypeId} {i : TyI} (ht : T.ty st = some ⟨.slice e, 1, 24, [.nilS]⟩) (he : T.ty e = some i) (h1 : i.size = 1) (h2 : i.bytes ≤ 24) (h3 : 0 < i.bytes) (hv : v.one = true) (ha : allOne cs = true)
    (hb : RowA σ b cs) (hn : n = cs.length) (hs : n < 1000000000000) :
    ∃ σ', appendA T (σ.push ⟨[v], 1, false⟩) st st (.sl b 0 n n) (.sl σ.n 0 1 1) = some (.sl (σ.n + 1) 0 (n + 1) (n + 1), σ') ∧ RowA σ' (σ.n + 1) (cs ++ [v]) ∧ σ'.n = σ.n + 2 ∧ ∀ c, c ≠ b → c < σ.n → σ'.get c = σ.get c := by
  obtain ⟨o, hb, hbn⟩ := hb
  refine ⟨(if o then (σ.push ⟨[v], 1, false⟩).del b else σ.push ⟨[v], 1, false⟩).push ⟨cs ++ [v], 1, true⟩, ?_, ?_, ?_, ?_⟩
  · unfold appendA
    have hf : firstA (σ.push ⟨[v], 1, false⟩) 1 1 (.sl σ.n 0 1 1) = some [v] := by
      simp [firstA, get_push_same, getCells, dropN, takeN]
    have hg : (σ.push ⟨[v], 1, false⟩).get b = some ⟨cs, 1, o⟩ := by rw [get_push_lt hbn]; exact hb
    have hc : getCells cs 0 n = some cs := by
      rw [getCells_eq, if_pos (by omega), List.drop_zero, List.take_of_length_le (by omega)]
    simp only [ht, he, h1, lenA, hf, allOne, hv, hg, Nat.mul_one, hc, Bool.and_self]
    have hb24 : (n + 1) * i.bytes ≤ (n + 1) * 24 := Nat.mul_le_mul_left _ h2
    rw [if_neg (by simp), if_neg (by omega), if_pos ⟨by omega, by omega, trivial, by omega, h3⟩]
    cases o <;> simp [n_push]
  · refine ⟨true, ?_, ?_⟩
    · cases o <;> exact get_push_same
    · cases o <;> simp [n_push, n_del]
  · cases o <;> rfl
  · intro c hc hcn
    have hd : ∀ τ : St, τ.n = σ.n + 1 → (τ.push ⟨cs ++ [v], 1, true⟩).get c = τ.get c := fun τ h => get_push_lt (by omega)
    cases o
    · simp only [Bool.false_eq_true, if_false]
      rw [hd _ rfl, get_push_lt hcn]
    · simp only [if_true]
      rw [hd _ rfl, get_del_ne (fun e => hc e.symm), get_push_lt hcn]
/-! ### Rows of rows -/
def slc : List Nat → List (List Int) → List AV
  | b :: bs, l :: L => .sl b 0 l.length l.length :: slc bs L
  | _, _ => []
def Rws (σ : St) : List Nat → List (List Int) → Prop
  | [], [] => True
  | b :: bs, l :: L => Row σ b l ∧ Rws σ bs L
  | _, _ => False
def Row2 (σ : St) (b : Nat) (bs : List Nat) (L : List (List Int)) : Prop := RowA σ b (slc bs L) ∧ Rws σ bs L ∧ (b :: bs).Nodup
def lls (L : List (List Int)) : List AV := L.map fun l => .lst l.length (ints l)
theorem Rws.len {σ : St} : ∀ {bs : List Nat} {L : List (List Int)}, Rws σ bs L → bs.length = L.length
  | [], [], _ => rfl
  | _ :: _, _ :: _, h => by simp [Rws.len h.2]
  | [], _ :: _, h => h.elim
  | _ :: _, [], h => h.elim
theorem slc_length : ∀ (bs : List Nat) (L : List (List Int)), bs.length = L.length → (slc bs L).length = L.length
  | [], [], _ => rfl
  | _ :: bs, _ :: L, h => by simp [slc, slc_length bs L (by simpa using h)]
  | [], _ :: _, h => by simp at h
  | _ :: _, [], h => by simp at h
theorem slc_append : ∀ (bs : List Nat) (L : List (List Int)) (b : Nat) (l : List Int), bs.length = L.length → slc (bs ++ [b]) (L ++ [l]) = slc bs L ++ [.sl b 0 l.length l.length]
  | [], [], _, _, _ => rfl
  | x :: bs, y :: L, b, l, h => by simp [slc, slc_append bs L b l (by simpa using h)]
  | [], _ :: _, _, _, h => by simp at h
  | _ :: _, [], _, _, h => by simp at h
theorem allOne_slc : ∀ (bs : List Nat) (L : List (List Int)), allOne (slc bs L) = true
  | [], _ => rfl
  | _ :: _, [] => rfl
  | _ :: bs, _ :: L => by simp only [slc, allOne, AV.one, Bool.true_and]; exact allOne_slc bs L
theorem slc_get : ∀ {bs : List Nat} {L : List (List Int)} {i : Nat} {b : Nat} {l : List Int}, bs[i]? = some b → L[i]? = some l → (slc bs L)[i]? = some (.sl b 0 l.length l.length)
  | [], _, _, _, _, h, _ => by simp at h
  | _ :: _, [], _, _, _, _, h => by simp at h
  | _ :: bs, _ :: L, 0, b, l, h1, h2 => by simp at h1 h2; subst h1; subst h2; rfl
  | _ :: bs, _ :: L, i + 1, b, l, h1, h2 => by simp only [slc, List.getElem?_cons_succ] at *; exact slc_get h1 h2
theorem Rws.keep {σ σ' : St} (hn : σ.n ≤ σ'.n) : ∀ {bs : List Nat} {L : List (List Int)}, Rws σ bs L → (∀ b ∈ bs, b < σ.n → σ'.get b = σ.get b) → Rws σ' bs L
  | [], [], _, _ => trivial
  | b :: bs, _ :: L, h, k => ⟨h.1.keep hn (k b (by simp) h.1.lt), h.2.keep hn fun c hc => k c (by simp [hc])⟩
  | [], _ :: _, h, _ => h.elim
  | _ :: _, [], h, _ => h.elim
theorem Rws.lt {σ : St} : ∀ {bs : List Nat} {L : List (List Int)}, Rws σ bs L → ∀ b ∈ bs, b < σ.n
  | [], [], _, b, hb => by simp at hb
  | c :: bs, _ :: L, h, b, hb => by
    rcases List.mem_cons.1 hb with rfl | hb
    · exact h.1.lt
    · exact Rws.lt h.2 b hb
  | [], _ :: _, h, _, _ => h.elim
  | _ :: _, [], h, _, _ => h.elim
theorem Rws.snoc {σ : St} {c : Nat} {l : List Int} (hc : Row σ c l) : ∀ {bs : List Nat} {L : List (List Int)}, Rws σ bs L → Rws σ (bs ++ [c]) (L ++ [l])
  | [], [], _ => ⟨hc, trivial⟩
  | _ :: _, _ :: _, h => ⟨h.1, Rws.snoc hc h.2⟩
  | [], _ :: _, h => h.elim
  | _ :: _, [], h => h.elim
theorem Row2.keep {σ σ' : St} {b : Nat} {bs : List Nat} {L : List (List Int)} (h : Row2 σ b bs L) (hn : σ.n ≤ σ'.n) (k : ∀ c ∈ b :: bs, c < σ.n → σ'.get c = σ.get c) : Row2 σ' b bs L :=
  ⟨h.1.keep hn (k b (by simp) h.1.lt), h.2.1.keep hn fun c hc => k c (by simp [hc]), h.2.2⟩
theorem Row2.old {σ σ' : St} {b : Nat} {bs : List Nat} {L : List (List Int)} (h : Row2 σ b bs L) (k : Old σ σ') : Row2 σ' b bs L := h.keep k.1 fun c _ hc => k.2 c hc
theorem Row2.len {σ : St} {b : Nat} {bs : List Nat} {L : List (List Int)} (h : Row2 σ b bs L) : (slc bs L).length = L.length := slc_length _ _ h.2.1.len
theorem lls_length (L : List (List Int)) : (lls L).length = L.length := by simp [lls]
theorem frz_slc {σ : St} {d : Nat} : ∀ {bs : List Nat} {L : List (List Int)}, Rws σ bs L → mapO (frzV σ (d + 2)) (slc bs L) = some (lls L)
  | [], [], _ => rfl
  | b :: bs, l :: L, h => mapO_cons (h.1.frz rfl (Nat.le_refl _)) (frz_slc h.2)
  | [], _ :: _, h => h.elim
  | _ :: _, [], h => h.elim
theorem Row2.frz {σ : St} {b : Nat} {bs : List Nat} {L : List (List Int)} {d n c : Nat} (h : Row2 σ b bs L) (hn : n = L.length) (hc : n ≤ c) : frzV σ (d + 3) (.sl b 0 n c) = some (.lst n (lls L)) := by
  obtain ⟨⟨o, hg, _⟩, h2, _⟩ := h
  have hl := slc_length _ _ h2.len
  have hcl : getCells (slc bs L) 0 (n * 1) = some (slc bs L) := by
    rw [getCells_eq, if_pos (by omega), List.drop_zero, List.take_of_length_le (by omega)]
  unfold frzV
  simp only [hg, hcl, frz_slc h2, hc, if_true]
/-- A row of rows is handed over. -/
theorem own_slc {σ1 : St} {d : Nat} : ∀ {bs : List Nat} {L : List (List Int)} (σ : St) (used : List Nat), Rws σ1 bs L → bs.Nodup → (∀ x ∈ bs, x ∉ used) →
    ∃ σ' bs', ownL (ownV σ1 (d + 2)) σ used (slc bs L) = some (slc bs' L, σ', bs.reverse ++ used) ∧ Rws σ' bs' L ∧ Old σ σ' ∧ bs'.Nodup ∧ (∀ x ∈ bs', σ.n ≤ x)
  | [], [], σ, used, _, _, _ => ⟨σ, [], rfl, trivial, Old.refl σ, List.nodup_nil, by simp⟩
  | b :: bs, l :: L, σ, used, h, hn, hu => by
    have hn' := List.nodup_cons.1 hn
    obtain ⟨⟨o, hg, _⟩, h2⟩ := h
    have hc : used.contains b = false := by simpa using hu b (by simp)
    have e1 := own1_ints (σ := σ) (n := l.length) (c := l.length) (d := d) hg hc
    obtain ⟨σ', bs', k1, k2, k3, k4, k5⟩ := own_slc (d := d) (σ.push ⟨ints l, 1, o⟩) (b :: used) h2 hn'.2 (fun x hx => by
      simp only [List.mem_cons, not_or]
      exact ⟨fun e => hn'.1 (e ▸ hx), hu x (by simp [hx])⟩)
    refine ⟨σ', σ.n :: bs', ?_, ⟨Row.push.old k3, k2⟩, Old.push.trans k3, List.nodup_cons.2 ⟨fun hx => ?_, k4⟩, fun x hx => ?_⟩
    · simp only [slc, ownL, e1, k1]
      simp
    · have := k5 _ hx; simp only [n_push] at this; omega
    · rcases List.mem_cons.1 hx with rfl | hx
      · exact Nat.le_refl _
      · have := k5 _ hx; simp only [n_push] at this; omega
  | [], _ :: _, _, _, h, _, _ => h.elim
  | _ :: _, [], _, _, h, _, _ => h.elim
theorem own2 {σ1 σ : St} {b n d : Nat} {bs : List Nat} {L : List (List Int)} (h : Row2 σ1 b bs L) (hn : n = L.length) : ∃ σ' b' bs' u, ownV σ1 (d + 3) σ [] (.sl b 0 n n) = some (.sl b' 0 n n, σ', u) ∧ Row2 σ' b' bs' L ∧ Old σ σ' ∧ ∀ x ∈ b' :: bs', σ.n ≤ x := by
  obtain ⟨⟨o, hg, _⟩, h2, h3⟩ := h
  have h3' := List.nodup_cons.1 h3
  obtain ⟨σ', bs', k1, k2, k3, k4, k5⟩ := own_slc (d := d) σ [] h2 h3'.2 (by simp)
  have hn2 : σ.n ≤ σ'.n := k3.1
  refine ⟨σ'.push ⟨slc bs' L, 1, o⟩, σ'.n, bs', b :: (bs.reverse ++ []), ?_, ⟨RowA.push, k2.keep (Nat.le_succ _) (fun c hc hlt => get_push_lt hlt), List.nodup_cons.2 ⟨fun hx => ?_, k4⟩⟩, k3.trans Old.push, fun x hx => ?_⟩
  · unfold ownV
    simp only [hg, List.drop_zero, k1]
    rw [if_pos ⟨by simp [h3'.1], by omega⟩]
  · have := k2.lt _ hx; omega
  · rcases List.mem_cons.1 hx with rfl | hx
    · exact hn2
    · exact k5 x hx
/-- A function that hands over a row of rows of its own, and says whether there is one. -/
def FnO2 (T : Tab) (f : FuncId) (args' : List AV) (r : Option (List (List Int))) : Prop := ∀ (σ : St) (args : List AV), mapO (frzV σ frzDepth) args = some args' →
  match r with
  | some L => ∃ σ' b bs, callI T f args σ = some (.tup [.sl b 0 L.length L.length, .bool true], σ') ∧ Row2 σ' b bs L ∧ Old σ σ' ∧ ∀ x ∈ b :: bs, σ.n ≤ x
  | none => callI T f args σ = some (.tup [.nilS, .bool false], σ)
theorem FnO2.mkS {T : Tab} {f : FuncId} {F : Func} {c : Code} {args' : List AV} {L : List (List Int)} (hF : T.fn f = some F) (hB : F.body = some c) (hm : (T.an f).mode = 2)
    (hx : ∃ σ1 b bs, exI T (FI.of F (T.an f)) [.code c] (paramsE 0 args') ⟨[], 0⟩ = some (.tup [.sl b 0 L.length L.length, .bool true], σ1) ∧ Row2 σ1 b bs L) : FnO2 T f args' (some L) := by
  intro σ args ha
  obtain ⟨σ1, b, bs, hx, hr⟩ := hx
  obtain ⟨σ', b', bs', u, k1, k2, k3, k4⟩ := own2 (σ := σ) (d := 3) hr rfl
  refine ⟨σ', b', bs', cI_2 hF hB hm ha hx ?_, k2, k3, k4⟩
  unfold ownR
  simp only [ownL, ownDepth, k1]
  rfl
theorem FnO2.mkN {T : Tab} {f : FuncId} {F : Func} {c : Code} {args' : List AV} (hF : T.fn f = some F) (hB : F.body = some c) (hm : (T.an f).mode = 2)
    (hx : ∃ σ1, exI T (FI.of F (T.an f)) [.code c] (paramsE 0 args') ⟨[], 0⟩ = some (.tup [.nilS, .bool false], σ1)) : FnO2 T f args' none := by
  intro σ args ha
  obtain ⟨σ1, hx⟩ := hx
  exact cI_2 hF hB hm ha hx rfl
def atL (L : List (List Int)) (i : Nat) : List Int := L.getD i []
theorem atL_some {L : List (List Int)} {i : Nat} (h : i < L.length) : L[i]? = some (atL L i) := by simp [atL, List.getD_eq_getElem?_getD, h]
theorem lls_read {L : List (List Int)} {i : Nat} {σ : St} (h : i < L.length) : cellsAt σ (.lp (lls L) i) 1 = some [.lst (atL L i).length (ints (atL L i))] := lp_cell (by simp [lls, atL_some h])

def eqG (A B : List (List Int)) : Nat → Nat → Bool
  | 0, _ => true
  | m + 1, i => decide (atL A i = atL B i) && eqG A B m (i + 1)
theorem eqG_iff (A B : List (List Int)) : ∀ (m i : Nat), eqG A B m i = true ↔ ∀ j, i ≤ j → j < i + m → atL A j = atL B j
  | 0, i => by simp [eqG]; intro j h1 h2; omega
  | m + 1, i => by
    rw [eqG, Bool.and_eq_true, decide_eq_true_eq, eqG_iff A B m (i + 1)]
    constructor
    · rintro ⟨h1, h2⟩ j hj hj2
      by_cases e : j = i
      · rw [e]; exact h1
      · exact h2 j (by omega) (by omega)
    · intro h
      exact ⟨h i (by omega) (by omega), fun j h1 h2 => h j (by omega) (by omega)⟩
theorem eqG_eq {A B : List (List Int)} (h : A.length = B.length) : eqG A B A.length 0 = decide (A = B) := by
  rw [Bool.eq_iff_iff, eqG_iff, decide_eq_true_eq]
  constructor
  · intro hh
    apply List.ext_getElem h
    intro i h1 h2
    have e := hh i (by omega) (by omega)
    have e1 := atL_some h1; have e2 := atL_some h2
    rw [List.getElem?_eq_getElem h1] at e1; rw [List.getElem?_eq_getElem h2] at e2
    rw [Option.some.inj e1, Option.some.inj e2, e]
  · intro e j _ _; rw [e]
def totL : List (List Int) → Nat
  | [] => 0
  | l :: L => l.length + totL L
def markL : Nat → List (List Int) → List (List Int)
  | _, [] => []
  | k, l :: L => iotaF k l.length :: markL (k + l.length) L
theorem markL_length : ∀ (k : Nat) (L : List (List Int)), (markL k L).length = L.length
  | _, [] => rfl
  | k, l :: L => by simp [markL, markL_length (k + l.length) L]
theorem slc_mark : ∀ (bs : List Nat) (k : Nat) (L : List (List Int)), slc bs (markL k L) = slc bs L
  | [], _, _ => rfl
  | _ :: _, _, [] => rfl
  | b :: bs, k, l :: L => by simp [slc, markL, iotaF_length, slc_mark bs (k + l.length) L]

noncomputable def b52 : Code := Try.f52.body.getD .skip
noncomputable def B52_0 : Code := (bodyC (bodyC (sndC (fstC (sndC (sndC b52))))))
noncomputable def K52_0 : List It := .lp B52_0 :: .blk 0 :: .code (sndC (sndC (sndC b52))) :: []
theorem xl52_0 {fi : FI} {env : Env} {σ : St} : exI TT fi K52_0 env σ = exI TT fi (.code B52_0 :: K52_0) env σ := by unfold K52_0; exact xI_lp
noncomputable def R52_0_0 : List It := .code (sndC (sndC (sndC b52))) :: []
theorem eK52_0_0 : exitA 0 K52_0 = some R52_0_0 := rfl
theorem l52 (A B : List (List Int)) (len : Nat) (hA : len = A.length) (hB : len = B.length) (hs : len < 1000000) (hl : ∀ i, i < len → (atL A i).length < 1000000) (σ : St) : ∀ (m i : Nat), i + m = len →
    exI TT (FI.of Try.f52 (TT.an 52)) K52_0 [(0, .lst len (lls A)), (1, .lst len (lls B)), (5, .int .i64 i)] σ = some (.bool (eqG A B m i), σ) := by
  intro m
  induction m with
  | zero =>
    intro i hi
    obtain rfl : i = len := by omega
    rw [fi52]
    rw [xl52_0]
    simp only [B52_0, b52, Try.f52, Option.getD, fstC, sndC, bodyC, thnC, elsC]
    simp (maxSteps := 1000000) (disch := omega) [xI_seq, xI_region, xI_ret, regA, regOps, runOps, opStep, wantedA, opA, evo, evos, calleeA, lk, nif_eq, putE, paramsE, valS, val2, keepE, restrict, finA, resA, binA, binInt, ofConst, ofConst1, loadA, TK.isAgg, asVar, unA, builtinA, lenOpA, lenA, indexAddrA, evPairs, storeA, AV.cellsOf, pairsOf, xI_nil, binBool, gcE, evOpt, runTr, pairsOk, pairOk, sameVal, AV.eqv, lastOf, lstAt, eqvs, boundA, indexA, regF, twoOf, prsOf, memI, runTrF, selF, runTr2, freshOp, scals, AV.scal, xI_block, xI_loopH, xI_condM, xI_exitM, xI_skip, xI_blk, exitA, List.getElem?_cons_zero, List.getElem?_cons_succ, List.getElem?_toArray, List.getElem?_nil, ileb_t, ileb_f, ieqb_t, ieqb_f, inB_t, wrapA_id, lp_read, ieqb_self, Nat.blt_eq, cond_true, cond_false, ty2, ty3, ty4, ty22, ty40, eK52_0_0]
    simp only [R52_0_0, b52, Try.f52, Option.getD, fstC, sndC, bodyC, thnC, elsC]
    simp (maxSteps := 1000000) (disch := omega) [xI_seq, xI_region, xI_ret, regA, regOps, runOps, opStep, wantedA, opA, evo, evos, calleeA, lk, nif_eq, putE, paramsE, valS, val2, keepE, restrict, finA, resA, binA, binInt, ofConst, ofConst1, loadA, TK.isAgg, asVar, unA, builtinA, lenOpA, lenA, indexAddrA, evPairs, storeA, AV.cellsOf, pairsOf, xI_nil, binBool, gcE, evOpt, runTr, pairsOk, pairOk, sameVal, AV.eqv, lastOf, lstAt, eqvs, boundA, indexA, regF, twoOf, prsOf, memI, runTrF, selF, runTr2, freshOp, scals, AV.scal, xI_block, xI_loopH, xI_condM, xI_exitM, xI_skip, xI_blk, exitA, List.getElem?_cons_zero, List.getElem?_cons_succ, List.getElem?_toArray, List.getElem?_nil, ileb_t, ileb_f, ieqb_t, ieqb_f, inB_t, wrapA_id, lp_read, ieqb_self, Nat.blt_eq, cond_true, cond_false, ty2, ty3, ty4, ty22, ty40, eK52_0_0, eqG]
  | succ m ih =>
    intro i hi
    have r1 := lls_read (L := A) (σ := σ) (i := i) (by omega)
    have r2 := lls_read (L := B) (σ := σ) (i := i) (by omega)
    have e1 := v23 (atL A i) (atL B i) _ _ rfl rfl (by have := hl i (by omega); omega) σ [.lst (atL A i).length (ints (atL A i)), .lst (atL B i).length (ints (atL B i))] rfl
    rw [eqG]
    by_cases hc : atL A i = atL B i
    · rw [decide_eq_true hc, Bool.true_and]
      rw [decide_eq_true hc] at e1
      have h2 := ih (i + 1) (by omega)
      rw [fi52] at h2 ⊢
      rw [xl52_0]
      simp only [B52_0, b52, Try.f52, Option.getD, fstC, sndC, bodyC, thnC, elsC]
      simp (maxSteps := 1000000) (disch := omega) [xI_seq, xI_region, xI_ret, regA, regOps, runOps, opStep, wantedA, opA, evo, evos, calleeA, lk, nif_eq, putE, paramsE, valS, val2, keepE, restrict, finA, resA, binA, binInt, ofConst, ofConst1, loadA, TK.isAgg, asVar, unA, builtinA, lenOpA, lenA, indexAddrA, evPairs, storeA, AV.cellsOf, pairsOf, xI_nil, binBool, gcE, evOpt, runTr, pairsOk, pairOk, sameVal, AV.eqv, lastOf, lstAt, eqvs, boundA, indexA, regF, twoOf, prsOf, memI, runTrF, selF, runTr2, freshOp, scals, AV.scal, xI_block, xI_loopH, xI_condM, xI_exitM, xI_skip, xI_blk, exitA, List.getElem?_cons_zero, List.getElem?_cons_succ, List.getElem?_toArray, List.getElem?_nil, ileb_t, ileb_f, ieqb_t, ieqb_f, inB_t, wrapA_id, lp_read, ieqb_self, Nat.blt_eq, cond_true, cond_false, ty2, ty3, ty4, ty22, ty40, eK52_0_0, e1, r1, r2]
      simpa using h2
    · rw [decide_eq_false hc, Bool.false_and]
      rw [decide_eq_false hc] at e1
      rw [fi52]
      rw [xl52_0]
      simp only [B52_0, b52, Try.f52, Option.getD, fstC, sndC, bodyC, thnC, elsC]
      simp (maxSteps := 1000000) (disch := omega) [xI_seq, xI_region, xI_ret, regA, regOps, runOps, opStep, wantedA, opA, evo, evos, calleeA, lk, nif_eq, putE, paramsE, valS, val2, keepE, restrict, finA, resA, binA, binInt, ofConst, ofConst1, loadA, TK.isAgg, asVar, unA, builtinA, lenOpA, lenA, indexAddrA, evPairs, storeA, AV.cellsOf, pairsOf, xI_nil, binBool, gcE, evOpt, runTr, pairsOk, pairOk, sameVal, AV.eqv, lastOf, lstAt, eqvs, boundA, indexA, regF, twoOf, prsOf, memI, runTrF, selF, runTr2, freshOp, scals, AV.scal, xI_block, xI_loopH, xI_condM, xI_exitM, xI_skip, xI_blk, exitA, List.getElem?_cons_zero, List.getElem?_cons_succ, List.getElem?_toArray, List.getElem?_nil, ileb_t, ileb_f, ieqb_t, ieqb_f, inB_t, wrapA_id, lp_read, ieqb_self, Nat.blt_eq, cond_true, cond_false, ty2, ty3, ty4, ty22, ty40, eK52_0_0, e1, r1, r2]
theorem v52 (A : List (List Int)) (len : Nat) (hA : len = A.length) (hs : len < 1000000) (hl : ∀ i, i < len → (atL A i).length < 1000000) : FnV TT 52 [.lst len (lls A), .lst len (lls A)] (.bool true) := by
  have h := l52 A A len hA hA hs hl ⟨[], 0⟩ len 0 (by omega)
  rw [hA, eqG_eq rfl, decide_eq_true rfl, ← hA] at h
  refine FnV.mk fn52 rfl md52 ⟨⟨[], 0⟩, ?_⟩ (fun _ => rfl) rfl
  rw [← h, fi52]
  simp (maxSteps := 1000000) (disch := omega) [xI_seq, xI_region, xI_ret, regA, regOps, runOps, opStep, wantedA, opA, evo, evos, calleeA, lk, nif_eq, putE, paramsE, valS, val2, keepE, restrict, finA, resA, binA, binInt, ofConst, ofConst1, loadA, TK.isAgg, asVar, unA, builtinA, lenOpA, lenA, indexAddrA, evPairs, storeA, AV.cellsOf, pairsOf, xI_nil, binBool, gcE, evOpt, runTr, pairsOk, pairOk, sameVal, AV.eqv, lastOf, lstAt, eqvs, boundA, indexA, regF, twoOf, prsOf, memI, runTrF, selF, runTr2, freshOp, scals, AV.scal, xI_block, xI_loopH, xI_condM, xI_exitM, xI_skip, xI_blk, exitA, List.getElem?_cons_zero, List.getElem?_cons_succ, List.getElem?_toArray, List.getElem?_nil, ileb_t, ileb_f, ieqb_t, ieqb_f, inB_t, wrapA_id, lp_read, ieqb_self, Nat.blt_eq, cond_true, cond_false, ty2, ty3, ty4, ty22, ty40, eK52_0_0]
  rfl
theorem v52n : FnV TT 52 [.nilS, .nilS] (.bool true) := by
  refine FnV.mk fn52 rfl md52 ⟨⟨[], 0⟩, ?_⟩ (fun _ => rfl) rfl
  have h1 : exI TT (FI.of Try.f52 (TT.an 52)) K52_0 [(0, .nilS), (1, .nilS), (5, .int .i64 0)] ⟨[], 0⟩ = some (.bool true, ⟨[], 0⟩) := by
    rw [fi52]
    rw [xl52_0]
    simp only [B52_0, b52, Try.f52, Option.getD, fstC, sndC, bodyC, thnC, elsC]
    simp (maxSteps := 1000000) (disch := omega) [xI_seq, xI_region, xI_ret, regA, regOps, runOps, opStep, wantedA, opA, evo, evos, calleeA, lk, nif_eq, putE, paramsE, valS, val2, keepE, restrict, finA, resA, binA, binInt, ofConst, ofConst1, loadA, TK.isAgg, asVar, unA, builtinA, lenOpA, lenA, indexAddrA, evPairs, storeA, AV.cellsOf, pairsOf, xI_nil, binBool, gcE, evOpt, runTr, pairsOk, pairOk, sameVal, AV.eqv, lastOf, lstAt, eqvs, boundA, indexA, regF, twoOf, prsOf, memI, runTrF, selF, runTr2, freshOp, scals, AV.scal, xI_block, xI_loopH, xI_condM, xI_exitM, xI_skip, xI_blk, exitA, List.getElem?_cons_zero, List.getElem?_cons_succ, List.getElem?_toArray, List.getElem?_nil, ileb_t, ileb_f, ieqb_t, ieqb_f, inB_t, wrapA_id, lp_read, ieqb_self, Nat.blt_eq, cond_true, cond_false, ty2, ty3, ty4, ty22, ty40, eK52_0_0]
    simp only [R52_0_0, b52, Try.f52, Option.getD, fstC, sndC, bodyC, thnC, elsC]
    simp (maxSteps := 1000000) (disch := omega) [xI_seq, xI_region, xI_ret, regA, regOps, runOps, opStep, wantedA, opA, evo, evos, calleeA, lk, nif_eq, putE, paramsE, valS, val2, keepE, restrict, finA, resA, binA, binInt, ofConst, ofConst1, loadA, TK.isAgg, asVar, unA, builtinA, lenOpA, lenA, indexAddrA, evPairs, storeA, AV.cellsOf, pairsOf, xI_nil, binBool, gcE, evOpt, runTr, pairsOk, pairOk, sameVal, AV.eqv, lastOf, lstAt, eqvs, boundA, indexA, regF, twoOf, prsOf, memI, runTrF, selF, runTr2, freshOp, scals, AV.scal, xI_block, xI_loopH, xI_condM, xI_exitM, xI_skip, xI_blk, exitA, List.getElem?_cons_zero, List.getElem?_cons_succ, List.getElem?_toArray, List.getElem?_nil, ileb_t, ileb_f, ieqb_t, ieqb_f, inB_t, wrapA_id, lp_read, ieqb_self, Nat.blt_eq, cond_true, cond_false, ty2, ty3, ty4, ty22, ty40, eK52_0_0]
  rw [fi52] at h1 ⊢
  simp (maxSteps := 1000000) (disch := omega) [xI_seq, xI_region, xI_ret, regA, regOps, runOps, opStep, wantedA, opA, evo, evos, calleeA, lk, nif_eq, putE, paramsE, valS, val2, keepE, restrict, finA, resA, binA, binInt, ofConst, ofConst1, loadA, TK.isAgg, asVar, unA, builtinA, lenOpA, lenA, indexAddrA, evPairs, storeA, AV.cellsOf, pairsOf, xI_nil, binBool, gcE, evOpt, runTr, pairsOk, pairOk, sameVal, AV.eqv, lastOf, lstAt, eqvs, boundA, indexA, regF, twoOf, prsOf, memI, runTrF, selF, runTr2, freshOp, scals, AV.scal, xI_block, xI_loopH, xI_condM, xI_exitM, xI_skip, xI_blk, exitA, List.getElem?_cons_zero, List.getElem?_cons_succ, List.getElem?_toArray, List.getElem?_nil, ileb_t, ileb_f, ieqb_t, ieqb_f, inB_t, wrapA_id, lp_read, ieqb_self, Nat.blt_eq, cond_true, cond_false, ty2, ty3, ty4, ty22, ty40, eK52_0_0]
  exact h1

noncomputable def b53 : Code := Try.f53.body.getD .skip
noncomputable def B53_0 : Code := (bodyC (bodyC (sndC (fstC (sndC b53)))))
noncomputable def K53_0 : List It := .lp B53_0 :: .blk 0 :: .code (sndC (sndC b53)) :: []
theorem xl53_0 {fi : FI} {env : Env} {σ : St} : exI TT fi K53_0 env σ = exI TT fi (.code B53_0 :: K53_0) env σ := by unfold K53_0; exact xI_lp
noncomputable def R53_0_0 : List It := .code (sndC (sndC b53)) :: []
theorem eK53_0_0 : exitA 0 K53_0 = some R53_0_0 := rfl
theorem l53 (b : Nat) (n : Nat) (hs : n < 1000) : ∀ (suf : List (List Int)) (pre : List (List Int)) (bp bs : List Nat) (k : Nat) (σ : St), n = pre.length + suf.length → bp.length = pre.length → k + totL suf < 1000000 → RowA σ b (slc (bp ++ bs) (pre ++ suf)) → Rws σ bs suf → bs.Nodup → b ∉ bs →
    ∃ σ', exI TT (FI.of Try.f53 (TT.an 53)) K53_0 [(0, .sl b 0 n n), (1, .int .i64 k), (5, .int .i64 pre.length)] σ = some (.int .i64 (k + totL suf : Nat), σ') ∧ Rws σ' bs (markL k suf) ∧ σ'.n = σ.n ∧ ∀ c, c ∉ bs → σ'.get c = σ.get c := by
  intro suf
  induction suf with
  | nil =>
    intro pre bp bs k σ hn hbp hk hr hw hnd hb
    have hn : n = pre.length := by simpa using hn
    subst hn
    cases bs with
    | cons _ _ => exact hw.elim
    | nil =>
    refine ⟨σ, ?_, hw, rfl, fun _ _ => rfl⟩
    rw [fi53]
    rw [xl53_0]
    simp only [B53_0, b53, Try.f53, Option.getD, fstC, sndC, bodyC, thnC, elsC]
    simp (maxSteps := 1000000) (disch := omega) [xI_seq, xI_region, xI_ret, regA, regOps, runOps, opStep, wantedA, opA, evo, evos, calleeA, lk, nif_eq, putE, paramsE, valS, val2, keepE, restrict, finA, resA, binA, binInt, ofConst, ofConst1, loadA, TK.isAgg, asVar, unA, builtinA, lenOpA, lenA, indexAddrA, evPairs, storeA, AV.cellsOf, pairsOf, xI_nil, binBool, gcE, evOpt, runTr, pairsOk, pairOk, sameVal, AV.eqv, lastOf, lstAt, eqvs, boundA, indexA, regF, twoOf, prsOf, memI, runTrF, selF, runTr2, freshOp, scals, AV.scal, xI_block, xI_loopH, xI_condM, xI_exitM, xI_skip, xI_blk, exitA, List.getElem?_cons_zero, List.getElem?_cons_succ, List.getElem?_toArray, List.getElem?_nil, ileb_t, ileb_f, ieqb_t, ieqb_f, inB_t, wrapA_id, lp_read, ieqb_self, Nat.blt_eq, cond_true, cond_false, ty2, ty3, ty22, ty40, eK53_0_0]
    simp only [R53_0_0, b53, Try.f53, Option.getD, fstC, sndC, bodyC, thnC, elsC]
    simp (maxSteps := 1000000) (disch := omega) [xI_seq, xI_region, xI_ret, regA, regOps, runOps, opStep, wantedA, opA, evo, evos, calleeA, lk, nif_eq, putE, paramsE, valS, val2, keepE, restrict, finA, resA, binA, binInt, ofConst, ofConst1, loadA, TK.isAgg, asVar, unA, builtinA, lenOpA, lenA, indexAddrA, evPairs, storeA, AV.cellsOf, pairsOf, xI_nil, binBool, gcE, evOpt, runTr, pairsOk, pairOk, sameVal, AV.eqv, lastOf, lstAt, eqvs, boundA, indexA, regF, twoOf, prsOf, memI, runTrF, selF, runTr2, freshOp, scals, AV.scal, xI_block, xI_loopH, xI_condM, xI_exitM, xI_skip, xI_blk, exitA, List.getElem?_cons_zero, List.getElem?_cons_succ, List.getElem?_toArray, List.getElem?_nil, ileb_t, ileb_f, ieqb_t, ieqb_f, inB_t, wrapA_id, lp_read, ieqb_self, Nat.blt_eq, cond_true, cond_false, ty2, ty3, ty22, ty40, eK53_0_0, totL]
  | cons l suf ih =>
    intro pre bp bs k σ hn hbp hk hr hw hnd hb
    cases bs with
    | nil => exact hw.elim
    | cons c bs =>
    obtain ⟨hc, hw⟩ := hw
    have hnd' := List.nodup_cons.1 hnd
    have hn : n = pre.length + (suf.length + 1) := by simpa using hn
    rw [totL] at hk
    have hrd : cellsAt σ (.ptr b pre.length) 1 = some [.sl c 0 l.length l.length] := hr.read (slc_get (by rw [List.getElem?_append_right (by omega)]; simp [hbp]) (by simp))
    obtain ⟨σ1, c1, r1, n1, o1⟩ := m24 σ c l.length k l rfl (by omega) (by omega) hc
    have hbc : b ≠ c := fun e => hb (by simp [e])
    obtain ⟨σ', h1, h2, h3, h4⟩ := ih (pre ++ [l]) (bp ++ [c]) bs (k + l.length) σ1 (by simp; omega) (by simp [hbp]) (by omega) ((by simpa using hr : RowA σ b (slc (bp ++ [c] ++ bs) (pre ++ [l] ++ suf))).keep (Nat.le_of_eq n1.symm) (o1 b hbc)) (hw.keep (Nat.le_of_eq n1.symm) (fun x hx _ => o1 x (fun e => hnd'.1 (e ▸ hx)))) hnd'.2 (fun h => hb (by simp [h]))
    refine ⟨σ', ?_, ⟨r1.keep (Nat.le_of_eq h3.symm) (h4 c hnd'.1), h2⟩, h3.trans n1, fun x hx => ?_⟩
    · rw [show k + totL (l :: suf) = k + l.length + totL suf by rw [totL]; omega, ← h1]
      rw [fi53, xl53_0]
      simp only [B53_0, b53, Try.f53, Option.getD, fstC, sndC, bodyC, thnC, elsC]
      simp (maxSteps := 1000000) (disch := omega) [xI_seq, xI_region, xI_ret, regA, regOps, runOps, opStep, wantedA, opA, evo, evos, calleeA, lk, nif_eq, putE, paramsE, valS, val2, keepE, restrict, finA, resA, binA, binInt, ofConst, ofConst1, loadA, TK.isAgg, asVar, unA, builtinA, lenOpA, lenA, indexAddrA, evPairs, storeA, AV.cellsOf, pairsOf, xI_nil, binBool, gcE, evOpt, runTr, pairsOk, pairOk, sameVal, AV.eqv, lastOf, lstAt, eqvs, boundA, indexA, regF, twoOf, prsOf, memI, runTrF, selF, runTr2, freshOp, scals, AV.scal, xI_block, xI_loopH, xI_condM, xI_exitM, xI_skip, xI_blk, exitA, List.getElem?_cons_zero, List.getElem?_cons_succ, List.getElem?_toArray, List.getElem?_nil, ileb_t, ileb_f, ieqb_t, ieqb_f, inB_t, wrapA_id, lp_read, ieqb_self, Nat.blt_eq, cond_true, cond_false, ty2, ty3, ty22, ty40, eK53_0_0, hrd, c1]
    · simp only [List.mem_cons, not_or] at hx
      exact (h4 x hx.2).trans (o1 x hx.1)
theorem m53 (σ : St) (b : Nat) (bs : List Nat) (L : List (List Int)) (n k : Nat) (hn : n = L.length) (hs : n < 1000) (hk : k + totL L < 1000000) (hr : Row2 σ b bs L) :
    ∃ σ', callI TT 53 [.sl b 0 n n, .int .i64 k] σ = some (.int .i64 (k + totL L : Nat), σ') ∧ Row2 σ' b bs (markL k L) ∧ σ'.n = σ.n ∧ ∀ c, c ∉ bs → σ'.get c = σ.get c := by
  have hnd := List.nodup_cons.1 hr.2.2
  obtain ⟨σ', h1, h2, h3, h4⟩ := l53 b n hs L [] [] bs k σ (by simpa using hn) rfl hk hr.1 hr.2.1 hnd.2 hnd.1
  refine ⟨σ', ?_, ⟨by rw [slc_mark]; exact hr.1.keep (Nat.le_of_eq h3.symm) (h4 b hnd.1), h2, hr.2.2⟩, h3, h4⟩
  rw [cI_0 fn53 rfl md53]
  rw [← h1, fi53]
  simp (maxSteps := 1000000) (disch := omega) [xI_seq, xI_region, xI_ret, regA, regOps, runOps, opStep, wantedA, opA, evo, evos, calleeA, lk, nif_eq, putE, paramsE, valS, val2, keepE, restrict, finA, resA, binA, binInt, ofConst, ofConst1, loadA, TK.isAgg, asVar, unA, builtinA, lenOpA, lenA, indexAddrA, evPairs, storeA, AV.cellsOf, pairsOf, xI_nil, binBool, gcE, evOpt, runTr, pairsOk, pairOk, sameVal, AV.eqv, lastOf, lstAt, eqvs, boundA, indexA, regF, twoOf, prsOf, memI, runTrF, selF, runTr2, freshOp, scals, AV.scal, xI_block, xI_loopH, xI_condM, xI_exitM, xI_skip, xI_blk, exitA, List.getElem?_cons_zero, List.getElem?_cons_succ, List.getElem?_toArray, List.getElem?_nil, ileb_t, ileb_f, ieqb_t, ieqb_f, inB_t, wrapA_id, lp_read, ieqb_self, Nat.blt_eq, cond_true, cond_false, ty2, ty3, ty22, ty40, eK53_0_0]
  rfl
theorem m53n (σ : St) (k : Nat) : callI TT 53 [.nilS, .int .i64 k] σ = some (.int .i64 k, σ) := by
  have h1 : exI TT (FI.of Try.f53 (TT.an 53)) K53_0 [(0, .nilS), (1, .int .i64 k), (5, .int .i64 0)] σ = some (.int .i64 k, σ) := by
    rw [fi53]
    rw [xl53_0]
    simp only [B53_0, b53, Try.f53, Option.getD, fstC, sndC, bodyC, thnC, elsC]
    simp (maxSteps := 1000000) (disch := omega) [xI_seq, xI_region, xI_ret, regA, regOps, runOps, opStep, wantedA, opA, evo, evos, calleeA, lk, nif_eq, putE, paramsE, valS, val2, keepE, restrict, finA, resA, binA, binInt, ofConst, ofConst1, loadA, TK.isAgg, asVar, unA, builtinA, lenOpA, lenA, indexAddrA, evPairs, storeA, AV.cellsOf, pairsOf, xI_nil, binBool, gcE, evOpt, runTr, pairsOk, pairOk, sameVal, AV.eqv, lastOf, lstAt, eqvs, boundA, indexA, regF, twoOf, prsOf, memI, runTrF, selF, runTr2, freshOp, scals, AV.scal, xI_block, xI_loopH, xI_condM, xI_exitM, xI_skip, xI_blk, exitA, List.getElem?_cons_zero, List.getElem?_cons_succ, List.getElem?_toArray, List.getElem?_nil, ileb_t, ileb_f, ieqb_t, ieqb_f, inB_t, wrapA_id, lp_read, ieqb_self, Nat.blt_eq, cond_true, cond_false, ty2, ty3, ty22, ty40, eK53_0_0]
    simp only [R53_0_0, b53, Try.f53, Option.getD, fstC, sndC, bodyC, thnC, elsC]
    simp (maxSteps := 1000000) (disch := omega) [xI_seq, xI_region, xI_ret, regA, regOps, runOps, opStep, wantedA, opA, evo, evos, calleeA, lk, nif_eq, putE, paramsE, valS, val2, keepE, restrict, finA, resA, binA, binInt, ofConst, ofConst1, loadA, TK.isAgg, asVar, unA, builtinA, lenOpA, lenA, indexAddrA, evPairs, storeA, AV.cellsOf, pairsOf, xI_nil, binBool, gcE, evOpt, runTr, pairsOk, pairOk, sameVal, AV.eqv, lastOf, lstAt, eqvs, boundA, indexA, regF, twoOf, prsOf, memI, runTrF, selF, runTr2, freshOp, scals, AV.scal, xI_block, xI_loopH, xI_condM, xI_exitM, xI_skip, xI_blk, exitA, List.getElem?_cons_zero, List.getElem?_cons_succ, List.getElem?_toArray, List.getElem?_nil, ileb_t, ileb_f, ieqb_t, ieqb_f, inB_t, wrapA_id, lp_read, ieqb_self, Nat.blt_eq, cond_true, cond_false, ty2, ty3, ty22, ty40, eK53_0_0]
  rw [cI_0 fn53 rfl md53]
  rw [fi53] at h1 ⊢
  simp (maxSteps := 1000000) (disch := omega) [xI_seq, xI_region, xI_ret, regA, regOps, runOps, opStep, wantedA, opA, evo, evos, calleeA, lk, nif_eq, putE, paramsE, valS, val2, keepE, restrict, finA, resA, binA, binInt, ofConst, ofConst1, loadA, TK.isAgg, asVar, unA, builtinA, lenOpA, lenA, indexAddrA, evPairs, storeA, AV.cellsOf, pairsOf, xI_nil, binBool, gcE, evOpt, runTr, pairsOk, pairOk, sameVal, AV.eqv, lastOf, lstAt, eqvs, boundA, indexA, regF, twoOf, prsOf, memI, runTrF, selF, runTr2, freshOp, scals, AV.scal, xI_block, xI_loopH, xI_condM, xI_exitM, xI_skip, xI_blk, exitA, List.getElem?_cons_zero, List.getElem?_cons_succ, List.getElem?_toArray, List.getElem?_nil, ileb_t, ileb_f, ieqb_t, ieqb_f, inB_t, wrapA_id, lp_read, ieqb_self, Nat.blt_eq, cond_true, cond_false, ty2, ty3, ty22, ty40, eK53_0_0]
  exact h1

noncomputable def b54 : Code := Try.f54.body.getD .skip
noncomputable def B54_0 : Code := (bodyC (bodyC (sndC (fstC (sndC b54)))))
noncomputable def K54_0 : List It := .lp B54_0 :: .blk 0 :: .code (sndC (sndC b54)) :: []
theorem xl54_0 {fi : FI} {env : Env} {σ : St} : exI TT fi K54_0 env σ = exI TT fi (.code B54_0 :: K54_0) env σ := by unfold K54_0; exact xI_lp
noncomputable def R54_0_0 : List It := .code (sndC (sndC b54)) :: []
theorem eK54_0_0 : exitA 0 K54_0 = some R54_0_0 := rfl
theorem l54 (n : Nat) (M : List (List Int)) (hn : n = M.length) (hs : n < 1000) (σ : St) : ∀ (suf pre : List (List Int)) (k : Nat), M = pre ++ markL k suf → k + totL suf < 1000000 →
    exI TT (FI.of Try.f54 (TT.an 54)) K54_0 [(0, .lst n (lls M)), (1, .int .i64 k), (5, .int .i64 pre.length)] σ = some (.int .i64 (k + totL suf : Nat), σ) := by
  intro suf
  induction suf with
  | nil =>
    intro pre k hM hk
    have hn : n = pre.length := by rw [hn, hM]; simp [markL]
    subst hn
    rw [fi54]
    rw [xl54_0]
    simp only [B54_0, b54, Try.f54, Option.getD, fstC, sndC, bodyC, thnC, elsC]
    simp (maxSteps := 1000000) (disch := omega) [xI_seq, xI_region, xI_ret, regA, regOps, runOps, opStep, wantedA, opA, evo, evos, calleeA, lk, nif_eq, putE, paramsE, valS, val2, keepE, restrict, finA, resA, binA, binInt, ofConst, ofConst1, loadA, TK.isAgg, asVar, unA, builtinA, lenOpA, lenA, indexAddrA, evPairs, storeA, AV.cellsOf, pairsOf, xI_nil, binBool, gcE, evOpt, runTr, pairsOk, pairOk, sameVal, AV.eqv, lastOf, lstAt, eqvs, boundA, indexA, regF, twoOf, prsOf, memI, runTrF, selF, runTr2, freshOp, scals, AV.scal, xI_block, xI_loopH, xI_condM, xI_exitM, xI_skip, xI_blk, exitA, List.getElem?_cons_zero, List.getElem?_cons_succ, List.getElem?_toArray, List.getElem?_nil, ileb_t, ileb_f, ieqb_t, ieqb_f, inB_t, wrapA_id, lp_read, ieqb_self, Nat.blt_eq, cond_true, cond_false, ty2, ty3, ty22, ty40, eK54_0_0]
    simp only [R54_0_0, b54, Try.f54, Option.getD, fstC, sndC, bodyC, thnC, elsC]
    simp (maxSteps := 1000000) (disch := omega) [xI_seq, xI_region, xI_ret, regA, regOps, runOps, opStep, wantedA, opA, evo, evos, calleeA, lk, nif_eq, putE, paramsE, valS, val2, keepE, restrict, finA, resA, binA, binInt, ofConst, ofConst1, loadA, TK.isAgg, asVar, unA, builtinA, lenOpA, lenA, indexAddrA, evPairs, storeA, AV.cellsOf, pairsOf, xI_nil, binBool, gcE, evOpt, runTr, pairsOk, pairOk, sameVal, AV.eqv, lastOf, lstAt, eqvs, boundA, indexA, regF, twoOf, prsOf, memI, runTrF, selF, runTr2, freshOp, scals, AV.scal, xI_block, xI_loopH, xI_condM, xI_exitM, xI_skip, xI_blk, exitA, List.getElem?_cons_zero, List.getElem?_cons_succ, List.getElem?_toArray, List.getElem?_nil, ileb_t, ileb_f, ieqb_t, ieqb_f, inB_t, wrapA_id, lp_read, ieqb_self, Nat.blt_eq, cond_true, cond_false, ty2, ty3, ty22, ty40, eK54_0_0, totL]
  | cons l suf ih =>
    intro pre k hM hk
    rw [totL] at hk
    have hl : n = pre.length + (suf.length + 1) := by rw [hn, hM]; simp [markL, markL_length]
    have ha : atL M pre.length = iotaF k l.length := by rw [hM]; simp [atL, markL]
    have hrd := lls_read (L := M) (σ := σ) (i := pre.length) (by omega)
    rw [ha, iotaF_length] at hrd
    have e1 := v25 l.length k (by omega) (by omega) σ [.lst l.length (ints (iotaF k l.length)), .int .i64 k] rfl
    have h2 := ih (pre ++ [iotaF k l.length]) (k + l.length) (by rw [hM]; simp [markL]) (by omega)
    rw [show k + totL (l :: suf) = k + l.length + totL suf by rw [totL]; omega, ← h2]
    rw [fi54, xl54_0]
    simp only [B54_0, b54, Try.f54, Option.getD, fstC, sndC, bodyC, thnC, elsC]
    simp (maxSteps := 1000000) (disch := omega) [xI_seq, xI_region, xI_ret, regA, regOps, runOps, opStep, wantedA, opA, evo, evos, calleeA, lk, nif_eq, putE, paramsE, valS, val2, keepE, restrict, finA, resA, binA, binInt, ofConst, ofConst1, loadA, TK.isAgg, asVar, unA, builtinA, lenOpA, lenA, indexAddrA, evPairs, storeA, AV.cellsOf, pairsOf, xI_nil, binBool, gcE, evOpt, runTr, pairsOk, pairOk, sameVal, AV.eqv, lastOf, lstAt, eqvs, boundA, indexA, regF, twoOf, prsOf, memI, runTrF, selF, runTr2, freshOp, scals, AV.scal, xI_block, xI_loopH, xI_condM, xI_exitM, xI_skip, xI_blk, exitA, List.getElem?_cons_zero, List.getElem?_cons_succ, List.getElem?_toArray, List.getElem?_nil, ileb_t, ileb_f, ieqb_t, ieqb_f, inB_t, wrapA_id, lp_read, ieqb_self, Nat.blt_eq, cond_true, cond_false, ty2, ty3, ty22, ty40, eK54_0_0, hrd, e1]
theorem v54 (L : List (List Int)) (n k : Nat) (hn : n = L.length) (hs : n < 1000) (hk : k + totL L < 1000000) : FnV TT 54 [.lst n (lls (markL k L)), .int .i64 k] (.int .i64 (k + totL L : Nat)) := by
  refine FnV.mk fn54 rfl md54 ⟨⟨[], 0⟩, ?_⟩ (fun _ => rfl) rfl
  rw [← l54 n (markL k L) (by rw [markL_length]; exact hn) hs ⟨[], 0⟩ L [] k rfl hk, fi54]
  simp (maxSteps := 1000000) (disch := omega) [xI_seq, xI_region, xI_ret, regA, regOps, runOps, opStep, wantedA, opA, evo, evos, calleeA, lk, nif_eq, putE, paramsE, valS, val2, keepE, restrict, finA, resA, binA, binInt, ofConst, ofConst1, loadA, TK.isAgg, asVar, unA, builtinA, lenOpA, lenA, indexAddrA, evPairs, storeA, AV.cellsOf, pairsOf, xI_nil, binBool, gcE, evOpt, runTr, pairsOk, pairOk, sameVal, AV.eqv, lastOf, lstAt, eqvs, boundA, indexA, regF, twoOf, prsOf, memI, runTrF, selF, runTr2, freshOp, scals, AV.scal, xI_block, xI_loopH, xI_condM, xI_exitM, xI_skip, xI_blk, exitA, List.getElem?_cons_zero, List.getElem?_cons_succ, List.getElem?_toArray, List.getElem?_nil, ileb_t, ileb_f, ieqb_t, ieqb_f, inB_t, wrapA_id, lp_read, ieqb_self, Nat.blt_eq, cond_true, cond_false, ty2, ty3, ty22, ty40, eK54_0_0]
  rfl
theorem v54n (k : Nat) : FnV TT 54 [.nilS, .int .i64 k] (.int .i64 k) := by
  refine FnV.mk fn54 rfl md54 ⟨⟨[], 0⟩, ?_⟩ (fun _ => rfl) rfl
  have h1 : exI TT (FI.of Try.f54 (TT.an 54)) K54_0 [(0, .nilS), (1, .int .i64 k), (5, .int .i64 0)] ⟨[], 0⟩ = some (.int .i64 k, ⟨[], 0⟩) := by
    rw [fi54]
    rw [xl54_0]
    simp only [B54_0, b54, Try.f54, Option.getD, fstC, sndC, bodyC, thnC, elsC]
    simp (maxSteps := 1000000) (disch := omega) [xI_seq, xI_region, xI_ret, regA, regOps, runOps, opStep, wantedA, opA, evo, evos, calleeA, lk, nif_eq, putE, paramsE, valS, val2, keepE, restrict, finA, resA, binA, binInt, ofConst, ofConst1, loadA, TK.isAgg, asVar, unA, builtinA, lenOpA, lenA, indexAddrA, evPairs, storeA, AV.cellsOf, pairsOf, xI_nil, binBool, gcE, evOpt, runTr, pairsOk, pairOk, sameVal, AV.eqv, lastOf, lstAt, eqvs, boundA, indexA, regF, twoOf, prsOf, memI, runTrF, selF, runTr2, freshOp, scals, AV.scal, xI_block, xI_loopH, xI_condM, xI_exitM, xI_skip, xI_blk, exitA, List.getElem?_cons_zero, List.getElem?_cons_succ, List.getElem?_toArray, List.getElem?_nil, ileb_t, ileb_f, ieqb_t, ieqb_f, inB_t, wrapA_id, lp_read, ieqb_self, Nat.blt_eq, cond_true, cond_false, ty2, ty3, ty22, ty40, eK54_0_0]
    simp only [R54_0_0, b54, Try.f54, Option.getD, fstC, sndC, bodyC, thnC, elsC]
    simp (maxSteps := 1000000) (disch := omega) [xI_seq, xI_region, xI_ret, regA, regOps, runOps, opStep, wantedA, opA, evo, evos, calleeA, lk, nif_eq, putE, paramsE, valS, val2, keepE, restrict, finA, resA, binA, binInt, ofConst, ofConst1, loadA, TK.isAgg, asVar, unA, builtinA, lenOpA, lenA, indexAddrA, evPairs, storeA, AV.cellsOf, pairsOf, xI_nil, binBool, gcE, evOpt, runTr, pairsOk, pairOk, sameVal, AV.eqv, lastOf, lstAt, eqvs, boundA, indexA, regF, twoOf, prsOf, memI, runTrF, selF, runTr2, freshOp, scals, AV.scal, xI_block, xI_loopH, xI_condM, xI_exitM, xI_skip, xI_blk, exitA, List.getElem?_cons_zero, List.getElem?_cons_succ, List.getElem?_toArray, List.getElem?_nil, ileb_t, ileb_f, ieqb_t, ieqb_f, inB_t, wrapA_id, lp_read, ieqb_self, Nat.blt_eq, cond_true, cond_false, ty2, ty3, ty22, ty40, eK54_0_0]
  rw [fi54] at h1 ⊢
  simp (maxSteps := 1000000) (disch := omega) [xI_seq, xI_region, xI_ret, regA, regOps, runOps, opStep, wantedA, opA, evo, evos, calleeA, lk, nif_eq, putE, paramsE, valS, val2, keepE, restrict, finA, resA, binA, binInt, ofConst, ofConst1, loadA, TK.isAgg, asVar, unA, builtinA, lenOpA, lenA, indexAddrA, evPairs, storeA, AV.cellsOf, pairsOf, xI_nil, binBool, gcE, evOpt, runTr, pairsOk, pairOk, sameVal, AV.eqv, lastOf, lstAt, eqvs, boundA, indexA, regF, twoOf, prsOf, memI, runTrF, selF, runTr2, freshOp, scals, AV.scal, xI_block, xI_loopH, xI_condM, xI_exitM, xI_skip, xI_blk, exitA, List.getElem?_cons_zero, List.getElem?_cons_succ, List.getElem?_toArray, List.getElem?_nil, ileb_t, ileb_f, ieqb_t, ieqb_f, inB_t, wrapA_id, lp_read, ieqb_self, Nat.blt_eq, cond_true, cond_false, ty2, ty3, ty22, ty40, eK54_0_0]
  exact h1

end Go.Proofs.Ytaniaeefijgaiaa
