/- Contracts of walks, fractions and drawn chances; Dobrushin's bound; the law on walks. Nothing is claimed here; no condition. -/
import Derived.Test.YtihoeimlkbjgmaaQc
import Derived.Test.YtihoeimlkbjgmaaXf
set_option linter.unusedSimpArgs false
set_option linter.unusedVariables false
namespace Go.Proofs.Ytihoeimlkbjgmaa
open Go Go.Abs Go.Nm
attribute [local simp] xI_seq xI_region xI_ret regA regOps runOps opStep wantedA opA evo evos calleeA lk nif_eq putE paramsE valS val2 keepE restrict finA resA binA binInt ofConst ofConst1 loadA TK.isAgg asVar unA builtinA lenOpA lenA indexAddrA evPairs storeA AV.cellsOf pairsOf xI_nil binBool gcE evOpt runTr pairsOk pairOk sameVal AV.eqv lastOf lstAt eqvs boundA indexA regF twoOf prsOf memI runTrF selF runTr2 freshOp scals AV.scal xI_block xI_loopH xI_condM xI_exitM xI_skip xI_blk exitA List.getElem?_cons_zero List.getElem?_cons_succ List.getElem?_toArray List.getElem?_nil ileb_t ileb_f ieqb_t ieqb_f inB_t wrapA_id lp_read ieqb_self Nat.blt_eq cond_true cond_false ty2 ty3 ty4 ty9 ty22 ty25 ty29 ty31 ty34 ty36 ty41 ty48 ty58 ty76 ty90 ty92 ty97 ty99 ty101 ty104 ty115 ty143 ty177
/-! ### Contracts -/
/-! ### Sums -/
/-- A box with some cells. -/
def Bx (σ : St) (b : Nat) (vs : List AV) : Prop := (∃ n, σ.get b = some ⟨vs, n, false⟩) ∧ b < σ.n
theorem Bx.rd {σ : St} {b n : Nat} {vs : List AV} (h : Bx σ b vs) (hn : vs.length = n) : cellsAt σ (.ptr b 0) n = some vs := by
  obtain ⟨⟨m, h⟩, _⟩ := h
  simp only [cellsAt, h, getCells_eq]
  rw [if_pos (by omega), List.drop_zero, List.take_of_length_le (by omega)]
theorem Bx.st {σ : St} {b : Nat} {vs ws : List AV} (h : Bx σ b vs) (hl : ws.length = vs.length) (ho : allOne ws = true) : ∃ σ', storeCellsA σ b 0 ws = some σ' ∧ Bx σ' b ws ∧ But b σ σ' := by
  obtain ⟨⟨m, hg⟩, hlt⟩ := h
  refine ⟨σ.set b ⟨ws, m, false⟩, ?_, ⟨⟨m, get_set_eq hg⟩, hlt⟩, rfl, fun c hc => get_set_ne (fun e => hc e.symm)⟩
  rw [storeCellsA_eq, hg]
  simp only [putCells]
  rw [if_pos ⟨by omega, ho⟩, List.take_zero, List.nil_append, Nat.zero_add, List.drop_of_length_le (by omega), List.append_nil]
theorem Bx.old {σ σ' : St} {b : Nat} {vs : List AV} (h : Bx σ b vs) (k : Old σ σ') : Bx σ' b vs := by
  obtain ⟨⟨m, hg⟩, hlt⟩ := h
  exact ⟨⟨m, by rw [k.2 b hlt]; exact hg⟩, Nat.lt_of_lt_of_le hlt k.1⟩
theorem Bx.but {σ σ' : St} {b c : Nat} {vs : List AV} (h : Bx σ c vs) (hc : c ≠ b) (k : But b σ σ') : Bx σ' c vs := by
  obtain ⟨⟨m, hg⟩, hlt⟩ := h
  exact ⟨⟨m, by rw [k.2 c hc]; exact hg⟩, by rw [k.1]; exact hlt⟩
theorem Bx.push {σ : St} {vs : List AV} {m : Nat} : Bx (σ.push ⟨vs, m, false⟩) σ.n vs := ⟨⟨m, get_push_same⟩, Nat.lt_succ_self _⟩
theorem Bx.lt {σ : St} {b : Nat} {vs : List AV} (h : Bx σ b vs) : b < σ.n := h.2
/-- Rows of aggregates. -/
def flat {α : Type} (f : α → List AV) (l : List α) : List AV := l.flatMap f
theorem flat_len {α : Type} {f : α → List AV} {w : Nat} (hf : ∀ x, (f x).length = w) : ∀ l : List α, (flat f l).length = l.length * w
  | [] => by simp [flat]
  | x :: r => by
    have := flat_len hf r
    simp only [flat, List.flatMap_cons, List.length_append, List.length_cons] at this ⊢
    rw [this, hf, Nat.add_mul]; omega
theorem flat_get {α : Type} {f : α → List AV} {w : Nat} (hf : ∀ x, (f x).length = w) : ∀ (l : List α) (i : Nat) (x : α), l[i]? = some x → getCells (flat f l) (i * w) w = some (f x)
  | [], i, x, h => by simp at h
  | y :: r, 0, x, h => by
    simp at h; subst h
    rw [getCells_eq, flat, List.flatMap_cons, if_pos (by simp [hf]), Nat.zero_mul, List.drop_zero, List.take_left' (hf y)]
  | y :: r, i + 1, x, h => by
    have ih := flat_get hf r i x (by simpa using h)
    rw [getCells_eq] at ih ⊢
    split at ih
    · rename_i hl
      have e : (i + 1) * w = (f y).length + i * w := by rw [hf, Nat.add_mul]; omega
      simp only [flat, List.flatMap_cons, List.length_append] at hl ⊢
      rw [if_pos (by rw [e]; omega), e, ← List.drop_drop, List.drop_left]
      exact ih
    · cases ih
theorem flat_one {α : Type} {f : α → List AV} (hf : ∀ x, allOne (f x) = true) : ∀ l : List α, allOne (flat f l) = true
  | [] => rfl
  | x :: r => by
    have h2 := flat_one hf r
    have : ∀ (a b : List AV), allOne a = true → allOne b = true → allOne (a ++ b) = true := by
      intro a; induction a with
      | nil => intro b _ h; exact h
      | cons y t ih => intro b h1 h2; simp only [allOne, Bool.and_eq_true, List.cons_append] at h1 ⊢; exact ⟨h1.1, ih b h1.2 h2⟩
    exact this _ _ (hf x) h2
theorem mapO_app {α β : Type} {f : α → Option β} : ∀ {a : List α} {b : List α} {x y : List β}, mapO f a = some x → mapO f b = some y → mapO f (a ++ b) = some (x ++ y)
  | [], b, x, y, h1, h2 => by simp only [mapO] at h1; cases h1; exact h2
  | z :: r, b, x, y, h1, h2 => by
    simp only [mapO] at h1
    split at h1
    · rename_i u v hu hv
      cases h1
      exact mapO_cons hu (mapO_app hv h2)
    · cases h1
theorem flat_frz {α : Type} {f : α → List AV} {σ : St} {d : Nat} (hf : ∀ x, mapO (frzV σ d) (f x) = some (f x)) : ∀ l : List α, mapO (frzV σ d) (flat f l) = some (flat f l)
  | [] => rfl
  | x :: r => mapO_app (hf x) (flat_frz hf r)
theorem flat_app {α : Type} (f : α → List AV) (a b : List α) : flat f (a ++ b) = flat f a ++ flat f b := by simp [flat]
/-- Rows whose cells are told, whatever their elements' size. -/
def RowE (σ : St) (b e : Nat) (cs : List AV) : Prop := ∃ o, σ.get b = some ⟨cs, e, o⟩ ∧ b < σ.n
theorem RowE.lt {σ : St} {b e : Nat} {cs : List AV} (h : RowE σ b e cs) : b < σ.n := by obtain ⟨_, _, h⟩ := h; exact h
theorem RowE.old {σ σ' : St} {b e : Nat} {cs : List AV} (h : RowE σ b e cs) (k : Old σ σ') : RowE σ' b e cs := by
  obtain ⟨o, hg, hlt⟩ := h; exact ⟨o, by rw [k.2 b hlt]; exact hg, Nat.lt_of_lt_of_le hlt k.1⟩
theorem RowE.but {σ σ' : St} {b c e : Nat} {cs : List AV} (h : RowE σ c e cs) (hc : c ≠ b) (k : But b σ σ') : RowE σ' c e cs := by
  obtain ⟨o, hg, hlt⟩ := h; exact ⟨o, by rw [k.2 c hc]; exact hg, by rw [k.1]; exact hlt⟩
theorem RowE.push {σ : St} {cs : List AV} {e : Nat} {o : Bool} : RowE (σ.push ⟨cs, e, o⟩) σ.n e cs := ⟨o, get_push_same, Nat.lt_succ_self _⟩
theorem RowE.pushed {σ : St} {b e : Nat} {cs : List AV} {x : Blk} (h : RowE σ b e cs) : RowE (σ.push x) b e cs := h.old Old.push
theorem RowE.frz {σ : St} {b e n c d : Nat} {cs : List AV} (h : RowE σ b e cs) (hl : cs.length = n * e) (hf : mapO (frzV σ (d + 1)) cs = some cs) (hc : n ≤ c) : frzV σ (d + 2) (.sl b 0 n c) = some (.lst n cs) := by
  obtain ⟨o, hg, _⟩ := h
  unfold frzV
  simp only [hg]
  rw [getCells_eq, if_pos (by omega), List.drop_zero, List.take_of_length_le (by omega)]
  simp only [hf, hc, if_true]
theorem RowE.rd {σ : St} {b e i w : Nat} {cs v : List AV} (h : RowE σ b e cs) (hv : getCells cs i w = some v) : cellsAt σ (.ptr b i) w = some v := by
  obtain ⟨o, h, _⟩ := h
  simp only [cellsAt, h]; exact hv
theorem RowE.st {σ : St} {b e i : Nat} {cs ws : List AV} (h : RowE σ b e cs) (hi : i + ws.length ≤ cs.length) (ho : allOne ws = true) : ∃ σ', storeCellsA σ b i ws = some σ' ∧ RowE σ' b e (putCells cs i ws) ∧ But b σ σ' := by
  obtain ⟨o, hg, hlt⟩ := h
  refine ⟨σ.set b ⟨putCells cs i ws, e, o⟩, ?_, ⟨o, get_set_eq hg, hlt⟩, rfl, fun c hc => get_set_ne (fun e => hc e.symm)⟩
  rw [storeCellsA_eq, hg]
  simp only []
  rw [if_pos ⟨hi, ho⟩]
theorem build_el {T : Tab} {σ : St} {st e : TypeId} {k : TK} {es y : Nat} {z w : List AV} (ht : T.ty st = some ⟨.slice e, 1, 24, [.nilS]⟩) (he : T.ty e = some ⟨k, es, y, z⟩) (hes : es ≤ 1000) (hw : w.length = es) (hz : z.length = es) (h1 : allOne w = true) : buildSliceA T σ st 1 [(0, .agg w)] = some (.sl σ.n 0 1 1, σ.push ⟨w, es, false⟩) := by
  have hp : putCells (z ++ []) (0 * es) w = w := by
    rw [List.append_nil, Nat.zero_mul, putCells, List.take_zero, List.nil_append, Nat.zero_add, List.drop_of_length_le (by omega), List.append_nil]
  simp only [buildSliceA, ht, he, repeatCells, fillA, AV.cellsOf]
  rw [if_pos (by omega)]
  rw [List.append_nil, Nat.zero_mul] at hp
  simp [hw, h1, hz, hp]
theorem build_e0 {T : Tab} {σ : St} {st e : TypeId} {k : TK} {es y : Nat} {z : List AV} (ht : T.ty st = some ⟨.slice e, 1, 24, [.nilS]⟩) (he : T.ty e = some ⟨k, es, y, z⟩) : buildSliceA T σ st 0 [] = some (.sl σ.n 0 0 0, σ.push ⟨[], es, false⟩) := by
  simp [buildSliceA, ht, he, fillA, repeatCells]
theorem append_el {T : Tab} {σ : St} {b n : Nat} {cs w : List AV} {st e : TypeId} {k : TK} {es y : Nat} {z : List AV} (ht : T.ty st = some ⟨.slice e, 1, 24, [.nilS]⟩) (he : T.ty e = some ⟨k, es, y, z⟩) (hk : ∀ j, k ≠ .int j → True) (hy : 0 < y ∧ y ≤ 100)
    (hw : w.length = es) (h1 : allOne w = true) (hcs : cs.length = n * es) (hb : RowE σ b es cs) (hs : n < 100000000000) :
    ∃ σ', appendA T (σ.push ⟨w, es, false⟩) st st (.sl b 0 n n) (.sl σ.n 0 1 1) = some (.sl (σ.n + 1) 0 (n + 1) (n + 1), σ') ∧ RowE σ' (σ.n + 1) es (cs ++ w) ∧ ∀ c, c ≠ b → c < σ.n → σ'.get c = σ.get c := by
  obtain ⟨o, hg, hlt⟩ := hb
  have hf : firstA (σ.push ⟨w, es, false⟩) es 1 (.sl σ.n 0 1 1) = some w := by
    simp only [firstA, get_push_same]
    rw [getCells_eq, if_pos (by omega), List.drop_zero, List.take_of_length_le (by omega)]
  have hg2 : (σ.push ⟨w, es, false⟩).get b = some ⟨cs, es, o⟩ := by rw [get_push_lt hlt]; exact hg
  have hc : getCells cs 0 (n * es) = some cs := by rw [getCells_eq, if_pos (by omega), List.drop_zero, List.take_of_length_le (by omega)]
  have hyb : (n + 1) * y ≤ 140737488355328 := by
    have : (n + 1) * y ≤ 100000000000 * 100 := Nat.mul_le_mul (by omega) hy.2
    omega
  refine ⟨(if o then (σ.push ⟨w, es, false⟩).del b else σ.push ⟨w, es, false⟩).push ⟨cs ++ w, es, true⟩, ?_, ⟨true, ?_, ?_⟩, ?_⟩
  · unfold appendA
    simp only [ht, he, lenA, hf, h1, hg2, hc]
    rw [if_neg (by simp), if_neg (by omega), if_pos ⟨hyb, by omega, trivial, by omega, hy.1⟩]
    cases o <;> simp [n_push]
  · cases o <;> exact get_push_same
  · cases o <;> simp [n_push, n_del]
  · intro c hc hcn
    cases o
    · simp only [Bool.false_eq_true, if_false]
      rw [get_push_lt (by show c < σ.n + 1; omega), get_push_lt hcn]
    · simp only [if_true]
      rw [get_push_lt (by show c < σ.n + 1; omega), get_del_ne (fun e => hc e.symm), get_push_lt hcn]
/-- Fractions as they come in. -/
def FC (x : Int × Int) : List AV := [.int .i64 x.1, .int .i64 x.2]
theorem FC_len (x : Int × Int) : (FC x).length = 2 := rfl
theorem FC_one (x : Int × Int) : allOne (FC x) = true := rfl
def FS (l : List (Int × Int)) : AV := .lst l.length (flat FC l)
theorem FS_get {l : List (Int × Int)} {i : Nat} (h : i < l.length) (σ : St) : cellsAt σ (.lp (flat FC l) (i * 2)) 2 = some (FC l[i]) := flat_get FC_len l i _ (List.getElem?_eq_getElem h)
def vfl (l : List (Int × Int)) : Bool := l.all fun x => vfr x.1 x.2
def rq (x : Int × Int) : Rat := mkRat x.1 x.2.toNat
def sumQ (l : List (Int × Int)) : Rat := l.foldl (fun s x => s + rq x) 0
/-- Chances. -/
def isCh (l : List (Int × Int)) : Bool := (decide (1 ≤ l.length) && decide (l.length ≤ 16)) && (vfl l && ((l.all fun x => decide (0 ≤ x.1)) && decide (sumQ l = 1)))

theorem v130 (l : List (Int × Int)) : FnV TT 130 [FS l] (.int .i64 l.length) := by
  refine FnV.mk (c := Try.f130.body.getD .skip) fn130 rfl md130 (ex1 ?_) (fun _ => rfl) rfl
  rw [fi130]
  simp only [Try.f130, Option.getD]
  unfold FS
  simp (maxSteps := 1000000) (disch := omega) [cellsAt, getCells, takeN, dropN, fieldAddrA, allOne, AV.one, n_push, storeCellsA, putN, overN, St.push, St.get, St.set, hget, hset, blt_dec, buildA, sizesOf, fillA, putCells, List.take_succ_cons, List.take_zero, List.drop_succ_cons, List.drop_zero, List.nil_append, List.cons_append, List.length_cons, List.length_nil, eqvs_dgs]

noncomputable def b123 : Code := Try.f123.body.getD .skip
noncomputable def B123_0 : Code := (bodyC (bodyC (sndC (fstC (sndC b123)))))
noncomputable def K123_0 : List It := .lp B123_0 :: .blk 0 :: .code (sndC (sndC b123)) :: []
theorem xl123_0 {fi : FI} {env : Env} {σ : St} : exI TT fi K123_0 env σ = exI TT fi (.code B123_0 :: K123_0) env σ := by unfold K123_0; exact xI_lp
noncomputable def R123_0_0 : List It := .code (sndC (sndC b123)) :: []
theorem eK123_0_0 : exitA 0 K123_0 = some R123_0_0 := rfl
theorem s123t (n i : Nat) (cells x : List AV) (σ : St) (hi : i < n) (r1 : cellsAt σ (.lp cells (i * 2)) 2 = some x) (c1 : callI TT 170 [.agg x] σ = some (.bool true, σ)) (hw : wrapA .i64 ((i : Int) + 1) = (i : Int) + 1) :
    exI TT (FI.of Try.f123 (TT.an 123)) K123_0 [(0, .lst n cells), (3, .int .i64 i)] σ = exI TT (FI.of Try.f123 (TT.an 123)) K123_0 [(0, .lst n cells), (3, .int .i64 ((i : Int) + 1))] σ := by
  rw [fi123]
  conv => lhs; rw [xl123_0]
  simp only [B123_0, b123, Try.f123, Option.getD, fstC, sndC, bodyC, thnC, elsC]
  simp (maxSteps := 1000000) (disch := omega) [eK123_0_0, r1, c1, hw]
theorem s123f (n i : Nat) (cells x : List AV) (σ : St) (hi : i < n) (r1 : cellsAt σ (.lp cells (i * 2)) 2 = some x) (c1 : callI TT 170 [.agg x] σ = some (.bool false, σ)) :
    exI TT (FI.of Try.f123 (TT.an 123)) K123_0 [(0, .lst n cells), (3, .int .i64 i)] σ = some (.bool false, σ) := by
  rw [fi123, xl123_0]
  simp only [B123_0, b123, Try.f123, Option.getD, fstC, sndC, bodyC, thnC, elsC]
  simp (maxSteps := 1000000) (disch := omega) [eK123_0_0, r1, c1]
theorem e123 (n : Nat) (cells : List AV) (σ : St) : exI TT (FI.of Try.f123 (TT.an 123)) K123_0 [(0, .lst n cells), (3, .int .i64 n)] σ = some (.bool true, σ) := by
  rw [fi123, xl123_0]
  simp only [B123_0, b123, Try.f123, Option.getD, fstC, sndC, bodyC, thnC, elsC]
  simp (maxSteps := 1000000) (disch := omega) [eK123_0_0]
  simp only [R123_0_0, b123, Try.f123, Option.getD, fstC, sndC, bodyC, thnC, elsC]
  simp (maxSteps := 1000000) (disch := omega) [eK123_0_0]
theorem l123 (l : List (Int × Int)) (hs : l.length ≤ 10000000) (σ : St) : ∀ (m i : Nat), i + m = l.length → exI TT (FI.of Try.f123 (TT.an 123)) K123_0 [(0, FS l), (3, .int .i64 i)] σ = some (.bool (vfl (l.drop i)), σ) := by
  intro m
  induction m with
  | zero =>
    intro i hi
    obtain rfl : i = l.length := by omega
    rw [List.drop_of_length_le (Nat.le_refl _)]
    exact e123 l.length (flat FC l) σ
  | succ m ih =>
    intro i hi
    have hil : i < l.length := by omega
    have c1 := v170 l[i].1 l[i].2 σ [.agg (FC l[i])] rfl
    rw [List.drop_eq_getElem_cons hil]
    have hi1 : ((i + 1 : Nat) : Int) = (i : Int) + 1 := by omega
    cases hv : vfr l[i].1 l[i].2 with
    | true =>
      rw [hv] at c1
      have h := ih (i + 1) (by omega)
      rw [hi1] at h
      have e : vfl (l[i] :: l.drop (i + 1)) = vfl (l.drop (i + 1)) := by unfold vfl; rw [List.all_cons, hv, Bool.true_and]
      rw [e, ← h]
      exact s123t l.length i (flat FC l) _ σ hil (FS_get hil σ) c1 (wrapA_id (by omega) (by omega))
    | false =>
      rw [hv] at c1
      have e : vfl (l[i] :: l.drop (i + 1)) = false := by unfold vfl; rw [List.all_cons, hv, Bool.false_and]
      rw [e]
      exact s123f l.length i (flat FC l) _ σ hil (FS_get hil σ) c1
theorem r123 (l : List (Int × Int)) (hs : l.length ≤ 10000000) : FnV TT 123 [FS l] (.bool (vfl l)) := by
  have h := l123 l hs ⟨[], 0⟩ l.length 0 (by omega)
  rw [List.drop_zero] at h
  refine FnV.mk (c := b123) fn123 rfl md123 ⟨⟨[], 0⟩, ?_⟩ (fun _ => rfl) rfl
  rw [← h, fi123]
  unfold FS
  simp only [b123, Try.f123, Option.getD, fstC, sndC, bodyC, thnC, elsC]
  simp (maxSteps := 1000000) (disch := omega) [eK123_0_0]
  rfl

theorem r174 (n d : Int) : FnV TT 174 [.agg [.int .i64 n, .int .i64 d]] (.bool (!vfr n d)) := by
  refine FnV.mk (c := Try.f174.body.getD .skip) fn174 rfl md174 (ex1 ?_) (fun _ => rfl) rfl
  have c1 := fun σ : St => v175 n d σ [.agg [.int .i64 n, .int .i64 d]] rfl
  rw [fi174]
  simp only [Try.f174, Option.getD]
  simp (maxSteps := 1000000) (disch := omega) [cellsAt, getCells, takeN, dropN, fieldAddrA, allOne, AV.one, n_push, storeCellsA, putN, overN, St.push, St.get, St.set, hget, hset, blt_dec, buildA, sizesOf, fillA, putCells, List.take_succ_cons, List.take_zero, List.drop_succ_cons, List.drop_zero, List.nil_append, List.cons_append, List.length_cons, List.length_nil, eqvs_dgs, c1]

noncomputable def b192 : Code := Try.f192.body.getD .skip
noncomputable def B192_0 : Code := (bodyC (bodyC (sndC (fstC (sndC b192)))))
noncomputable def K192_0 : List It := .lp B192_0 :: .blk 0 :: .code (sndC (sndC b192)) :: []
theorem xl192_0 {fi : FI} {env : Env} {σ : St} : exI TT fi K192_0 env σ = exI TT fi (.code B192_0 :: K192_0) env σ := by unfold K192_0; exact xI_lp
noncomputable def R192_0_0 : List It := .code (sndC (sndC b192)) :: []
theorem eK192_0_0 : exitA 0 K192_0 = some R192_0_0 := rfl
theorem s192t (n i : Nat) (cells x : List AV) (σ : St) (hi : i < n) (r1 : cellsAt σ (.lp cells (i * 2)) 2 = some x) (c1 : callI TT 174 [.agg x] σ = some (.bool true, σ)) :
    exI TT (FI.of Try.f192 (TT.an 192)) K192_0 [(0, .lst n cells), (1, .fn 174 [] []), (7, .int .i64 n), (8, .int .i64 i)] σ = some (.int .i64 i, σ) := by
  rw [fi192, xl192_0]
  simp only [B192_0, b192, Try.f192, Option.getD, fstC, sndC, bodyC, thnC, elsC]
  simp (maxSteps := 1000000) (disch := omega) [eK192_0_0, r1, c1, List.append_nil, List.nil_append]
theorem s192f (n i : Nat) (cells x : List AV) (σ : St) (hi : i < n) (r1 : cellsAt σ (.lp cells (i * 2)) 2 = some x) (c1 : callI TT 174 [.agg x] σ = some (.bool false, σ)) (hw : wrapA .i64 ((i : Int) + 1) = (i : Int) + 1) :
    exI TT (FI.of Try.f192 (TT.an 192)) K192_0 [(0, .lst n cells), (1, .fn 174 [] []), (7, .int .i64 n), (8, .int .i64 i)] σ = exI TT (FI.of Try.f192 (TT.an 192)) K192_0 [(0, .lst n cells), (1, .fn 174 [] []), (7, .int .i64 n), (8, .int .i64 ((i : Int) + 1))] σ := by
  rw [fi192]
  conv => lhs; rw [xl192_0]
  simp only [B192_0, b192, Try.f192, Option.getD, fstC, sndC, bodyC, thnC, elsC]
  simp (maxSteps := 1000000) (disch := omega) [eK192_0_0, r1, c1, hw, List.append_nil, List.nil_append]
theorem e192 (n : Nat) (cells : List AV) (σ : St) : exI TT (FI.of Try.f192 (TT.an 192)) K192_0 [(0, .lst n cells), (1, .fn 174 [] []), (7, .int .i64 n), (8, .int .i64 n)] σ = some (.int .i64 (-1), σ) := by
  rw [fi192, xl192_0]
  simp only [B192_0, b192, Try.f192, Option.getD, fstC, sndC, bodyC, thnC, elsC]
  simp (maxSteps := 1000000) (disch := omega) [eK192_0_0]
  simp only [R192_0_0, b192, Try.f192, Option.getD, fstC, sndC, bodyC, thnC, elsC]
  simp (maxSteps := 1000000) (disch := omega) [eK192_0_0]
theorem l192 (l : List (Int × Int)) (hs : l.length ≤ 10000000) (σ : St) : ∀ (m i : Nat), i + m = l.length → ∃ z : Int, exI TT (FI.of Try.f192 (TT.an 192)) K192_0 [(0, FS l), (1, .fn 174 [] []), (7, .int .i64 l.length), (8, .int .i64 i)] σ = some (.int .i64 z, σ) ∧ (0 ≤ z ↔ vfl (l.drop i) = false) := by
  intro m
  induction m with
  | zero =>
    intro i hi
    obtain rfl : i = l.length := by omega
    rw [List.drop_of_length_le (Nat.le_refl _)]
    exact ⟨-1, e192 l.length (flat FC l) σ, by simp [vfl]⟩
  | succ m ih =>
    intro i hi
    have hil : i < l.length := by omega
    have c1 := r174 l[i].1 l[i].2 σ [.agg (FC l[i])] rfl
    rw [List.drop_eq_getElem_cons hil]
    have hi1 : ((i + 1 : Nat) : Int) = (i : Int) + 1 := by omega
    cases hv : vfr l[i].1 l[i].2 with
    | true =>
      rw [hv] at c1
      obtain ⟨z, h1, h2⟩ := ih (i + 1) (by omega)
      rw [hi1] at h1
      have e : vfl (l[i] :: l.drop (i + 1)) = vfl (l.drop (i + 1)) := by unfold vfl; rw [List.all_cons, hv, Bool.true_and]
      refine ⟨z, ?_, by rw [e]; exact h2⟩
      rw [← h1]
      exact s192f l.length i (flat FC l) _ σ hil (FS_get hil σ) c1 (wrapA_id (by omega) (by omega))
    | false =>
      rw [hv] at c1
      have e : vfl (l[i] :: l.drop (i + 1)) = false := by unfold vfl; rw [List.all_cons, hv, Bool.false_and]
      exact ⟨i, s192t l.length i (flat FC l) _ σ hil (FS_get hil σ) c1, by rw [e]; simp⟩
theorem r192 (l : List (Int × Int)) (hs : l.length ≤ 10000000) (σ : St) : ∃ z : Int, callI TT 192 [FS l, .fn 174 [] []] σ = some (.int .i64 z, σ) ∧ (0 ≤ z ↔ vfl l = false) := by
  obtain ⟨z, h1, h2⟩ := l192 l hs σ l.length 0 (by omega)
  rw [List.drop_zero] at h2
  refine ⟨z, ?_, h2⟩
  rw [← h1, cI_0 fn192 rfl md192, fi192]
  unfold FS
  simp (maxSteps := 1000000) (disch := omega) [eK192_0_0]
  rfl

theorem r173 (l : List (Int × Int)) (hs : l.length ≤ 10000000) (σ : St) : callI TT 173 [FS l, .fn 174 [] []] σ = some (.bool (!vfl l), σ) := by
  obtain ⟨z, h1, h2⟩ := r192 l hs σ
  rw [cI_0 fn173 rfl md173, fi173]
  unfold FS at *
  cases hv : vfl l with
  | true =>
    have : z < 0 := by
      rw [hv] at h2
      refine Int.not_le.1 fun h => ?_
      have := h2.1 h
      cases this
    simp (maxSteps := 1000000) (disch := omega) [h1]
  | false =>
    have : 0 ≤ z := h2.2 hv
    simp (maxSteps := 1000000) (disch := omega) [h1]

theorem r132 (l : List (Int × Int)) (hs : l.length ≤ 10000000) : FnV TT 132 [FS l] (.bool (vfl l)) := by
  have c1 := r173 l hs
  refine FnV.mk (c := Try.f132.body.getD .skip) fn132 rfl md132 ⟨⟨[], 0⟩, ?_⟩ (fun _ => rfl) rfl
  rw [fi132]
  simp only [Try.f132, Option.getD]
  unfold FS at *
  simp (maxSteps := 1000000) (disch := omega) [c1]

noncomputable def b67 : Code := Try.f67.body.getD .skip
noncomputable def B67_0 : Code := (bodyC (bodyC (sndC (fstC (sndC (sndC (sndC b67)))))))
noncomputable def K67_0 : List It := .lp B67_0 :: .blk 0 :: .code (sndC (sndC (sndC (sndC b67)))) :: []
theorem xl67_0 {fi : FI} {env : Env} {σ : St} : exI TT fi K67_0 env σ = exI TT fi (.code B67_0 :: K67_0) env σ := by unfold K67_0; exact xI_lp
noncomputable def R67_0_0 : List It := .code (sndC (sndC (sndC (sndC b67)))) :: []
theorem eK67_0_0 : exitA 0 K67_0 = some R67_0_0 := rfl
def RC (q : Rat) : List AV := [.bool (ng q), NA (nm q), NA q.den]
theorem RC_one (q : Rat) : allOne (RC q) = true := rfl
theorem RC_eqv (q : Rat) : eqvs (RC q) (RC q) = true := by simp [RC, eqvs, AV.eqv, NA, eqvs_dgs]
set_option maxHeartbeats 1000000 in
theorem s67t (n i : Nat) (cells x s r t : List AV) (a : Int) (σ σ1 σ2 σ3 : St) (hi : i < n) (l1 : cellsAt σ (.lp cells (i * 2)) 2 = some x) (h2 : σ.push ⟨[.int .i64 0, .int .i64 0], 2, false⟩ = σ1) (hx : x.length = 2) (s1 : storeCellsA σ1 σ.n 0 x = some σ2) (l2 : cellsAt σ2 (.ptr σ.n 0) 1 = some [.int .i64 a]) (ha : 0 ≤ a) (l3 : cellsAt σ2 (.ptr 0 0) 3 = some s) (l4 : cellsAt σ2 (.ptr σ.n 0) 2 = some x)
    (c1 : callI TT 72 [.agg x] σ2 = some (.agg r, σ2)) (c2 : callI TT 85 [.agg s, .agg r] σ2 = some (.agg t, σ2)) (ht : t.length = 3) (s2 : storeCellsA σ2 0 0 t = some σ3) (hes : eqvs s s = true) (hw : wrapA .i64 ((i : Int) + 1) = (i : Int) + 1) :
    exI TT (FI.of Try.f67 (TT.an 67)) K67_0 [(3, .ptr 0 0), (16, .lst n cells), (17, .int .i64 n), (18, .int .i64 i)] σ = exI TT (FI.of Try.f67 (TT.an 67)) K67_0 [(3, .ptr 0 0), (16, .lst n cells), (17, .int .i64 n), (18, .int .i64 ((i : Int) + 1))] σ3 := by
  rw [fi67]
  conv => lhs; rw [xl67_0]
  simp only [B67_0, b67, Try.f67, Option.getD, fstC, sndC, bodyC, thnC, elsC]
  simp (maxSteps := 1000000) (disch := omega) [eK67_0_0, fieldAddrA, blt_dec, l1, h2, hx, s1, l2, l3, l4, c1, c2, ht, s2, hes, hw]
theorem s67f (n i : Nat) (cells x : List AV) (a : Int) (σ σ1 σ2 : St) (hi : i < n) (l1 : cellsAt σ (.lp cells (i * 2)) 2 = some x) (h2 : σ.push ⟨[.int .i64 0, .int .i64 0], 2, false⟩ = σ1) (hx : x.length = 2) (s1 : storeCellsA σ1 σ.n 0 x = some σ2) (l2 : cellsAt σ2 (.ptr σ.n 0) 1 = some [.int .i64 a]) (ha : a < 0) :
    exI TT (FI.of Try.f67 (TT.an 67)) K67_0 [(3, .ptr 0 0), (16, .lst n cells), (17, .int .i64 n), (18, .int .i64 i)] σ = some (.bool false, σ2) := by
  rw [fi67, xl67_0]
  simp only [B67_0, b67, Try.f67, Option.getD, fstC, sndC, bodyC, thnC, elsC]
  simp (maxSteps := 1000000) (disch := omega) [eK67_0_0, fieldAddrA, l1, h2, hx, s1, l2]
theorem e67 (n : Nat) (cells s o : List AV) (z : Int) (q : Bool) (σ : St) (l3 : cellsAt σ (.ptr 0 0) 3 = some s) (c1 : callI TT 84 [.int .i64 1] σ = some (.agg o, σ)) (c2 : callI TT 73 [.agg s, .agg o] σ = some (.int .i64 z, σ)) (hes : eqvs s s = true) (hq : decide (z = 0) = q) : exI TT (FI.of Try.f67 (TT.an 67)) K67_0 [(3, .ptr 0 0), (16, .lst n cells), (17, .int .i64 n), (18, .int .i64 n)] σ = some (.bool q, σ) := by
  subst hq
  rw [fi67, xl67_0]
  simp only [B67_0, b67, Try.f67, Option.getD, fstC, sndC, bodyC, thnC, elsC]
  simp (maxSteps := 1000000) (disch := omega) [eK67_0_0]
  simp only [R67_0_0, b67, Try.f67, Option.getD, fstC, sndC, bodyC, thnC, elsC]
  simp (maxSteps := 1000000) [-ieqb_t, -ieqb_f, -ieqb_self, eK67_0_0, takeN, dropN, fieldAddrA, allOne, AV.one, n_push, putN, overN, blt_dec, buildA, sizesOf, fillA, putCells, List.take_succ_cons, List.take_zero, List.drop_succ_cons, List.drop_zero, List.nil_append, List.cons_append, List.length_cons, List.length_nil, eqvs_dgs, l3, c1, c2, hes, ieqb_dec]
theorem b67f (n : Nat) (cells : List AV) (q1 q2 : Bool) (σ : St) (c0 : callI TT 130 [.lst n cells] σ = some (.int .i64 n, σ)) (c1 : callI TT 63 [.int .i64 n, .int .i64 1, .int .i64 16] σ = some (.bool q1, σ)) (c2 : callI TT 132 [.lst n cells] σ = some (.bool q2, σ)) (h : (q1 && q2) = false) : exI TT (FI.of Try.f67 (TT.an 67)) [.code b67] (paramsE 0 [.lst n cells]) σ = some (.bool false, σ) := by
  rw [fi67]
  simp only [b67, Try.f67, Option.getD, fstC, sndC, bodyC, thnC, elsC]
  cases q1 with
  | false =>
    simp (maxSteps := 1000000) (disch := omega) [eK67_0_0, c0, c1]
  | true => cases q2 with
    | true => exact absurd h (by decide)
    | false =>
      simp (maxSteps := 1000000) (disch := omega) [eK67_0_0, c0, c1, c2]
theorem b67t (n : Nat) (cells o : List AV) (σ1 : St) (c0 : callI TT 130 [.lst n cells] ⟨[], 0⟩ = some (.int .i64 n, ⟨[], 0⟩)) (c1 : callI TT 63 [.int .i64 n, .int .i64 1, .int .i64 16] ⟨[], 0⟩ = some (.bool true, ⟨[], 0⟩)) (c2 : callI TT 132 [.lst n cells] ⟨[], 0⟩ = some (.bool true, ⟨[], 0⟩)) (c3 : callI TT 84 [.int .i64 0] ⟨[], 0⟩ = some (.agg o, ⟨[], 0⟩)) (ho : o.length = 3) (s1 : storeCellsA ((⟨[], 0⟩ : St).push ⟨[.bool false, .nilS, .nilS], 3, false⟩) 0 0 o = some σ1) : exI TT (FI.of Try.f67 (TT.an 67)) [.code b67] (paramsE 0 [.lst n cells]) ⟨[], 0⟩ = exI TT (FI.of Try.f67 (TT.an 67)) K67_0 [(3, .ptr 0 0), (16, .lst n cells), (17, .int .i64 n), (18, .int .i64 0)] σ1 := by
  rw [fi67]
  simp only [b67, Try.f67, Option.getD, fstC, sndC, bodyC, thnC, elsC]
  simp (maxSteps := 1000000) (disch := omega) [eK67_0_0, c0, c1, c2, c3, ho, s1]
  rfl
theorem sumQ_succ (l : List (Int × Int)) (i : Nat) (h : i < l.length) : sumQ (l.take (i + 1)) = sumQ (l.take i) + rq l[i] := by
  rw [List.take_succ_eq_append_getElem h, sumQ, List.foldl_append]; rfl
theorem rq_bd {x : Int × Int} (h : vfr x.1 x.2 = true) : Bd 60 (rq x) := fits_bd (vfr_rat h).2.2
theorem l67 (l : List (Int × Int)) (hv : vfl l = true) (hs : l.length ≤ 16) : ∀ (m i : Nat) (σ : St), i + m = l.length → Bx σ 0 (RC (sumQ (l.take i))) → Bd (1 + i * 61) (sumQ (l.take i)) →
    ∃ σ', exI TT (FI.of Try.f67 (TT.an 67)) K67_0 [(3, .ptr 0 0), (16, FS l), (17, .int .i64 l.length), (18, .int .i64 i)] σ = some (.bool (((l.drop i).all fun x => decide (0 ≤ x.1)) && decide (sumQ l = 1)), σ') := by
  intro m
  induction m with
  | zero =>
    intro i σ hi hb hbd
    obtain rfl : i = l.length := by omega
    rw [List.take_of_length_le (Nat.le_refl _)] at hb hbd
    rw [List.drop_of_length_le (Nat.le_refl _)]
    have co := (r84 (n := 1) (by decide) (by decide)).pure σ rfl rfl
    have b1 : Bd (1 + l.length * 61) (mkRat 1 1) := (show Bd 1 (mkRat 1 1) from ⟨by decide, by decide⟩).mono (by omega)
    have cc := r73 hbd b1 (by omega) σ [RT (sumQ l), RT (mkRat 1 1)] rfl
    have e1 : decide (cmpR (sumQ l) (mkRat 1 1) = 0) = decide (sumQ l = 1) := by
      by_cases hh : sumQ l = 1
      · rw [decide_eq_true hh, decide_eq_true (show cmpR (sumQ l) (mkRat 1 1) = 0 from cmpR_zero.2 (by rw [hh]; rfl))]
      · rw [decide_eq_false hh, decide_eq_false (show ¬ cmpR (sumQ l) (mkRat 1 1) = 0 from fun h => hh ((cmpR_zero.1 h).trans rfl))]
    exact ⟨σ, e67 l.length (flat FC l) (RC (sumQ l)) _ _ _ σ (hb.rd rfl) co cc (RC_eqv _) e1⟩
  | succ m ih =>
    intro i σ hi hb hbd
    have hil : i < l.length := by omega
    have hvi : vfr l[i].1 l[i].2 = true := by
      simp only [vfl, List.all_eq_true] at hv
      exact hv _ (List.getElem_mem hil)
    have hx1 : Bx (σ.push ⟨[.int .i64 0, .int .i64 0], 2, false⟩) σ.n [.int .i64 0, .int .i64 0] := Bx.push
    obtain ⟨σ2, a1, a2, a3⟩ := hx1.st (ws := FC l[i]) rfl rfl
    have hlt := hb.lt
    have hb2 : Bx σ2 0 (RC (sumQ (l.take i))) := (hb.old Old.push).but (by omega) a3
    have l4 := a2.rd (n := 2) rfl
    have l2 : cellsAt σ2 (.ptr σ.n 0) 1 = some [.int .i64 l[i].1] := by
      obtain ⟨⟨mm, hg⟩, _⟩ := a2
      simp [cellsAt, hg, getCells, dropN, takeN, FC]
    rw [List.drop_eq_getElem_cons hil, List.all_cons]
    by_cases ha : 0 ≤ l[i].1
    · have c1 := (r72 hvi).pure σ2 rfl rfl
      have hrb := rq_bd hvi
      have c2 := (r85 (hbd.mono (show 1 + i * 61 ≤ 1 + i * 61 + 60 by omega)) (hrb.mono (show 60 ≤ 1 + i * 61 + 60 by omega)) (by omega)).pure σ2 rfl rfl
      have hsum : RT (sumQ (l.take i) + rq l[i]) = .agg (RC (sumQ (l.take (i + 1)))) := by rw [sumQ_succ l i hil]; rfl
      obtain ⟨σ3, d1, d2, d3⟩ := hb2.st (ws := RC (sumQ (l.take (i + 1)))) rfl (RC_one _)
      have hbd2 : Bd (1 + (i + 1) * 61) (sumQ (l.take (i + 1))) := by
        rw [sumQ_succ l i hil]
        exact (hbd.add hrb).mono (by omega)
      obtain ⟨σ', k1⟩ := ih (i + 1) σ3 (by omega) d2 hbd2
      have hi1 : ((i + 1 : Nat) : Int) = (i : Int) + 1 := by omega
      rw [hi1] at k1
      refine ⟨σ', ?_⟩
      rw [decide_eq_true ha, Bool.true_and, ← k1]
      exact s67t l.length i (flat FC l) (FC l[i]) _ _ _ _ σ _ σ2 σ3 hil (FS_get hil σ) rfl rfl a1 l2 ha (hb2.rd rfl) l4 c1 (c2.trans (by rw [hsum])) rfl d1 (RC_eqv _) (wrapA_id (by omega) (by omega))
    · rw [decide_eq_false ha]
      exact ⟨σ2, s67f l.length i (flat FC l) (FC l[i]) _ σ _ σ2 hil (FS_get hil σ) rfl rfl a1 l2 (by omega)⟩
theorem r67 (l : List (Int × Int)) (hs : l.length ≤ 10000000) : FnV TT 67 [FS l] (.bool (isCh l)) := by
  have c0 := v130 l ⟨[], 0⟩ [FS l] rfl
  have c1 := v63 l.length 1 16 ⟨[], 0⟩ [.int .i64 l.length, .int .i64 1, .int .i64 16] rfl
  have c2 := r132 l hs ⟨[], 0⟩ [FS l] rfl
  by_cases h : 1 ≤ l.length ∧ l.length ≤ 16 ∧ vfl l = true
  · obtain ⟨h1, h2, h3⟩ := h
    rw [decide_eq_true (by omega), decide_eq_true (by omega)] at c1
    rw [h3] at c2
    have c3 := (r84 (n := 0) (by decide) (by decide)).pure ⟨[], 0⟩ rfl rfl
    have hb0 : Bx ((⟨[], 0⟩ : St).push ⟨[.bool false, .nilS, .nilS], 3, false⟩) 0 [.bool false, .nilS, .nilS] := Bx.push
    obtain ⟨σ1, a1, a2, a3⟩ := hb0.st (ws := RC 0) rfl (RC_one _)
    obtain ⟨σ', k1⟩ := l67 l h3 h2 l.length 0 σ1 (by omega) (by rw [List.take_zero]; exact a2) (by rw [List.take_zero]; exact ⟨by decide, by decide⟩)
    rw [List.drop_zero] at k1
    have e2 : isCh l = ((l.all fun x => decide (0 ≤ x.1)) && decide (sumQ l = 1)) := by
      unfold isCh; rw [decide_eq_true h1, decide_eq_true h2, h3]; rfl
    rw [e2]
    exact FnV.mk (c := b67) fn67 rfl md67 ⟨σ', (b67t l.length (flat FC l) (RC 0) σ1 c0 c1 c2 c3 rfl a1).trans k1⟩ (fun _ => rfl) rfl
  · have e2 : isCh l = false := by
      cases hx : isCh l with
      | false => rfl
      | true =>
        simp only [isCh, Bool.and_eq_true, decide_eq_true_eq] at hx
        exact absurd ⟨hx.1.1, hx.1.2, hx.2.1⟩ h
    rw [e2]
    refine FnV.mk (c := b67) fn67 rfl md67 ⟨⟨[], 0⟩, b67f l.length (flat FC l) _ _ _ c0 c1 c2 ?_⟩ (fun _ => rfl) rfl
    cases hq : (decide (1 ≤ (l.length : Int)) && decide ((l.length : Int) ≤ 16)) with
    | false => rfl
    | true =>
      cases hv : vfl l with
      | false => rfl
      | true =>
        simp only [Bool.and_eq_true, decide_eq_true_eq] at hq
        exact absurd ⟨by omega, by omega, hv⟩ h

theorem r58 (a b : Int) : FnV TT 58 [.agg [.int .i64 a, .int .i64 b]] (.agg [.int .i64 a, .int .i64 b]) := by
  refine FnV.mk (c := Try.f58.body.getD .skip) fn58 rfl md58 (ex1 ?_) (fun _ => rfl) rfl
  rw [fi58]
  simp only [Try.f58, Option.getD]
  simp (maxSteps := 1000000) (disch := omega) [cellsAt, getCells, takeN, dropN, fieldAddrA, allOne, AV.one, n_push, storeCellsA, putN, overN, St.push, St.get, St.set, hget, hset, blt_dec, buildA, sizesOf, fillA, putCells, List.take_succ_cons, List.take_zero, List.drop_succ_cons, List.drop_zero, List.nil_append, List.cons_append, List.length_cons, List.length_nil, eqvs_dgs]

noncomputable def b16 : Code := Try.f16.body.getD .skip
noncomputable def B16_0 : Code := (bodyC (bodyC (sndC (fstC (sndC (sndC b16))))))
noncomputable def K16_0 : List It := .lp B16_0 :: .blk 0 :: .code (sndC (sndC (sndC b16))) :: []
theorem xl16_0 {fi : FI} {env : Env} {σ : St} : exI TT fi K16_0 env σ = exI TT fi (.code B16_0 :: K16_0) env σ := by unfold K16_0; exact xI_lp
noncomputable def R16_0_0 : List It := .code (sndC (sndC (sndC b16))) :: []
theorem eK16_0_0 : exitA 0 K16_0 = some R16_0_0 := rfl
theorem s16 (n b i : Nat) (cells x : List AV) (σ σ1 : St) (hi : i < n) (r1 : cellsAt σ (.lp cells (i * 2)) 2 = some x) (c1 : callI TT 58 [.agg x] σ = some (.agg x, σ)) (hx : x.length = 2) (s1 : storeCellsA σ b (i * 2) x = some σ1) (hw : wrapA .i64 ((i : Int) + 1) = (i : Int) + 1) :
    exI TT (FI.of Try.f16 (TT.an 16)) K16_0 [(0, .lst n cells), (3, .sl b 0 n n), (4, .int .i64 i)] σ = exI TT (FI.of Try.f16 (TT.an 16)) K16_0 [(0, .lst n cells), (3, .sl b 0 n n), (4, .int .i64 ((i : Int) + 1))] σ1 := by
  rw [fi16]
  conv => lhs; rw [xl16_0]
  simp only [B16_0, b16, Try.f16, Option.getD, fstC, sndC, bodyC, thnC, elsC]
  simp (maxSteps := 1000000) (disch := omega) [eK16_0_0, r1, c1, hx, s1, hw]
theorem e16 (n b : Nat) (cells : List AV) (σ : St) : exI TT (FI.of Try.f16 (TT.an 16)) K16_0 [(0, .lst n cells), (3, .sl b 0 n n), (4, .int .i64 n)] σ = some (.sl b 0 n n, σ) := by
  rw [fi16, xl16_0]
  simp only [B16_0, b16, Try.f16, Option.getD, fstC, sndC, bodyC, thnC, elsC]
  simp (maxSteps := 1000000) (disch := omega) [eK16_0_0]
  simp only [R16_0_0, b16, Try.f16, Option.getD, fstC, sndC, bodyC, thnC, elsC]
  simp (maxSteps := 1000000) (disch := omega) [eK16_0_0]
theorem put_el {pre z w suf : List AV} (hz : z.length = w.length) : putCells (pre ++ (z ++ suf)) pre.length w = pre ++ (w ++ suf) := by
  unfold putCells
  rw [List.take_left' rfl, ← List.drop_drop, List.drop_left, ← hz, List.drop_left, List.append_assoc]
theorem make_el {T : Tab} {σ : St} {st e : TypeId} {k : TK} {es y n : Nat} {z : List AV} (ht : T.ty st = some ⟨.slice e, 1, 24, [.nilS]⟩) (he : T.ty e = some ⟨k, es, y, z⟩) (hy : y ≤ 100) (hn : n ≤ 100000000000) :
    makeSliceA T σ st (.int .i64 n) (.int .i64 n) = some (.sl σ.n 0 n n, σ.push ⟨repeatCells z n, es, false⟩) := by
  unfold makeSliceA
  simp only [ht, he]
  have h1 : (n : Int) * (y : Int) ≤ 140737488355328 := by
    have : n * y ≤ 100000000000 * 100 := Nat.mul_le_mul hn hy
    rw [← Int.natCast_mul]; omega
  rw [if_pos ⟨by omega, by omega, h1, by omega⟩]
  simp
theorem l16 (l : List (Int × Int)) (hs : l.length ≤ 10000000) (b : Nat) : ∀ (m i : Nat) (σ : St), i + m = l.length → RowE σ b 2 (flat FC (l.take i) ++ repeatCells [.int .i64 0, .int .i64 0] m) →
    ∃ σ', exI TT (FI.of Try.f16 (TT.an 16)) K16_0 [(0, FS l), (3, .sl b 0 l.length l.length), (4, .int .i64 i)] σ = some (.sl b 0 l.length l.length, σ') ∧ RowE σ' b 2 (flat FC l) := by
  intro m
  induction m with
  | zero =>
    intro i σ hi hr
    obtain rfl : i = l.length := by omega
    rw [List.take_of_length_le (Nat.le_refl _), repeatCells, List.append_nil] at hr
    exact ⟨σ, e16 l.length b (flat FC l) σ, hr⟩
  | succ m ih =>
    intro i σ hi hr
    have hil : i < l.length := by omega
    have hpl : (flat FC (l.take i)).length = i * 2 := by rw [flat_len FC_len, List.length_take, Nat.min_eq_left (by omega)]
    obtain ⟨σ1, a1, a2, _⟩ := hr.st (i := i * 2) (ws := FC l[i]) (by rw [List.length_append, hpl, repeatCells, List.length_append]; simp [FC]) rfl
    rw [repeatCells, ← hpl, put_el (by rfl), ← List.append_assoc] at a2
    have e : flat FC (l.take i) ++ FC l[i] = flat FC (l.take (i + 1)) := by rw [List.take_succ_eq_append_getElem hil, flat_app]; simp [flat]
    rw [e] at a2
    obtain ⟨σ', k1, k2⟩ := ih (i + 1) σ1 (by omega) a2
    refine ⟨σ', ?_, k2⟩
    rw [← k1]
    have hi1 : ((i + 1 : Nat) : Int) = (i : Int) + 1 := by omega
    rw [hi1]
    exact s16 l.length b i (flat FC l) (FC l[i]) σ σ1 hil (FS_get hil σ) (r58 _ _ σ _ rfl) rfl a1 (wrapA_id (by omega) (by omega))
theorem FC_frz (σ : St) (d : Nat) (x : Int × Int) : mapO (frzV σ (d + 1)) (FC x) = some (FC x) := rfl
theorem RC_len (q : Rat) : (RC q).length = 3 := rfl
theorem RC_frz (σ : St) (d : Nat) (q : Rat) : mapO (frzV σ (d + 1)) (RC q) = some (RC q) := rfl
/-- A list of ratios. -/
def RS (l : List Rat) : AV := .lst l.length (flat RC l)
theorem RS_get {l : List Rat} {i : Nat} (h : i < l.length) (σ : St) : cellsAt σ (.lp (flat RC l) (i * 3)) 3 = some (RC l[i]) := flat_get RC_len l i _ (List.getElem?_eq_getElem h)
/-- A variable of a loop: a new box. -/
theorem new_box {σ : St} {z x : List AV} {m : Nat} (hz : z.length = x.length) (hx : allOne x = true) : ∃ σ2, storeCellsA (σ.push ⟨z, m, false⟩) σ.n 0 x = some σ2 ∧ Bx σ2 σ.n x ∧ Old σ σ2 ∧ σ2.n = σ.n + 1 := by
  have h1 : Bx (σ.push ⟨z, m, false⟩) σ.n z := Bx.push
  obtain ⟨σ2, a1, a2, a3⟩ := h1.st (ws := x) hz.symm hx
  exact ⟨σ2, a1, a2, ⟨by rw [a3.1]; exact Nat.le_succ _, fun c hc => by rw [a3.2 c (by omega)]; exact get_push_lt hc⟩, a3.1⟩
/-- Sums. -/
def sumI (f : Nat → Rat) : Nat → Rat
  | 0 => 0
  | n + 1 => sumI f n + f n
def adQ (p q : List Rat) (i : Nat) : Rat := (p.getD i 0 - q.getD i 0).abs
def distQ (p q : List Rat) : Rat := sumI (adQ p q) p.length / 2
theorem getD_of {α : Type} {l : List α} {i : Nat} {d : α} (h : i < l.length) : l.getD i d = l[i] := by simp [List.getD_eq_getElem?_getD, h]
theorem adQ_of {p q : List Rat} {i : Nat} (h : i < p.length) (k : i < q.length) : adQ p q i = (p[i] - q[i]).abs := by rw [adQ, getD_of h, getD_of k]

noncomputable def b79 : Code := Try.f79.body.getD .skip
noncomputable def B79_0 : Code := (bodyC (bodyC (sndC (fstC (sndC (sndC b79))))))
noncomputable def K79_0 : List It := .lp B79_0 :: .blk 0 :: .code (sndC (sndC (sndC b79))) :: []
theorem xl79_0 {fi : FI} {env : Env} {σ : St} : exI TT fi K79_0 env σ = exI TT fi (.code B79_0 :: K79_0) env σ := by unfold K79_0; exact xI_lp
noncomputable def R79_0_0 : List It := .code (sndC (sndC (sndC b79))) :: []
theorem eK79_0_0 : exitA 0 K79_0 = some R79_0_0 := rfl
set_option maxHeartbeats 4000000 in
theorem s79 (n i b m b2 m2 : Nat) (cells x r : List AV) (σ σ2 σ3 σ4 : St) (hi : i < n) (l1 : cellsAt σ (.lp cells (i * 2)) 2 = some x) (hx : x.length = 2) (s1 : storeCellsA (σ.push ⟨[.int .i64 0, .int .i64 0], 2, false⟩) σ.n 0 x = some σ2) (l4 : cellsAt σ2 (.ptr σ.n 0) 2 = some x) (c1 : callI TT 72 [.agg x] σ2 = some (.agg r, σ2)) (c2 : buildSliceA TT σ2 104 1 [(0, .agg r)] = some (.sl σ2.n 0 1 1, σ3)) (c3 : appendA TT σ3 104 104 (.sl b 0 m m) (.sl σ2.n 0 1 1) = some (.sl b2 0 m2 m2, σ4)) (hw : wrapA .i64 ((i : Int) + 1) = (i : Int) + 1) :
    exI TT (FI.of Try.f79 (TT.an 79)) K79_0 [(3, .sl b 0 m m), (7, .lst n cells), (8, .int .i64 n), (9, .int .i64 i)] σ = exI TT (FI.of Try.f79 (TT.an 79)) K79_0 [(3, .sl b2 0 m2 m2), (7, .lst n cells), (8, .int .i64 n), (9, .int .i64 ((i : Int) + 1))] σ4 := by
  rw [fi79]
  conv => lhs; rw [xl79_0]
  simp only [B79_0, b79, Try.f79, Option.getD, fstC, sndC, bodyC, thnC, elsC]
  simp (maxSteps := 1000000) (disch := omega) [eK79_0_0, getCells, takeN, dropN, fieldAddrA, allOne, AV.one, n_push, putN, overN, blt_dec, buildA, sizesOf, fillA, putCells, List.take_succ_cons, List.take_zero, List.drop_succ_cons, List.drop_zero, List.nil_append, List.cons_append, List.length_cons, List.length_nil, eqvs_dgs, hi, l1, hx, s1, l4, c1, c2, c3, hw]
set_option maxHeartbeats 4000000 in
theorem e79 (n b m : Nat) (cells : List AV) (σ : St)  :
    exI TT (FI.of Try.f79 (TT.an 79)) K79_0 [(3, .sl b 0 m m), (7, .lst n cells), (8, .int .i64 n), (9, .int .i64 n)] σ = some (.sl b 0 m m, σ) := by
  rw [fi79]
  conv => lhs; rw [xl79_0]
  simp only [B79_0, b79, Try.f79, Option.getD, fstC, sndC, bodyC, thnC, elsC]
  simp (maxSteps := 1000000) (disch := omega) [eK79_0_0, cellsAt, getCells, takeN, dropN, fieldAddrA, allOne, AV.one, n_push, storeCellsA, putN, overN, St.push, St.get, St.set, hget, hset, blt_dec, buildA, sizesOf, fillA, putCells, List.take_succ_cons, List.take_zero, List.drop_succ_cons, List.drop_zero, List.nil_append, List.cons_append, List.length_cons, List.length_nil, eqvs_dgs]
  simp only [R79_0_0, b79, Try.f79, Option.getD, fstC, sndC, bodyC, thnC, elsC]
  simp (maxSteps := 1000000) (disch := omega) [eK79_0_0, cellsAt, getCells, takeN, dropN, fieldAddrA, allOne, AV.one, n_push, storeCellsA, putN, overN, St.push, St.get, St.set, hget, hset, blt_dec, buildA, sizesOf, fillA, putCells, List.take_succ_cons, List.take_zero, List.drop_succ_cons, List.drop_zero, List.nil_append, List.cons_append, List.length_cons, List.length_nil, eqvs_dgs]
set_option maxHeartbeats 4000000 in
theorem b79e (n : Nat) (cells : List AV) (σ1 : St) (c1 : buildSliceA TT ⟨[], 0⟩ 104 0 [] = some (.sl 0 0 0 0, σ1)) :
    exI TT (FI.of Try.f79 (TT.an 79)) [.code b79] (paramsE 0 [.lst n cells]) ⟨[], 0⟩ = exI TT (FI.of Try.f79 (TT.an 79)) K79_0 [(3, .sl 0 0 0 0), (7, .lst n cells), (8, .int .i64 n), (9, .int .i64 0)] σ1 := by
  rw [fi79]
  simp only [b79, Try.f79, Option.getD, fstC, sndC, bodyC, thnC, elsC]
  simp (maxSteps := 1000000) (disch := omega) [eK79_0_0, cellsAt, getCells, takeN, dropN, fieldAddrA, allOne, AV.one, n_push, storeCellsA, putN, overN, St.push, St.get, St.set, hget, hset, blt_dec, buildA, sizesOf, fillA, putCells, List.take_succ_cons, List.take_zero, List.drop_succ_cons, List.drop_zero, List.nil_append, List.cons_append, List.length_cons, List.length_nil, eqvs_dgs, c1]
  rfl
theorem l79 (l : List (Int × Int)) (hv : vfl l = true) (hs : l.length ≤ 1000000) : ∀ (m i b : Nat) (σ : St), i + m = l.length → RowE σ b 3 (flat RC ((l.take i).map rq)) →
    ∃ b' σ', exI TT (FI.of Try.f79 (TT.an 79)) K79_0 [(3, .sl b 0 i i), (7, FS l), (8, .int .i64 l.length), (9, .int .i64 i)] σ = some (.sl b' 0 l.length l.length, σ') ∧ RowE σ' b' 3 (flat RC (l.map rq)) := by
  intro m
  induction m with
  | zero =>
    intro i b σ hi hr
    obtain rfl : i = l.length := by omega
    rw [List.take_of_length_le (Nat.le_refl _)] at hr
    exact ⟨b, σ, e79 l.length b l.length (flat FC l) σ, hr⟩
  | succ m ih =>
    intro i b σ hi hr
    have hil : i < l.length := by omega
    have hvi : vfr l[i].1 l[i].2 = true := by
      simp only [vfl, List.all_eq_true] at hv
      exact hv _ (List.getElem_mem hil)
    obtain ⟨σ2, a1, a2, a3, a4⟩ := new_box (σ := σ) (z := [.int .i64 0, .int .i64 0]) (x := FC l[i]) (m := 2) rfl rfl
    have c1 := (r72 hvi).pure σ2 rfl rfl
    have c2 := build_el (T := TT) (σ := σ2) (st := 104) (w := RC (rq l[i])) ty104 ty92 (by decide) rfl rfl rfl
    have hr2 := hr.old a3
    obtain ⟨σ4, d1, d2, _⟩ := append_el (T := TT) (st := 104) (n := i) ty104 ty92 (fun _ _ => trivial) (by decide) (RC_len (rq l[i])) (RC_one _) (by rw [flat_len RC_len]; simp; omega) hr2 (by omega)
    have e : flat RC ((l.take i).map rq) ++ RC (rq l[i]) = flat RC ((l.take (i + 1)).map rq) := by
      rw [List.take_succ_eq_append_getElem hil, List.map_append, flat_app]; simp [flat]
    rw [e] at d2
    obtain ⟨b', σ', k1, k2⟩ := ih (i + 1) (σ2.n + 1) σ4 (by omega) d2
    refine ⟨b', σ', ?_, k2⟩
    rw [← k1]
    have hi1 : ((i + 1 : Nat) : Int) = (i : Int) + 1 := by omega
    rw [hi1]
    exact s79 l.length i b i (σ2.n + 1) (i + 1) (flat FC l) (FC l[i]) (RC (rq l[i])) σ σ2 _ σ4 hil (FS_get hil σ) rfl a1 (a2.rd rfl) c1 c2 d1 (wrapA_id (by omega) (by omega))
theorem r79 (l : List (Int × Int)) (hv : vfl l = true) (hs : l.length ≤ 1000000) : FnF TT 79 [FS l] (RS (l.map rq)) := by
  have hb := build_e0 (T := TT) (σ := ⟨[], 0⟩) (st := 104) ty104 ty92
  obtain ⟨b', σ', k1, k2⟩ := l79 l hv hs l.length 0 0 _ (by omega) (RowE.push (σ := ⟨[], 0⟩) (cs := []) (e := 3) (o := false))
  refine FnF.mk (c := b79) fn79 rfl md79 ⟨σ', _, (b79e _ _ _ hb).trans k1, ?_⟩
  have := k2.frz (d := 4) (n := l.length) (c := l.length) (by rw [flat_len RC_len]; simp) (flat_frz (fun v => RC_frz σ' 4 v) _) (Nat.le_refl _)
  rw [show RS (l.map rq) = .lst l.length (flat RC (l.map rq)) by simp [RS]]
  exact this

noncomputable def b78 : Code := Try.f78.body.getD .skip
noncomputable def B78_0 : Code := (bodyC (bodyC (sndC (fstC (sndC (sndC b78))))))
noncomputable def K78_0 : List It := .lp B78_0 :: .blk 0 :: .code (sndC (sndC (sndC b78))) :: []
theorem xl78_0 {fi : FI} {env : Env} {σ : St} : exI TT fi K78_0 env σ = exI TT fi (.code B78_0 :: K78_0) env σ := by unfold K78_0; exact xI_lp
noncomputable def R78_0_0 : List It := .code (sndC (sndC (sndC b78))) :: []
theorem eK78_0_0 : exitA 0 K78_0 = some R78_0_0 := rfl
set_option maxHeartbeats 4000000 in
theorem s78 (n i n2 : Nat) (cells cells2 x y s u v t : List AV) (σ σ2 σ3 : St) (hi : i < n) (hi2 : i < n2) (l1 : cellsAt σ (.lp cells (i * 3)) 3 = some x) (hx : x.length = 3) (s1 : storeCellsA (σ.push ⟨[.bool false, .nilS, .nilS], 3, false⟩) σ.n 0 x = some σ2) (l3 : cellsAt σ2 (.ptr 1 0) 3 = some s) (l4 : cellsAt σ2 (.ptr σ.n 0) 3 = some x) (l5 : cellsAt σ2 (.lp cells2 (i * 3)) 3 = some y) (c1 : callI TT 109 [.agg x, .agg y] σ2 = some (.agg u, σ2)) (c2 : callI TT 110 [.agg u] σ2 = some (.agg v, σ2)) (c3 : callI TT 85 [.agg s, .agg v] σ2 = some (.agg t, σ2)) (ht : t.length = 3) (s2 : storeCellsA σ2 1 0 t = some σ3) (hes : eqvs s s = true) (hw : wrapA .i64 ((i : Int) + 1) = (i : Int) + 1) :
    exI TT (FI.of Try.f78 (TT.an 78)) K78_0 [(1, .lst n2 cells2), (4, .ptr 0 0), (5, .ptr 1 0), (9, .lst n cells), (10, .int .i64 n), (11, .int .i64 i)] σ = exI TT (FI.of Try.f78 (TT.an 78)) K78_0 [(1, .lst n2 cells2), (4, .ptr 0 0), (5, .ptr 1 0), (9, .lst n cells), (10, .int .i64 n), (11, .int .i64 ((i : Int) + 1))] σ3 := by
  rw [fi78]
  conv => lhs; rw [xl78_0]
  simp only [B78_0, b78, Try.f78, Option.getD, fstC, sndC, bodyC, thnC, elsC]
  simp (maxSteps := 1000000) (disch := omega) [eK78_0_0, getCells, takeN, dropN, fieldAddrA, allOne, AV.one, n_push, putN, overN, blt_dec, buildA, sizesOf, fillA, putCells, List.take_succ_cons, List.take_zero, List.drop_succ_cons, List.drop_zero, List.nil_append, List.cons_append, List.length_cons, List.length_nil, eqvs_dgs, hi, hi2, l1, hx, s1, l3, l4, l5, c1, c2, c3, ht, s2, hes, hw]
set_option maxHeartbeats 4000000 in
theorem e78 (n n2 : Nat) (cells cells2 s o t : List AV) (σ σ1 : St) (l3 : cellsAt σ (.ptr 1 0) 3 = some s) (c1 : callI TT 84 [.int .i64 2] σ = some (.agg o, σ)) (c2 : callI TT 111 [.agg s, .agg o] σ = some (.agg t, σ)) (ht : t.length = 3) (s1 : storeCellsA σ 0 0 t = some σ1) (l4 : cellsAt σ1 (.ptr 0 0) 3 = some t) (hes : eqvs s s = true) :
    exI TT (FI.of Try.f78 (TT.an 78)) K78_0 [(1, .lst n2 cells2), (4, .ptr 0 0), (5, .ptr 1 0), (9, .lst n cells), (10, .int .i64 n), (11, .int .i64 n)] σ = some (.agg t, σ1) := by
  rw [fi78]
  conv => lhs; rw [xl78_0]
  simp only [B78_0, b78, Try.f78, Option.getD, fstC, sndC, bodyC, thnC, elsC]
  simp (maxSteps := 1000000) (disch := omega) [eK78_0_0, cellsAt, getCells, takeN, dropN, fieldAddrA, allOne, AV.one, n_push, storeCellsA, putN, overN, St.push, St.get, St.set, hget, hset, blt_dec, buildA, sizesOf, fillA, putCells, List.take_succ_cons, List.take_zero, List.drop_succ_cons, List.drop_zero, List.nil_append, List.cons_append, List.length_cons, List.length_nil, eqvs_dgs]
  simp only [R78_0_0, b78, Try.f78, Option.getD, fstC, sndC, bodyC, thnC, elsC]
  simp (maxSteps := 1000000) (disch := omega) [eK78_0_0, getCells, takeN, dropN, fieldAddrA, allOne, AV.one, n_push, putN, overN, blt_dec, buildA, sizesOf, fillA, putCells, List.take_succ_cons, List.take_zero, List.drop_succ_cons, List.drop_zero, List.nil_append, List.cons_append, List.length_cons, List.length_nil, eqvs_dgs, l3, c1, c2, ht, s1, l4, hes]
set_option maxHeartbeats 4000000 in
theorem b78e (n n2 : Nat) (cells cells2 o : List AV) (σ1 σ2 σ3 : St) (h1 : (⟨[], 0⟩ : St).push ⟨[.bool false, .nilS, .nilS], 3, false⟩ = σ1) (hn : σ1.n = 1) (c1 : callI TT 84 [.int .i64 0] σ1 = some (.agg o, σ1)) (ho : o.length = 3) (h2 : σ1.push ⟨[.bool false, .nilS, .nilS], 3, false⟩ = σ2) (s1 : storeCellsA σ2 1 0 o = some σ3) :
    exI TT (FI.of Try.f78 (TT.an 78)) [.code b78] (paramsE 0 [.lst n cells, .lst n2 cells2]) ⟨[], 0⟩ = exI TT (FI.of Try.f78 (TT.an 78)) K78_0 [(1, .lst n2 cells2), (4, .ptr 0 0), (5, .ptr 1 0), (9, .lst n cells), (10, .int .i64 n), (11, .int .i64 0)] σ3 := by
  rw [fi78]
  simp only [b78, Try.f78, Option.getD, fstC, sndC, bodyC, thnC, elsC]
  simp (maxSteps := 1000000) (disch := omega) [eK78_0_0, getCells, takeN, dropN, fieldAddrA, allOne, AV.one, n_push, putN, overN, blt_dec, buildA, sizesOf, fillA, putCells, List.take_succ_cons, List.take_zero, List.drop_succ_cons, List.drop_zero, List.nil_append, List.cons_append, List.length_cons, List.length_nil, eqvs_dgs, h1, hn, c1, ho, h2, s1]
  rfl
theorem l78 (p q : List Rat) (hpq : q.length = p.length) (k : Nat) (hp : ∀ x ∈ p, Bd k x) (hq : ∀ x ∈ q, Bd k x) (hk : (p.length + 1) * (2 * k + 3) ≤ 400000000) : ∀ (m i : Nat) (σ : St), i + m = p.length → Bx σ 1 (RC (sumI (adQ p q) i)) → Bd (2 + i * (2 * k + 2)) (sumI (adQ p q) i) → (∃ z, Bx σ 0 z ∧ z.length = 3) →
    ∃ σ', exI TT (FI.of Try.f78 (TT.an 78)) K78_0 [(1, RS q), (4, .ptr 0 0), (5, .ptr 1 0), (9, RS p), (10, .int .i64 p.length), (11, .int .i64 i)] σ = some (RT (distQ p q), σ') := by
  have hkk : p.length * (2 * k + 2) + (2 * k + 3) ≤ 400000000 := by
    have e : (p.length + 1) * (2 * k + 3) = p.length * (2 * k + 3) + (2 * k + 3) := by rw [Nat.add_mul, Nat.one_mul]
    have : p.length * (2 * k + 2) ≤ p.length * (2 * k + 3) := Nat.mul_le_mul_left _ (by omega)
    omega
  have hpl : p.length ≤ p.length * (2 * k + 2) := Nat.le_mul_of_pos_right _ (by omega)
  intro m
  induction m with
  | zero =>
    intro i σ hi hb hbd hz
    obtain rfl : i = p.length := by omega
    have co := (r84 (n := 2) (by decide) (by decide)).pure σ rfl rfl
    have b2 : Bd (2 + p.length * (2 * k + 2)) (mkRat 2 1) := (show Bd 2 (mkRat 2 1) from ⟨by decide, by decide⟩).mono (by omega)
    have cv := (r111 hbd b2 (by decide) (by omega)).pure σ rfl rfl
    obtain ⟨z, hz, hzl⟩ := hz
    obtain ⟨σ1, a1, a2, a3⟩ := hz.st (ws := RC (sumI (adQ p q) p.length / mkRat 2 1)) (by rw [hzl]; rfl) (RC_one _)
    exact ⟨σ1, e78 p.length q.length (flat RC p) (flat RC q) _ _ _ σ σ1 (hb.rd rfl) co cv rfl a1 (a2.rd rfl) (RC_eqv _)⟩
  | succ m ih =>
    intro i σ hi hb hbd hz
    have hil : i < p.length := by omega
    have hiq : i < q.length := by omega
    obtain ⟨σ2, a1, a2, a3, a4⟩ := new_box (σ := σ) (z := [.bool false, .nilS, .nilS]) (x := RC p[i]) (m := 3) rfl rfl
    have hb2 := hb.old a3
    obtain ⟨z, hz, hzl⟩ := hz
    have hz2 := hz.old a3
    have bp := hp _ (List.getElem_mem hil)
    have bq := hq _ (List.getElem_mem hiq)
    have cm := (r109 bp bq (by omega)).pure σ2 rfl rfl
    have bm := bp.sub bq
    have ca := (r110 (p[i] - q[i])).pure σ2 rfl rfl
    have hmul : i * (2 * k + 2) ≤ p.length * (2 * k + 2) := Nat.mul_le_mul_right _ (by omega)
    have cp := (r85 (hbd.mono (show _ ≤ 2 + i * (2 * k + 2) + (k + k + 1) by omega)) (bm.abs.mono (show _ ≤ 2 + i * (2 * k + 2) + (k + k + 1) by omega)) (by omega)).pure σ2 rfl rfl
    have hs : sumI (adQ p q) (i + 1) = sumI (adQ p q) i + (p[i] - q[i]).abs := by rw [sumI, adQ_of hil hiq]
    obtain ⟨σ3, d1, d2, d3⟩ := hb2.st (ws := RC (sumI (adQ p q) (i + 1))) rfl (RC_one _)
    have hbd2 : Bd (2 + (i + 1) * (2 * k + 2)) (sumI (adQ p q) (i + 1)) := by
      rw [hs]
      exact (hbd.add bm.abs).mono (by rw [Nat.add_mul]; omega)
    obtain ⟨σ', k1⟩ := ih (i + 1) σ3 (by omega) d2 hbd2 ⟨z, hz2.but (by decide) d3, hzl⟩
    have hi1 : ((i + 1 : Nat) : Int) = (i : Int) + 1 := by omega
    rw [hi1] at k1
    refine ⟨σ', ?_⟩
    rw [← k1]
    exact s78 p.length i q.length (flat RC p) (flat RC q) (RC p[i]) (RC q[i]) _ _ _ (RC (sumI (adQ p q) (i + 1))) σ σ2 σ3 hil hiq (RS_get hil σ) rfl a1 (hb2.rd rfl) (a2.rd rfl) (RS_get hiq σ2) cm ca (cp.trans (by rw [hs]; rfl)) rfl d1 (RC_eqv _) (wrapA_id (by omega) (by omega))
theorem r78 (p q : List Rat) (hpq : q.length = p.length) (k : Nat) (hp : ∀ x ∈ p, Bd k x) (hq : ∀ x ∈ q, Bd k x) (hk : (p.length + 1) * (2 * k + 3) ≤ 400000000) : FnF TT 78 [RS p, RS q] (RT (distQ p q)) := by
  have co := fun σ : St => (r84 (n := 0) (by decide) (by decide)).pure σ rfl rfl
  have hb1 : Bx (((⟨[], 0⟩ : St).push ⟨[.bool false, .nilS, .nilS], 3, false⟩).push ⟨[.bool false, .nilS, .nilS], 3, false⟩) 1 [.bool false, .nilS, .nilS] := Bx.push
  have hb0 : Bx (((⟨[], 0⟩ : St).push ⟨[.bool false, .nilS, .nilS], 3, false⟩).push ⟨[.bool false, .nilS, .nilS], 3, false⟩) 0 [.bool false, .nilS, .nilS] := Bx.push.old Old.push
  obtain ⟨σ3, a1, a2, a3⟩ := hb1.st (ws := RC (mkRat 0 1)) rfl (RC_one _)
  obtain ⟨σ', h1⟩ := l78 p q hpq k hp hq hk p.length 0 σ3 (by omega) a2 ((show Bd 2 (0 : Rat) from ⟨by decide +kernel, by decide +kernel⟩).mono (by omega)) ⟨_, hb0.but (by decide) a3, rfl⟩
  refine FnF.mkv (c := b78) fn78 rfl md78 ⟨σ', ?_⟩ (fun _ => rfl)
  refine Eq.trans ?_ h1
  exact b78e _ _ _ _ _ _ _ σ3 rfl rfl (co _) rfl rfl a1

set_option maxHeartbeats 4000000 in
theorem k28f1 (n n2 : Nat) (cells cells2 : List AV) (c1 : ∀ σ, callI TT 67 [.lst n cells] σ = some (.bool false, σ)) :
    ∃ σ', exI TT (FI.of Try.f28 (TT.an 28)) [.code (Try.f28.body.getD .skip)] (paramsE 0 [.lst n cells, .lst n2 cells2]) ⟨[], 0⟩ = some (.tup [.agg [.int .i64 0, .int .i64 0], .bool false], σ') := by
  refine ex1 ?_
  rw [fi28]
  simp only [Try.f28, Option.getD]
  simp (maxSteps := 1000000) (disch := omega) [cellsAt, getCells, takeN, dropN, fieldAddrA, allOne, AV.one, n_push, storeCellsA, putN, overN, St.push, St.get, St.set, hget, hset, blt_dec, buildA, sizesOf, fillA, putCells, List.take_succ_cons, List.take_zero, List.drop_succ_cons, List.drop_zero, List.nil_append, List.cons_append, List.length_cons, List.length_nil, eqvs_dgs, c1]
set_option maxHeartbeats 4000000 in
theorem k28f2 (n n2 : Nat) (cells cells2 : List AV) (c1 : ∀ σ, callI TT 67 [.lst n cells] σ = some (.bool true, σ)) (c2 : ∀ σ, callI TT 67 [.lst n2 cells2] σ = some (.bool false, σ)) :
    ∃ σ', exI TT (FI.of Try.f28 (TT.an 28)) [.code (Try.f28.body.getD .skip)] (paramsE 0 [.lst n cells, .lst n2 cells2]) ⟨[], 0⟩ = some (.tup [.agg [.int .i64 0, .int .i64 0], .bool false], σ') := by
  refine ex1 ?_
  rw [fi28]
  simp only [Try.f28, Option.getD]
  simp (maxSteps := 1000000) (disch := omega) [cellsAt, getCells, takeN, dropN, fieldAddrA, allOne, AV.one, n_push, storeCellsA, putN, overN, St.push, St.get, St.set, hget, hset, blt_dec, buildA, sizesOf, fillA, putCells, List.take_succ_cons, List.take_zero, List.drop_succ_cons, List.drop_zero, List.nil_append, List.cons_append, List.length_cons, List.length_nil, eqvs_dgs, c1, c2]
set_option maxHeartbeats 4000000 in
theorem k28f3 (n n2 : Nat) (cells cells2 : List AV) (c1 : ∀ σ, callI TT 67 [.lst n cells] σ = some (.bool true, σ)) (c2 : ∀ σ, callI TT 67 [.lst n2 cells2] σ = some (.bool true, σ)) (h0 : ieqb (n : Int) n2 = false) :
    ∃ σ', exI TT (FI.of Try.f28 (TT.an 28)) [.code (Try.f28.body.getD .skip)] (paramsE 0 [.lst n cells, .lst n2 cells2]) ⟨[], 0⟩ = some (.tup [.agg [.int .i64 0, .int .i64 0], .bool false], σ') := by
  refine ex1 ?_
  rw [fi28]
  simp only [Try.f28, Option.getD]
  simp (maxSteps := 1000000) (disch := omega) [cellsAt, getCells, takeN, dropN, fieldAddrA, allOne, AV.one, n_push, storeCellsA, putN, overN, St.push, St.get, St.set, hget, hset, blt_dec, buildA, sizesOf, fillA, putCells, List.take_succ_cons, List.take_zero, List.drop_succ_cons, List.drop_zero, List.nil_append, List.cons_append, List.length_cons, List.length_nil, eqvs_dgs, c1, c2, h0]
theorem k28f (n n2 : Nat) (cells cells2 : List AV) (b1 b2 : Bool) (c1 : ∀ σ, callI TT 67 [.lst n cells] σ = some (.bool b1, σ)) (c2 : ∀ σ, callI TT 67 [.lst n2 cells2] σ = some (.bool b2, σ)) (h0 : b1 = true → b2 = true → ieqb (n : Int) n2 = false) : ∃ σ', exI TT (FI.of Try.f28 (TT.an 28)) [.code (Try.f28.body.getD .skip)] (paramsE 0 [.lst n cells, .lst n2 cells2]) ⟨[], 0⟩ = some (.tup [.agg [.int .i64 0, .int .i64 0], .bool false], σ') := by
  cases b1 with
  | false => exact k28f1 n n2 cells cells2 c1
  | true => cases b2 with
    | false => exact k28f2 n n2 cells cells2 c1 c2
    | true => exact k28f3 n n2 cells cells2 c1 c2 (h0 rfl rfl)
set_option maxHeartbeats 4000000 in
theorem k28t (n : Nat) (cells cells2 w1 w2 t : List AV) (a b : Int) (c : Bool) (c1 : ∀ σ, callI TT 67 [.lst n cells] σ = some (.bool true, σ)) (c2 : ∀ σ, callI TT 67 [.lst n cells2] σ = some (.bool true, σ)) (c3 : ∀ σ, callI TT 79 [.lst n cells] σ = some (.lst n w1, σ)) (c4 : ∀ σ, callI TT 79 [.lst n cells2] σ = some (.lst n w2, σ)) (c5 : ∀ σ, callI TT 78 [.lst n w1, .lst n w2] σ = some (.agg t, σ)) (c6 : ∀ σ, callI TT 80 [.agg t] σ = some (.tup [.agg [.int .i64 a, .int .i64 b], .bool c], σ)) :
    ∃ σ', exI TT (FI.of Try.f28 (TT.an 28)) [.code (Try.f28.body.getD .skip)] (paramsE 0 [.lst n cells, .lst n cells2]) ⟨[], 0⟩ = some (.tup [.agg [.int .i64 a, .int .i64 b], .bool c], σ') := by
  refine ex1 ?_
  rw [fi28]
  simp only [Try.f28, Option.getD]
  simp (maxSteps := 1000000) (disch := omega) [cellsAt, getCells, takeN, dropN, fieldAddrA, allOne, AV.one, n_push, storeCellsA, putN, overN, St.push, St.get, St.set, hget, hset, blt_dec, buildA, sizesOf, fillA, putCells, List.take_succ_cons, List.take_zero, List.drop_succ_cons, List.drop_zero, List.nil_append, List.cons_append, List.length_cons, List.length_nil, eqvs_dgs, c1, c2, c3, c4, c5, c6]
def frF : AV := .tup [.agg [.int .i64 0, .int .i64 0], .bool false]
theorem frA_is (q : Rat) : ∃ a b c, frA q = .tup [.agg [.int .i64 a, .int .i64 b], .bool c] := by
  unfold frA
  split <;> exact ⟨_, _, _, rfl⟩
theorem frA_frz (q : Rat) (σ : St) : frzV σ frzDepth (frA q) = some (frA q) := by
  obtain ⟨a, b, c, h⟩ := frA_is q
  rw [h]; rfl
theorem frA_scal (q : Rat) : (frA q).scal = true := by
  obtain ⟨a, b, c, h⟩ := frA_is q
  rw [h]; rfl
def valDist (l l2 : List (Int × Int)) : AV := if (isCh l && (isCh l2 && decide (l.length = l2.length))) = true then frA (distQ (l.map rq) (l2.map rq)) else frF
theorem isCh_b {l : List (Int × Int)} (h : isCh l = true) : 1 ≤ l.length ∧ l.length ≤ 16 ∧ vfl l = true ∧ (∀ x ∈ l, 0 ≤ x.1) ∧ sumQ l = 1 := by
  simp only [isCh, Bool.and_eq_true, decide_eq_true_eq, List.all_eq_true] at h
  exact ⟨h.1.1, h.1.2, h.2.1, h.2.2.1, h.2.2.2⟩
theorem rq_bds {l : List (Int × Int)} (h : vfl l = true) : ∀ x ∈ l.map rq, Bd 60 x := by
  intro x hx
  obtain ⟨y, hy, rfl⟩ := List.mem_map.1 hx
  simp only [vfl, List.all_eq_true] at h
  exact rq_bd (h y hy)
theorem distQ_bd {p q : List Rat} {k : Nat} (hpq : q.length = p.length) (hp : ∀ x ∈ p, Bd k x) (hq : ∀ x ∈ q, Bd k x) : Bd (4 + p.length * (2 * k + 2)) (distQ p q) := by
  have h : ∀ n, n ≤ p.length → Bd (2 + n * (2 * k + 2)) (sumI (adQ p q) n) := by
    intro n
    induction n with
    | zero => intro _; exact (show Bd 2 (0 : Rat) from ⟨by decide +kernel, by decide +kernel⟩).mono (by omega)
    | succ n ih =>
      intro hn
      have h1 : n < p.length := by omega
      have h2 : n < q.length := by omega
      rw [sumI, adQ_of h1 h2]
      exact ((ih (by omega)).add ((hp _ (List.getElem_mem h1)).sub (hq _ (List.getElem_mem h2))).abs).mono (by rw [Nat.add_mul]; omega)
  have h2 : Bd 2 ((2 : Rat)⁻¹) := ⟨by decide +kernel, by decide +kernel⟩
  rw [distQ, Rat.div_def]
  exact ((h p.length (Nat.le_refl _)).mul h2).mono (by omega)
theorem r28 (l l2 : List (Int × Int)) (hs : l.length ≤ 10000000) (hs2 : l2.length ≤ 10000000) : FnV TT 28 [FS l, FS l2] (valDist l l2) := by
  have c1 := fun σ : St => r67 l hs σ [FS l] rfl
  have c2 := fun σ : St => r67 l2 hs2 σ [FS l2] rfl
  unfold valDist
  by_cases h : isCh l = true ∧ isCh l2 = true ∧ l.length = l2.length
  · obtain ⟨h1, h2, h3⟩ := h
    rw [if_pos (by simp [h1, h2, h3])]
    rw [h1] at c1
    rw [h2] at c2
    obtain ⟨a1, a2, a3, _, _⟩ := isCh_b h1
    obtain ⟨b1, b2, b3, _, _⟩ := isCh_b h2
    have c3 := r79 l a3 (by omega)
    have c4 := r79 l2 b3 (by omega)
    have hlen : (l2.map rq).length = (l.map rq).length := by simp [h3]
    have hll : (l.map rq).length = l.length := by simp
    have hmul : (l.length + 1) * (2 * 60 + 3) ≤ 17 * 123 := Nat.mul_le_mul (by omega) (by decide)
    have c5 := r78 (l.map rq) (l2.map rq) hlen 60 (rq_bds a3) (rq_bds b3) (by rw [hll]; omega)
    have hmul2 : l.length * (2 * 60 + 2) ≤ 16 * 122 := Nat.mul_le_mul a2 (by decide)
    have c6 := r80 (distQ_bd hlen (rq_bds a3) (rq_bds b3)) (by rw [hll]; omega)
    generalize distQ (l.map rq) (l2.map rq) = d at *
    have f1 := frA_frz d
    have f2 := frA_scal d
    obtain ⟨a, b, c, hR⟩ := frA_is d
    rw [hR] at c6 f1 f2 ⊢
    have e1 : RS (l.map rq) = .lst l.length (flat RC (l.map rq)) := by simp [RS]
    have e2 : RS (l2.map rq) = .lst l.length (flat RC (l2.map rq)) := by simp [RS, h3]
    rw [e1] at c3 c5
    rw [e2] at c4 c5
    have e3 : FS l2 = .lst l.length (flat FC l2) := by rw [FS, h3]
    rw [e3] at c2 c4 ⊢
    exact FnV.mk fn28 rfl md28 (k28t l.length (flat FC l) (flat FC l2) _ _ _ a b c c1 c2 (fun σ => c3.pure σ rfl rfl) (fun σ => c4.pure σ rfl rfl) (fun σ => c5.pure σ rfl rfl) (fun σ => c6 σ _ rfl)) f1 f2
  · rw [if_neg (by simpa using h)]
    exact FnV.mk fn28 rfl md28 (k28f _ _ _ _ _ _ c1 c2 (fun h1 h2 => ieqb_f fun h3 => h ⟨h1, h2, by omega⟩)) (fun _ => rfl) rfl
def gmax (m x : Int × Int) : Int × Int := if 0 < cmpR (rq x) (rq m) then x else m
theorem FC_eqv (x : Int × Int) : eqvs (FC x) (FC x) = true := by simp [FC, eqvs, AV.eqv]
theorem vfl_get {l : List (Int × Int)} (hv : vfl l = true) {i : Nat} (h : i < l.length) : vfr l[i].1 l[i].2 = true := by
  simp only [vfl, List.all_eq_true] at hv
  exact hv _ (List.getElem_mem h)

noncomputable def b24 : Code := Try.f24.body.getD .skip
noncomputable def B24_0 : Code := (bodyC (bodyC (sndC (fstC (sndC (sndC (sndC b24)))))))
noncomputable def K24_0 : List It := .lp B24_0 :: .blk 0 :: .code (sndC (sndC (sndC (sndC b24)))) :: []
theorem xl24_0 {fi : FI} {env : Env} {σ : St} : exI TT fi K24_0 env σ = exI TT fi (.code B24_0 :: K24_0) env σ := by unfold K24_0; exact xI_lp
noncomputable def R24_0_0 : List It := .code (sndC (sndC (sndC (sndC b24)))) :: []
theorem eK24_0_0 : exitA 0 K24_0 = some R24_0_0 := rfl
set_option maxHeartbeats 4000000 in
theorem s24k (n i : Nat) (cells x y : List AV) (z : Int) (σ : St) (hi : i < n) (l1 : cellsAt σ (.lp cells (i * 2)) 2 = some x) (l2 : cellsAt σ (.ptr 1 0) 2 = some y) (c1 : callI TT 69 [.agg x, .agg y] σ = some (.int .i64 z, σ)) (hy : eqvs y y = true) (hz : z ≤ 0) (hw : wrapA .i64 ((i : Int) + 1) = (i : Int) + 1) :
    exI TT (FI.of Try.f24 (TT.an 24)) K24_0 [(0, .lst n cells), (2, .ptr 0 0), (4, .ptr 1 0), (5, .int .i64 i)] σ = exI TT (FI.of Try.f24 (TT.an 24)) K24_0 [(0, .lst n cells), (2, .ptr 0 0), (4, .ptr 1 0), (5, .int .i64 ((i : Int) + 1))] σ := by
  rw [fi24]
  conv => lhs; rw [xl24_0]
  simp only [B24_0, b24, Try.f24, Option.getD, fstC, sndC, bodyC, thnC, elsC]
  simp (maxSteps := 1000000) (disch := omega) [eK24_0_0, getCells, takeN, dropN, fieldAddrA, allOne, AV.one, n_push, putN, overN, blt_dec, buildA, sizesOf, fillA, putCells, List.take_succ_cons, List.take_zero, List.drop_succ_cons, List.drop_zero, List.nil_append, List.cons_append, List.length_cons, List.length_nil, eqvs_dgs, hi, l1, l2, c1, hy, hz, hw]
set_option maxHeartbeats 4000000 in
theorem s24t (n i : Nat) (cells x y : List AV) (z : Int) (σ σ1 : St) (hi : i < n) (l1 : cellsAt σ (.lp cells (i * 2)) 2 = some x) (l2 : cellsAt σ (.ptr 1 0) 2 = some y) (c1 : callI TT 69 [.agg x, .agg y] σ = some (.int .i64 z, σ)) (hy : eqvs y y = true) (hz : 0 < z) (hx : x.length = 2) (s1 : storeCellsA σ 1 0 x = some σ1) (hw : wrapA .i64 ((i : Int) + 1) = (i : Int) + 1) :
    exI TT (FI.of Try.f24 (TT.an 24)) K24_0 [(0, .lst n cells), (2, .ptr 0 0), (4, .ptr 1 0), (5, .int .i64 i)] σ = exI TT (FI.of Try.f24 (TT.an 24)) K24_0 [(0, .lst n cells), (2, .ptr 0 0), (4, .ptr 1 0), (5, .int .i64 ((i : Int) + 1))] σ1 := by
  rw [fi24]
  conv => lhs; rw [xl24_0]
  simp only [B24_0, b24, Try.f24, Option.getD, fstC, sndC, bodyC, thnC, elsC]
  simp (maxSteps := 1000000) (disch := omega) [eK24_0_0, getCells, takeN, dropN, fieldAddrA, allOne, AV.one, n_push, putN, overN, blt_dec, buildA, sizesOf, fillA, putCells, List.take_succ_cons, List.take_zero, List.drop_succ_cons, List.drop_zero, List.nil_append, List.cons_append, List.length_cons, List.length_nil, eqvs_dgs, hi, l1, l2, c1, hy, hz, hx, s1, hw]
set_option maxHeartbeats 4000000 in
theorem e24 (n : Nat) (cells y : List AV) (σ σ1 : St) (l2 : cellsAt σ (.ptr 1 0) 2 = some y) (hy : y.length = 2) (s1 : storeCellsA σ 0 0 y = some σ1) (l3 : cellsAt σ1 (.ptr 0 0) 2 = some y) :
    exI TT (FI.of Try.f24 (TT.an 24)) K24_0 [(0, .lst n cells), (2, .ptr 0 0), (4, .ptr 1 0), (5, .int .i64 n)] σ = some (.tup [.agg y, .bool true], σ1) := by
  rw [fi24]
  conv => lhs; rw [xl24_0]
  simp only [B24_0, b24, Try.f24, Option.getD, fstC, sndC, bodyC, thnC, elsC]
  simp (maxSteps := 1000000) (disch := omega) [eK24_0_0, cellsAt, getCells, takeN, dropN, fieldAddrA, allOne, AV.one, n_push, storeCellsA, putN, overN, St.push, St.get, St.set, hget, hset, blt_dec, buildA, sizesOf, fillA, putCells, List.take_succ_cons, List.take_zero, List.drop_succ_cons, List.drop_zero, List.nil_append, List.cons_append, List.length_cons, List.length_nil, eqvs_dgs]
  simp only [R24_0_0, b24, Try.f24, Option.getD, fstC, sndC, bodyC, thnC, elsC]
  simp (maxSteps := 1000000) (disch := omega) [eK24_0_0, getCells, takeN, dropN, fieldAddrA, allOne, AV.one, n_push, putN, overN, blt_dec, buildA, sizesOf, fillA, putCells, List.take_succ_cons, List.take_zero, List.drop_succ_cons, List.drop_zero, List.nil_append, List.cons_append, List.length_cons, List.length_nil, eqvs_dgs, l2, hy, s1, l3]
theorem l24 (l : List (Int × Int)) (hv : vfl l = true) (hs : l.length ≤ 1000000) : ∀ (m i : Nat) (σ : St) (y : Int × Int), i + m = l.length → vfr y.1 y.2 = true → Bx σ 1 (FC y) → (∃ z, Bx σ 0 z ∧ z.length = 2) →
    ∃ σ', exI TT (FI.of Try.f24 (TT.an 24)) K24_0 [(0, FS l), (2, .ptr 0 0), (4, .ptr 1 0), (5, .int .i64 i)] σ = some (.tup [.agg (FC ((l.drop i).foldl gmax y)), .bool true], σ') := by
  intro m
  induction m with
  | zero =>
    intro i σ y hi hy hb hz
    obtain rfl : i = l.length := by omega
    obtain ⟨z, hz, hzl⟩ := hz
    obtain ⟨σ1, a1, a2, a3⟩ := hz.st (ws := FC y) (by rw [hzl]; rfl) (FC_one _)
    rw [List.drop_of_length_le (Nat.le_refl _)]
    exact ⟨σ1, e24 l.length (flat FC l) (FC y) σ σ1 (hb.rd rfl) rfl a1 (a2.rd rfl)⟩
  | succ m ih =>
    intro i σ y hi hy hb hz
    have hil : i < l.length := by omega
    have hvi := vfl_get hv hil
    have hi1 : ((i + 1 : Nat) : Int) = (i : Int) + 1 := by omega
    have hw : wrapA .i64 ((i : Int) + 1) = (i : Int) + 1 := wrapA_id (by omega) (by omega)
    have c1 := v69 hvi hy σ [.agg (FC l[i]), .agg (FC y)] rfl
    rw [List.drop_eq_getElem_cons hil, List.foldl_cons]
    by_cases hc : 0 < cmpR (rq l[i]) (rq y)
    · obtain ⟨z, hz, hzl⟩ := hz
      obtain ⟨σ1, a1, a2, a3⟩ := hb.st (ws := FC l[i]) rfl (FC_one _)
      obtain ⟨σ', k1⟩ := ih (i + 1) σ1 l[i] (by omega) hvi a2 ⟨z, hz.but (by decide) a3, hzl⟩
      rw [hi1] at k1
      refine ⟨σ', ?_⟩
      rw [show gmax y l[i] = l[i] from if_pos hc, ← k1]
      exact s24t l.length i (flat FC l) (FC l[i]) (FC y) _ σ σ1 hil (FS_get hil σ) (hb.rd rfl) c1 (FC_eqv _) hc rfl a1 hw
    · obtain ⟨σ', k1⟩ := ih (i + 1) σ y (by omega) hy hb hz
      rw [hi1] at k1
      refine ⟨σ', ?_⟩
      rw [show gmax y l[i] = y from if_neg hc, ← k1]
      exact s24k l.length i (flat FC l) (FC l[i]) (FC y) _ σ hil (FS_get hil σ) (hb.rd rfl) c1 (FC_eqv _) (Int.not_lt.1 hc) hw
/-- Lists of lists. -/
def F1 (r : List (Int × Int)) : List AV := [FS r]
def FSS (ls : List (List (Int × Int))) : AV := .lst ls.length (flat F1 ls)
theorem flat1_get {α : Type} {f : α → AV} {l : List α} {i : Nat} (h : i < l.length) (σ : St) : cellsAt σ (.lp (flat (fun x => [f x]) l) i) 1 = some [f l[i]] := by
  have := flat_get (f := fun x => [f x]) (w := 1) (fun _ => rfl) l i _ (List.getElem?_eq_getElem h)
  rw [Nat.mul_one] at this
  exact this
theorem FSS_get {ls : List (List (Int × Int))} {i : Nat} (h : i < ls.length) (σ : St) : cellsAt σ (.lp (flat F1 ls) i) 1 = some [FS ls[i]] := flat1_get h σ
theorem build_v {T : Tab} {σ : St} {st e : TypeId} {k : TK} {y : Nat} {z : List AV} {v : AV} (ht : T.ty st = some ⟨.slice e, 1, 24, [.nilS]⟩) (he : T.ty e = some ⟨k, 1, y, z⟩) (hv : v.cellsOf = [v]) (hz : z.length = 1) (h1 : v.one = true) : buildSliceA T σ st 1 [(0, v)] = some (.sl σ.n 0 1 1, σ.push ⟨[v], 1, false⟩) := by
  have hp : putCells (z ++ []) (0 * 1) [v] = [v] := by
    rw [List.append_nil, Nat.zero_mul, putCells, List.take_zero, List.nil_append, Nat.zero_add, List.drop_of_length_le (by simp [hz]), List.append_nil]
  simp only [buildSliceA, ht, he, repeatCells, fillA, hv]
  rw [if_pos (by omega)]
  rw [List.append_nil, Nat.zero_mul] at hp
  simp [allOne, h1, hz, hp]

/-- Valid walks. -/
def rowOk (n : Nat) (r : List (Int × Int)) : Bool := decide (r.length = n) && isCh r
def isWk (ls : List (List (Int × Int))) : Bool := (decide (1 ≤ ls.length) && decide (ls.length ≤ 6)) && ls.all (rowOk ls.length)

set_option maxHeartbeats 4000000 in
theorem k64 (n : Nat) (c : List AV)  :
    ∃ σ', exI TT (FI.of Try.f64 (TT.an 64)) [.code (Try.f64.body.getD .skip)] (paramsE 0 [.lst n c]) ⟨[], 0⟩ = some (.int .i64 n, σ') := by
  refine ex1 ?_
  rw [fi64]
  simp only [Try.f64, Option.getD]
  simp (maxSteps := 1000000) (disch := omega) [cellsAt, getCells, takeN, dropN, fieldAddrA, allOne, AV.one, n_push, storeCellsA, putN, overN, St.push, St.get, St.set, hget, hset, blt_dec, buildA, sizesOf, fillA, putCells, List.take_succ_cons, List.take_zero, List.drop_succ_cons, List.drop_zero, List.nil_append, List.cons_append, List.length_cons, List.length_nil, eqvs_dgs]
theorem r64 (n : Nat) (c : List AV) : FnV TT 64 [.lst n c] (.int .i64 n) := FnV.mk fn64 rfl md64 (k64 n c) (fun _ => rfl) rfl
theorem r66 (ls : List (List (Int × Int))) (r : List (Int × Int)) (hr : r.length ≤ 10000000) (b : Nat) (σ : St) (l0 : cellsAt σ (.ptr b 0) 1 = some [FSS ls]) : callI TT 66 [FS r, .ptr b 0] σ = some (.bool (!rowOk ls.length r), σ) := by
  have c1 := r67 r hr σ [FS r] rfl
  unfold FSS at l0
  unfold rowOk
  rw [cI_0 fn66 rfl md66, fi66]
  generalize isCh r = q at *
  by_cases h : r.length = ls.length
  · rw [decide_eq_true h]
    have e : FS r = .lst ls.length (flat FC r) := by rw [FS, h]
    rw [e] at c1 ⊢
    cases q <;>
    simp (maxSteps := 1000000) (disch := omega) [getCells, takeN, dropN, fieldAddrA, allOne, AV.one, n_push, putN, overN, blt_dec, buildA, sizesOf, fillA, putCells, List.take_succ_cons, List.take_zero, List.drop_succ_cons, List.drop_zero, List.nil_append, List.cons_append, List.length_cons, List.length_nil, eqvs_dgs, l0, c1]
  · rw [decide_eq_false h]
    have h0 : ieqb (r.length : Int) ls.length = false := ieqb_f (by omega)
    unfold FS
    simp (maxSteps := 1000000) (disch := omega) [getCells, takeN, dropN, fieldAddrA, allOne, AV.one, n_push, putN, overN, blt_dec, buildA, sizesOf, fillA, putCells, List.take_succ_cons, List.take_zero, List.drop_succ_cons, List.drop_zero, List.nil_append, List.cons_append, List.length_cons, List.length_nil, eqvs_dgs, l0, h0]

noncomputable def b131 : Code := Try.f131.body.getD .skip
noncomputable def B131_0 : Code := (bodyC (bodyC (sndC (fstC (sndC b131)))))
noncomputable def K131_0 : List It := .lp B131_0 :: .blk 0 :: .code (sndC (sndC b131)) :: []
theorem xl131_0 {fi : FI} {env : Env} {σ : St} : exI TT fi K131_0 env σ = exI TT fi (.code B131_0 :: K131_0) env σ := by unfold K131_0; exact xI_lp
noncomputable def R131_0_0 : List It := .code (sndC (sndC b131)) :: []
theorem eK131_0_0 : exitA 0 K131_0 = some R131_0_0 := rfl
set_option maxHeartbeats 4000000 in
theorem s131t (n b i : Nat) (cells : List AV) (v : AV) (σ : St) (hi : i < n) (l1 : cellsAt σ (.lp cells i) 1 = some [v]) (c1 : callI TT 66 [v, .ptr b 0] σ = some (.bool true, σ)) :
    exI TT (FI.of Try.f131 (TT.an 131)) K131_0 [(0, .lst n cells), (1, .fn 66 [] [.ptr b 0]), (7, .int .i64 n), (8, .int .i64 i)] σ = some (.int .i64 i, σ) := by
  rw [fi131]
  conv => lhs; rw [xl131_0]
  simp only [B131_0, b131, Try.f131, Option.getD, fstC, sndC, bodyC, thnC, elsC]
  simp (maxSteps := 1000000) (disch := omega) [eK131_0_0, getCells, takeN, dropN, fieldAddrA, allOne, AV.one, n_push, putN, overN, blt_dec, buildA, sizesOf, fillA, putCells, List.take_succ_cons, List.take_zero, List.drop_succ_cons, List.drop_zero, List.nil_append, List.cons_append, List.length_cons, List.length_nil, eqvs_dgs, List.append_nil, hi, l1, c1]
set_option maxHeartbeats 4000000 in
theorem s131f (n b i : Nat) (cells : List AV) (v : AV) (σ : St) (hi : i < n) (l1 : cellsAt σ (.lp cells i) 1 = some [v]) (c1 : callI TT 66 [v, .ptr b 0] σ = some (.bool false, σ)) (hw : wrapA .i64 ((i : Int) + 1) = (i : Int) + 1) :
    exI TT (FI.of Try.f131 (TT.an 131)) K131_0 [(0, .lst n cells), (1, .fn 66 [] [.ptr b 0]), (7, .int .i64 n), (8, .int .i64 i)] σ = exI TT (FI.of Try.f131 (TT.an 131)) K131_0 [(0, .lst n cells), (1, .fn 66 [] [.ptr b 0]), (7, .int .i64 n), (8, .int .i64 ((i : Int) + 1))] σ := by
  rw [fi131]
  conv => lhs; rw [xl131_0]
  simp only [B131_0, b131, Try.f131, Option.getD, fstC, sndC, bodyC, thnC, elsC]
  simp (maxSteps := 1000000) (disch := omega) [eK131_0_0, getCells, takeN, dropN, fieldAddrA, allOne, AV.one, n_push, putN, overN, blt_dec, buildA, sizesOf, fillA, putCells, List.take_succ_cons, List.take_zero, List.drop_succ_cons, List.drop_zero, List.nil_append, List.cons_append, List.length_cons, List.length_nil, eqvs_dgs, List.append_nil, hi, l1, c1, hw]
set_option maxHeartbeats 4000000 in
theorem e131 (n b : Nat) (cells : List AV) (σ : St)  :
    exI TT (FI.of Try.f131 (TT.an 131)) K131_0 [(0, .lst n cells), (1, .fn 66 [] [.ptr b 0]), (7, .int .i64 n), (8, .int .i64 n)] σ = some (.int .i64 (-1), σ) := by
  rw [fi131]
  conv => lhs; rw [xl131_0]
  simp only [B131_0, b131, Try.f131, Option.getD, fstC, sndC, bodyC, thnC, elsC]
  simp (maxSteps := 1000000) (disch := omega) [eK131_0_0, getCells, takeN, dropN, fieldAddrA, allOne, AV.one, n_push, putN, overN, blt_dec, buildA, sizesOf, fillA, putCells, List.take_succ_cons, List.take_zero, List.drop_succ_cons, List.drop_zero, List.nil_append, List.cons_append, List.length_cons, List.length_nil, eqvs_dgs]
  simp only [R131_0_0, b131, Try.f131, Option.getD, fstC, sndC, bodyC, thnC, elsC]
  simp (maxSteps := 1000000) (disch := omega) [eK131_0_0, getCells, takeN, dropN, fieldAddrA, allOne, AV.one, n_push, putN, overN, blt_dec, buildA, sizesOf, fillA, putCells, List.take_succ_cons, List.take_zero, List.drop_succ_cons, List.drop_zero, List.nil_append, List.cons_append, List.length_cons, List.length_nil, eqvs_dgs]
set_option maxHeartbeats 4000000 in
theorem b131e (n b : Nat) (cells : List AV) (σ : St)  :
    exI TT (FI.of Try.f131 (TT.an 131)) [.code b131] (paramsE 0 [.lst n cells, .fn 66 [] [.ptr b 0]]) σ = exI TT (FI.of Try.f131 (TT.an 131)) K131_0 [(0, .lst n cells), (1, .fn 66 [] [.ptr b 0]), (7, .int .i64 n), (8, .int .i64 0)] σ := by
  rw [fi131]
  simp only [b131, Try.f131, Option.getD, fstC, sndC, bodyC, thnC, elsC]
  simp (maxSteps := 1000000) (disch := omega) [eK131_0_0, getCells, takeN, dropN, fieldAddrA, allOne, AV.one, n_push, putN, overN, blt_dec, buildA, sizesOf, fillA, putCells, List.take_succ_cons, List.take_zero, List.drop_succ_cons, List.drop_zero, List.nil_append, List.cons_append, List.length_cons, List.length_nil, eqvs_dgs]
  rfl
theorem l131 (ls : List (List (Int × Int))) (hs : ls.length ≤ 6) (hr : ∀ r ∈ ls, r.length ≤ 10000000) (b : Nat) (σ : St) (l0 : cellsAt σ (.ptr b 0) 1 = some [FSS ls]) : ∀ (m i : Nat), i + m = ls.length → ∃ z : Int, exI TT (FI.of Try.f131 (TT.an 131)) K131_0 [(0, FSS ls), (1, .fn 66 [] [.ptr b 0]), (7, .int .i64 ls.length), (8, .int .i64 i)] σ = some (.int .i64 z, σ) ∧ decide (0 ≤ z) = !(ls.drop i).all (rowOk ls.length) := by
  intro m
  induction m with
  | zero =>
    intro i hi
    obtain rfl : i = ls.length := by omega
    rw [List.drop_of_length_le (Nat.le_refl _)]
    exact ⟨-1, e131 _ b _ σ, rfl⟩
  | succ m ih =>
    intro i hi
    have hil : i < ls.length := by omega
    obtain ⟨z, h, h2⟩ := ih (i + 1) (by omega)
    have hi1 : ((i + 1 : Nat) : Int) = (i : Int) + 1 := by omega
    rw [hi1] at h
    have c1 := r66 ls ls[i] (hr _ (List.getElem_mem hil)) b σ l0
    rw [List.drop_eq_getElem_cons hil, List.all_cons]
    cases hc : rowOk ls.length ls[i] with
    | true =>
      rw [hc] at c1
      refine ⟨z, ?_, by rw [h2, Bool.true_and]⟩
      rw [← h]
      exact s131f ls.length b i (flat F1 ls) _ σ hil (FSS_get hil σ) c1 (wrapA_id (by omega) (by omega))
    | false =>
      rw [hc] at c1
      exact ⟨i, s131t ls.length b i (flat F1 ls) _ σ hil (FSS_get hil σ) c1, by rw [Bool.false_and]; exact decide_eq_true (by omega)⟩
theorem r131 (ls : List (List (Int × Int))) (hs : ls.length ≤ 6) (hr : ∀ r ∈ ls, r.length ≤ 10000000) (b : Nat) (σ : St) (l0 : cellsAt σ (.ptr b 0) 1 = some [FSS ls]) : ∃ z : Int, callI TT 131 [FSS ls, .fn 66 [] [.ptr b 0]] σ = some (.int .i64 z, σ) ∧ decide (0 ≤ z) = !ls.all (rowOk ls.length) := by
  obtain ⟨z, h1, h2⟩ := l131 ls hs hr b σ l0 ls.length 0 (by omega)
  exact ⟨z, by rw [cI_0 (c := b131) fn131 rfl md131]; exact (b131e _ b _ σ).trans h1, by rw [h2, List.drop_zero]⟩

theorem r65 (ls : List (List (Int × Int))) (hs : ls.length ≤ 6) (hr : ∀ r ∈ ls, r.length ≤ 10000000) (b : Nat) (σ : St) (l0 : cellsAt σ (.ptr b 0) 1 = some [FSS ls]) : callI TT 65 [FSS ls, .fn 66 [] [.ptr b 0]] σ = some (.bool (!ls.all (rowOk ls.length)), σ) := by
  obtain ⟨z, h1, h2⟩ := r131 ls hs hr b σ l0
  rw [cI_0 fn65 rfl md65, fi65, ← h2]
  unfold FSS at *
  by_cases h : 0 ≤ z
  · rw [decide_eq_true h]
    simp (maxSteps := 1000000) (disch := omega) [getCells, takeN, dropN, fieldAddrA, allOne, AV.one, n_push, putN, overN, blt_dec, buildA, sizesOf, fillA, putCells, List.take_succ_cons, List.take_zero, List.drop_succ_cons, List.drop_zero, List.nil_append, List.cons_append, List.length_cons, List.length_nil, eqvs_dgs, h1]
  · rw [decide_eq_false h]
    have h' : z < 0 := by omega
    simp (maxSteps := 1000000) (disch := omega) [getCells, takeN, dropN, fieldAddrA, allOne, AV.one, n_push, putN, overN, blt_dec, buildA, sizesOf, fillA, putCells, List.take_succ_cons, List.take_zero, List.drop_succ_cons, List.drop_zero, List.nil_append, List.cons_append, List.length_cons, List.length_nil, eqvs_dgs, h1]

set_option maxHeartbeats 4000000 in
theorem k22f (n : Nat) (cells : List AV) (σ0 : St) (h1 : (⟨[], 0⟩ : St).push ⟨[.lst n cells], 1, false⟩ = σ0) (l0 : cellsAt σ0 (.ptr 0 0) 1 = some [.lst n cells]) (c1 : callI TT 64 [.lst n cells] σ0 = some (.int .i64 n, σ0)) (c2 : callI TT 63 [.int .i64 n, .int .i64 1, .int .i64 6] σ0 = some (.bool false, σ0)) :
    ∃ σ', exI TT (FI.of Try.f22 (TT.an 22)) [.code (Try.f22.body.getD .skip)] (paramsE 0 [.agg [.lst n cells]]) ⟨[], 0⟩ = some (.bool false, σ') := by
  refine ex1 ?_
  rw [fi22]
  simp only [Try.f22, Option.getD]
  simp (maxSteps := 1000000) (disch := omega) [getCells, takeN, dropN, fieldAddrA, allOne, AV.one, n_push, putN, overN, blt_dec, buildA, sizesOf, fillA, putCells, List.take_succ_cons, List.take_zero, List.drop_succ_cons, List.drop_zero, List.nil_append, List.cons_append, List.length_cons, List.length_nil, eqvs_dgs, h1, l0, c1, c2]
set_option maxHeartbeats 4000000 in
theorem k22t (n : Nat) (cells : List AV) (σ0 : St) (z : Bool) (h1 : (⟨[], 0⟩ : St).push ⟨[.lst n cells], 1, false⟩ = σ0) (l0 : cellsAt σ0 (.ptr 0 0) 1 = some [.lst n cells]) (c1 : callI TT 64 [.lst n cells] σ0 = some (.int .i64 n, σ0)) (c2 : callI TT 63 [.int .i64 n, .int .i64 1, .int .i64 6] σ0 = some (.bool true, σ0)) (c3 : callI TT 65 [.lst n cells, .fn 66 [] [.ptr 0 0]] σ0 = some (.bool (!z), σ0)) :
    ∃ σ', exI TT (FI.of Try.f22 (TT.an 22)) [.code (Try.f22.body.getD .skip)] (paramsE 0 [.agg [.lst n cells]]) ⟨[], 0⟩ = some (.bool z, σ') := by
  refine ex1 ?_
  rw [fi22]
  simp only [Try.f22, Option.getD]
  simp (maxSteps := 1000000) (disch := omega) [getCells, takeN, dropN, fieldAddrA, allOne, AV.one, n_push, putN, overN, blt_dec, buildA, sizesOf, fillA, putCells, List.take_succ_cons, List.take_zero, List.drop_succ_cons, List.drop_zero, List.nil_append, List.cons_append, List.length_cons, List.length_nil, eqvs_dgs, Bool.not_not, h1, l0, c1, c2, c3]
theorem r22 (ls : List (List (Int × Int))) (hr : ∀ r ∈ ls, r.length ≤ 10000000) : FnV TT 22 [.agg [FSS ls]] (.bool (isWk ls)) := by
  have l0 : cellsAt ((⟨[], 0⟩ : St).push ⟨[FSS ls], 1, false⟩) (.ptr 0 0) 1 = some [FSS ls] := Bx.rd (Bx.push (σ := ⟨[], 0⟩) (vs := [FSS ls]) (m := 1)) rfl
  have c1 := fun σ : St => r64 ls.length (flat F1 ls) σ [FSS ls] rfl
  have c2 := fun σ : St => v63 ls.length 1 6 σ [.int .i64 ls.length, .int .i64 1, .int .i64 6] rfl
  unfold isWk
  by_cases h : 1 ≤ ls.length ∧ ls.length ≤ 6
  · have e : (decide ((1 : Int) ≤ (ls.length : Int)) && decide ((ls.length : Int) ≤ 6)) = true := by
      rw [decide_eq_true (by omega), decide_eq_true (by omega)]; rfl
    rw [e] at c2
    rw [decide_eq_true h.1, decide_eq_true h.2, Bool.true_and, Bool.true_and]
    exact FnV.mk fn22 rfl md22 (k22t _ _ _ _ rfl l0 (c1 _) (c2 _) (r65 ls h.2 hr 0 _ l0)) (fun _ => rfl) rfl
  · have e : (decide ((1 : Int) ≤ (ls.length : Int)) && decide ((ls.length : Int) ≤ 6)) = false := by
      by_cases h1 : 1 ≤ ls.length
      · rw [decide_eq_false (show ¬ (ls.length : Int) ≤ 6 by omega), Bool.and_false]
      · rw [decide_eq_false (show ¬ (1 : Int) ≤ (ls.length : Int) by omega)]; rfl
    rw [e] at c2
    have e2 : (decide (1 ≤ ls.length) && decide (ls.length ≤ 6)) = false := by
      by_cases h1 : 1 ≤ ls.length
      · rw [decide_eq_false (show ¬ ls.length ≤ 6 by omega), Bool.and_false]
      · rw [decide_eq_false h1]; rfl
    rw [e2, Bool.false_and]
    exact FnV.mk fn22 rfl md22 (k22f _ _ _ rfl l0 (c1 _) (c2 _)) (fun _ => rfl) rfl
def R1 (r : List Rat) : List AV := [RS r]
theorem R1_len (r : List Rat) : (R1 r).length = 1 := rfl
def RSS (rs : List (List Rat)) : AV := .lst rs.length (flat R1 rs)
theorem RSS_get {rs : List (List Rat)} {i : Nat} (h : i < rs.length) (σ : St) : cellsAt σ (.lp (flat R1 rs) i) 1 = some [RS rs[i]] := flat1_get h σ
theorem R1_frz (σ : St) (d : Nat) (r : List Rat) : mapO (frzV σ (d + 1)) (R1 r) = some (R1 r) := rfl
def rqs (ls : List (List (Int × Int))) : List (List Rat) := ls.map fun r => r.map rq
/-- The greatest distance of two rows. -/
def spIn (p : List (List Rat)) (i : Nat) : Nat → Rat → Rat
  | 0, s => s
  | k + 1, s => if 0 < cmpR (distQ (p.getD i []) (p.getD k [])) (spIn p i k s) then distQ (p.getD i []) (p.getD k []) else spIn p i k s
def spOut (p : List (List Rat)) : Nat → Rat
  | 0 => 0
  | i + 1 => spIn p i i (spOut p i)
def valCon (ls : List (List (Int × Int))) : AV := if isWk ls = true then frA (spOut (rqs ls) ls.length) else frF
theorem isWk_b {ls : List (List (Int × Int))} (h : isWk ls = true) : 1 ≤ ls.length ∧ ls.length ≤ 6 ∧ ∀ r ∈ ls, r.length = ls.length ∧ isCh r = true := by
  simp only [isWk, Bool.and_eq_true, decide_eq_true_eq, List.all_eq_true, rowOk] at h
  exact ⟨h.1.1, h.1.2, h.2⟩

noncomputable def b90 : Code := Try.f90.body.getD .skip
noncomputable def B90_0 : Code := (bodyC (bodyC (sndC (fstC (sndC (sndC b90))))))
noncomputable def K90_0 : List It := .lp B90_0 :: .blk 0 :: .code (sndC (sndC (sndC b90))) :: []
theorem xl90_0 {fi : FI} {env : Env} {σ : St} : exI TT fi K90_0 env σ = exI TT fi (.code B90_0 :: K90_0) env σ := by unfold K90_0; exact xI_lp
noncomputable def R90_0_0 : List It := .code (sndC (sndC (sndC b90))) :: []
theorem eK90_0_0 : exitA 0 K90_0 = some R90_0_0 := rfl
set_option maxHeartbeats 4000000 in
theorem s90 (n i b m b2 m2 a c : Nat) (cells x y : List AV) (σ σ1 σ2 : St) (hi : i < n) (l1 : cellsAt σ (.lp cells i) 1 = some [.lst a x]) (c1 : callI TT 79 [.lst a x] σ = some (.lst c y, σ)) (c2 : buildSliceA TT σ 115 1 [(0, .lst c y)] = some (.sl σ.n 0 1 1, σ1)) (c3 : appendA TT σ1 115 115 (.sl b 0 m m) (.sl σ.n 0 1 1) = some (.sl b2 0 m2 m2, σ2)) (hw : wrapA .i64 ((i : Int) + 1) = (i : Int) + 1) :
    exI TT (FI.of Try.f90 (TT.an 90)) K90_0 [(3, .sl b 0 m m), (8, .lst n cells), (9, .int .i64 n), (10, .int .i64 i)] σ = exI TT (FI.of Try.f90 (TT.an 90)) K90_0 [(3, .sl b2 0 m2 m2), (8, .lst n cells), (9, .int .i64 n), (10, .int .i64 ((i : Int) + 1))] σ2 := by
  rw [fi90]
  conv => lhs; rw [xl90_0]
  simp only [B90_0, b90, Try.f90, Option.getD, fstC, sndC, bodyC, thnC, elsC]
  simp (maxSteps := 1000000) (disch := omega) [eK90_0_0, getCells, takeN, dropN, fieldAddrA, allOne, AV.one, n_push, putN, overN, blt_dec, buildA, sizesOf, fillA, putCells, List.take_succ_cons, List.take_zero, List.drop_succ_cons, List.drop_zero, List.nil_append, List.cons_append, List.length_cons, List.length_nil, eqvs_dgs, hi, l1, c1, c2, c3, hw]
set_option maxHeartbeats 4000000 in
theorem e90 (n b m : Nat) (cells : List AV) (σ : St)  :
    exI TT (FI.of Try.f90 (TT.an 90)) K90_0 [(3, .sl b 0 m m), (8, .lst n cells), (9, .int .i64 n), (10, .int .i64 n)] σ = some (.sl b 0 m m, σ) := by
  rw [fi90]
  conv => lhs; rw [xl90_0]
  simp only [B90_0, b90, Try.f90, Option.getD, fstC, sndC, bodyC, thnC, elsC]
  simp (maxSteps := 1000000) (disch := omega) [eK90_0_0, getCells, takeN, dropN, fieldAddrA, allOne, AV.one, n_push, putN, overN, blt_dec, buildA, sizesOf, fillA, putCells, List.take_succ_cons, List.take_zero, List.drop_succ_cons, List.drop_zero, List.nil_append, List.cons_append, List.length_cons, List.length_nil, eqvs_dgs]
  simp only [R90_0_0, b90, Try.f90, Option.getD, fstC, sndC, bodyC, thnC, elsC]
  simp (maxSteps := 1000000) (disch := omega) [eK90_0_0, getCells, takeN, dropN, fieldAddrA, allOne, AV.one, n_push, putN, overN, blt_dec, buildA, sizesOf, fillA, putCells, List.take_succ_cons, List.take_zero, List.drop_succ_cons, List.drop_zero, List.nil_append, List.cons_append, List.length_cons, List.length_nil, eqvs_dgs]
set_option maxHeartbeats 4000000 in
theorem b90e (n : Nat) (cells : List AV) (σ0 σ1 : St) (h1 : (⟨[], 0⟩ : St).push ⟨[.lst n cells], 1, false⟩ = σ0) (c1 : buildSliceA TT σ0 115 0 [] = some (.sl 1 0 0 0, σ1)) (l1 : cellsAt σ1 (.ptr 0 0) 1 = some [.lst n cells]) :
    exI TT (FI.of Try.f90 (TT.an 90)) [.code b90] (paramsE 0 [.agg [.lst n cells]]) ⟨[], 0⟩ = exI TT (FI.of Try.f90 (TT.an 90)) K90_0 [(3, .sl 1 0 0 0), (8, .lst n cells), (9, .int .i64 n), (10, .int .i64 0)] σ1 := by
  rw [fi90]
  simp only [b90, Try.f90, Option.getD, fstC, sndC, bodyC, thnC, elsC]
  simp (maxSteps := 1000000) (disch := omega) [eK90_0_0, getCells, takeN, dropN, fieldAddrA, allOne, AV.one, n_push, putN, overN, blt_dec, buildA, sizesOf, fillA, putCells, List.take_succ_cons, List.take_zero, List.drop_succ_cons, List.drop_zero, List.nil_append, List.cons_append, List.length_cons, List.length_nil, eqvs_dgs, h1, c1, l1]
  rfl
theorem l90 (ls : List (List (Int × Int))) (hr : ∀ r ∈ ls, vfl r = true ∧ r.length ≤ 1000000) (hs : ls.length ≤ 1000000) : ∀ (m i b : Nat) (σ : St), i + m = ls.length → RowE σ b 1 (flat R1 (rqs (ls.take i))) →
    ∃ b' σ', exI TT (FI.of Try.f90 (TT.an 90)) K90_0 [(3, .sl b 0 i i), (8, FSS ls), (9, .int .i64 ls.length), (10, .int .i64 i)] σ = some (.sl b' 0 ls.length ls.length, σ') ∧ RowE σ' b' 1 (flat R1 (rqs ls)) := by
  intro m
  induction m with
  | zero =>
    intro i b σ hi hrow
    obtain rfl : i = ls.length := by omega
    rw [List.take_of_length_le (Nat.le_refl _)] at hrow
    exact ⟨b, σ, e90 ls.length b ls.length (flat F1 ls) σ, hrow⟩
  | succ m ih =>
    intro i b σ hi hrow
    have hil : i < ls.length := by omega
    obtain ⟨v1, v2⟩ := hr _ (List.getElem_mem hil)
    have c1 := (r79 ls[i] v1 v2).pure σ rfl rfl
    have c2 := build_v (T := TT) (σ := σ) (st := 115) (v := RS (ls[i].map rq)) ty115 ty104 rfl rfl rfl
    obtain ⟨σ4, d1, d2, _⟩ := append_el (T := TT) (st := 115) (n := i) ty115 ty104 (fun _ _ => trivial) (by decide) (R1_len (ls[i].map rq)) rfl (by rw [flat_len R1_len]; simp [rqs]; omega) hrow (by omega)
    have e : flat R1 (rqs (ls.take i)) ++ R1 (ls[i].map rq) = flat R1 (rqs (ls.take (i + 1))) := by
      rw [List.take_succ_eq_append_getElem hil, rqs, rqs, List.map_append, flat_app]; simp [flat]
    rw [e] at d2
    obtain ⟨b', σ', k1, k2⟩ := ih (i + 1) (σ.n + 1) σ4 (by omega) d2
    refine ⟨b', σ', ?_, k2⟩
    rw [← k1]
    have hi1 : ((i + 1 : Nat) : Int) = (i : Int) + 1 := by omega
    rw [hi1]
    exact s90 ls.length i b i (σ.n + 1) (i + 1) _ _ (flat F1 ls) _ _ σ _ σ4 hil (FSS_get hil σ) c1 c2 d1 (wrapA_id (by omega) (by omega))
theorem r90 (ls : List (List (Int × Int))) (hr : ∀ r ∈ ls, vfl r = true ∧ r.length ≤ 1000000) (hs : ls.length ≤ 1000000) : FnF TT 90 [.agg [FSS ls]] (RSS (rqs ls)) := by
  have hb := build_e0 (T := TT) (σ := (⟨[], 0⟩ : St).push ⟨[FSS ls], 1, false⟩) (st := 115) ty115 ty104
  have hx : Bx ((⟨[], 0⟩ : St).push ⟨[FSS ls], 1, false⟩) 0 [FSS ls] := Bx.push
  obtain ⟨b', σ', k1, k2⟩ := l90 ls hr hs ls.length 0 1 _ (by omega) (RowE.push (σ := (⟨[], 0⟩ : St).push ⟨[FSS ls], 1, false⟩) (cs := []) (e := 1) (o := false))
  refine FnF.mk (c := b90) fn90 rfl md90 ⟨σ', _, (b90e _ _ _ _ rfl hb ((hx.old Old.push).rd rfl)).trans k1, ?_⟩
  have := k2.frz (d := 4) (n := ls.length) (c := ls.length) (by rw [flat_len R1_len]; simp [rqs]) (flat_frz (fun v => R1_frz σ' 4 v) _) (Nat.le_refl _)
  rw [show RSS (rqs ls) = .lst ls.length (flat R1 (rqs ls)) by simp [RSS, rqs]]
  exact this

noncomputable def b89 : Code := Try.f89.body.getD .skip
noncomputable def B89_0 : Code := (bodyC (bodyC (sndC (fstC (sndC (sndC b89))))))
noncomputable def K89_0 : List It := .lp B89_0 :: .blk 0 :: .code (sndC (sndC (sndC b89))) :: []
theorem xl89_0 {fi : FI} {env : Env} {σ : St} : exI TT fi K89_0 env σ = exI TT fi (.code B89_0 :: K89_0) env σ := by unfold K89_0; exact xI_lp
noncomputable def R89_0_0 : List It := .code (sndC (sndC (sndC b89))) :: []
theorem eK89_0_0 : exitA 0 K89_0 = some R89_0_0 := rfl
noncomputable def B89_1 : Code := (bodyC (bodyC (sndC (sndC (bodyC (fstC (sndC (sndC (bodyC (bodyC (sndC (fstC (sndC (sndC b89))))))))))))))
noncomputable def K89_1 : List It := .lp B89_1 :: .blk 2 :: .blk 1 :: .code (sndC (sndC (sndC (bodyC (bodyC (sndC (fstC (sndC (sndC b89))))))))) :: K89_0
theorem xl89_1 {fi : FI} {env : Env} {σ : St} : exI TT fi K89_1 env σ = exI TT fi (.code B89_1 :: K89_1) env σ := by unfold K89_1; exact xI_lp
noncomputable def R89_1_2 : List It := .blk 1 :: .code (sndC (sndC (sndC (bodyC (bodyC (sndC (fstC (sndC (sndC b89))))))))) :: K89_0
theorem eK89_1_2 : exitA 2 K89_1 = some R89_1_2 := rfl
noncomputable def R89_1_1 : List It := .code (sndC (sndC (sndC (bodyC (bodyC (sndC (fstC (sndC (sndC b89))))))))) :: K89_0
theorem eK89_1_1 : exitA 1 K89_1 = some R89_1_1 := rfl
theorem eK89_1_0 : exitA 0 K89_1 = some R89_0_0 := rfl
set_option maxHeartbeats 4000000 in
theorem s89k (n i k a : Nat) (cells pre x y d s : List AV) (z : Int) (σ σ2 : St) (hk : k < i) (l1 : cellsAt σ (.lp pre k) 1 = some [.lst a y]) (c1 : callI TT 78 [.lst a x, .lst a y] σ = some (.agg d, σ)) (hd : d.length = 3) (s1 : storeCellsA (σ.push ⟨[.bool false, .nilS, .nilS], 3, false⟩) σ.n 0 d = some σ2) (l2 : cellsAt σ2 (.ptr σ.n 0) 3 = some d) (l3 : cellsAt σ2 (.ptr 1 0) 3 = some s) (c2 : callI TT 73 [.agg d, .agg s] σ2 = some (.int .i64 z, σ2)) (hz : z ≤ 0) (hw : wrapA .i64 ((k : Int) + 1) = (k : Int) + 1) :
    exI TT (FI.of Try.f89 (TT.an 89)) K89_1 [(0, .lst n cells), (2, .ptr 0 0), (3, .ptr 1 0), (5, .lst a x), (10, .lst n cells), (11, .int .i64 n), (12, .int .i64 i), (19, .lst i pre), (20, .int .i64 i), (21, .int .i64 k)] σ = exI TT (FI.of Try.f89 (TT.an 89)) K89_1 [(0, .lst n cells), (2, .ptr 0 0), (3, .ptr 1 0), (5, .lst a x), (10, .lst n cells), (11, .int .i64 n), (12, .int .i64 i), (19, .lst i pre), (20, .int .i64 i), (21, .int .i64 ((k : Int) + 1))] σ2 := by
  rw [fi89]
  conv => lhs; rw [xl89_1]
  simp only [B89_1, b89, Try.f89, Option.getD, fstC, sndC, bodyC, thnC, elsC]
  simp (maxSteps := 1000000) (disch := omega) [eK89_0_0, eK89_1_2, eK89_1_1, eK89_1_0, getCells, takeN, dropN, fieldAddrA, allOne, AV.one, n_push, putN, overN, blt_dec, buildA, sizesOf, fillA, putCells, List.take_succ_cons, List.take_zero, List.drop_succ_cons, List.drop_zero, List.nil_append, List.cons_append, List.length_cons, List.length_nil, eqvs_dgs, hk, l1, c1, hd, s1, l2, l3, c2, hz, hw]
set_option maxHeartbeats 4000000 in
theorem s89t (n i k a : Nat) (cells pre x y d s : List AV) (z : Int) (σ σ2 σ3 : St) (hk : k < i) (l1 : cellsAt σ (.lp pre k) 1 = some [.lst a y]) (c1 : callI TT 78 [.lst a x, .lst a y] σ = some (.agg d, σ)) (hd : d.length = 3) (s1 : storeCellsA (σ.push ⟨[.bool false, .nilS, .nilS], 3, false⟩) σ.n 0 d = some σ2) (l2 : cellsAt σ2 (.ptr σ.n 0) 3 = some d) (l3 : cellsAt σ2 (.ptr 1 0) 3 = some s) (c2 : callI TT 73 [.agg d, .agg s] σ2 = some (.int .i64 z, σ2)) (hz : 0 < z) (s2 : storeCellsA σ2 1 0 d = some σ3) (hw : wrapA .i64 ((k : Int) + 1) = (k : Int) + 1) :
    exI TT (FI.of Try.f89 (TT.an 89)) K89_1 [(0, .lst n cells), (2, .ptr 0 0), (3, .ptr 1 0), (5, .lst a x), (10, .lst n cells), (11, .int .i64 n), (12, .int .i64 i), (19, .lst i pre), (20, .int .i64 i), (21, .int .i64 k)] σ = exI TT (FI.of Try.f89 (TT.an 89)) K89_1 [(0, .lst n cells), (2, .ptr 0 0), (3, .ptr 1 0), (5, .lst a x), (10, .lst n cells), (11, .int .i64 n), (12, .int .i64 i), (19, .lst i pre), (20, .int .i64 i), (21, .int .i64 ((k : Int) + 1))] σ3 := by
  rw [fi89]
  conv => lhs; rw [xl89_1]
  simp only [B89_1, b89, Try.f89, Option.getD, fstC, sndC, bodyC, thnC, elsC]
  simp (maxSteps := 1000000) (disch := omega) [eK89_0_0, eK89_1_2, eK89_1_1, eK89_1_0, getCells, takeN, dropN, fieldAddrA, allOne, AV.one, n_push, putN, overN, blt_dec, buildA, sizesOf, fillA, putCells, List.take_succ_cons, List.take_zero, List.drop_succ_cons, List.drop_zero, List.nil_append, List.cons_append, List.length_cons, List.length_nil, eqvs_dgs, hk, l1, c1, hd, s1, l2, l3, c2, hz, s2, hw]
set_option maxHeartbeats 4000000 in
theorem e89i (n i a : Nat) (cells pre x : List AV) (σ : St) (hw : wrapA .i64 ((i : Int) + 1) = (i : Int) + 1) :
    exI TT (FI.of Try.f89 (TT.an 89)) K89_1 [(0, .lst n cells), (2, .ptr 0 0), (3, .ptr 1 0), (5, .lst a x), (10, .lst n cells), (11, .int .i64 n), (12, .int .i64 i), (19, .lst i pre), (20, .int .i64 i), (21, .int .i64 i)] σ = exI TT (FI.of Try.f89 (TT.an 89)) K89_0 [(0, .lst n cells), (2, .ptr 0 0), (3, .ptr 1 0), (10, .lst n cells), (11, .int .i64 n), (12, .int .i64 ((i : Int) + 1))] σ := by
  rw [fi89]
  conv => lhs; rw [xl89_1]
  simp only [B89_1, b89, Try.f89, Option.getD, fstC, sndC, bodyC, thnC, elsC]
  simp (maxSteps := 1000000) (disch := omega) [eK89_0_0, eK89_1_2, eK89_1_1, eK89_1_0, getCells, takeN, dropN, fieldAddrA, allOne, AV.one, n_push, putN, overN, blt_dec, buildA, sizesOf, fillA, putCells, List.take_succ_cons, List.take_zero, List.drop_succ_cons, List.drop_zero, List.nil_append, List.cons_append, List.length_cons, List.length_nil, eqvs_dgs, hw]
  simp only [R89_1_2, b89, Try.f89, Option.getD, fstC, sndC, bodyC, thnC, elsC]
  simp (maxSteps := 1000000) (disch := omega) [eK89_0_0, eK89_1_2, eK89_1_1, eK89_1_0, getCells, takeN, dropN, fieldAddrA, allOne, AV.one, n_push, putN, overN, blt_dec, buildA, sizesOf, fillA, putCells, List.take_succ_cons, List.take_zero, List.drop_succ_cons, List.drop_zero, List.nil_append, List.cons_append, List.length_cons, List.length_nil, eqvs_dgs, hw]
set_option maxHeartbeats 4000000 in
theorem b89i (n i a : Nat) (cells pre x : List AV) (σ : St) (hi : i < n) (hi2 : i ≤ n) (l1 : cellsAt σ (.lp cells i) 1 = some [.lst a x]) (hp : getCells cells 0 i = some pre) :
    exI TT (FI.of Try.f89 (TT.an 89)) K89_0 [(0, .lst n cells), (2, .ptr 0 0), (3, .ptr 1 0), (10, .lst n cells), (11, .int .i64 n), (12, .int .i64 i)] σ = exI TT (FI.of Try.f89 (TT.an 89)) K89_1 [(0, .lst n cells), (2, .ptr 0 0), (3, .ptr 1 0), (5, .lst a x), (10, .lst n cells), (11, .int .i64 n), (12, .int .i64 i), (19, .lst i pre), (20, .int .i64 i), (21, .int .i64 0)] σ := by
  rw [fi89]
  conv => lhs; rw [xl89_0]
  simp only [B89_0, b89, Try.f89, Option.getD, fstC, sndC, bodyC, thnC, elsC]
  simp (maxSteps := 1000000) (disch := omega) [eK89_0_0, eK89_1_2, eK89_1_1, eK89_1_0, takeN, dropN, fieldAddrA, allOne, AV.one, n_push, putN, overN, blt_dec, buildA, sizesOf, fillA, putCells, List.take_succ_cons, List.take_zero, List.drop_succ_cons, List.drop_zero, List.nil_append, List.cons_append, List.length_cons, List.length_nil, eqvs_dgs, sliceA, Nat.zero_mul, Nat.mul_one, Nat.sub_zero, hi, hi2, l1, hp]
  rfl
set_option maxHeartbeats 4000000 in
theorem e89 (n : Nat) (cells s : List AV) (σ σ1 : St) (l3 : cellsAt σ (.ptr 1 0) 3 = some s) (hs : s.length = 3) (s1 : storeCellsA σ 0 0 s = some σ1) (l4 : cellsAt σ1 (.ptr 0 0) 3 = some s) :
    exI TT (FI.of Try.f89 (TT.an 89)) K89_0 [(0, .lst n cells), (2, .ptr 0 0), (3, .ptr 1 0), (10, .lst n cells), (11, .int .i64 n), (12, .int .i64 n)] σ = some (.agg s, σ1) := by
  rw [fi89]
  conv => lhs; rw [xl89_0]
  simp only [B89_0, b89, Try.f89, Option.getD, fstC, sndC, bodyC, thnC, elsC]
  simp (maxSteps := 1000000) (disch := omega) [eK89_0_0, eK89_1_2, eK89_1_1, eK89_1_0, getCells, takeN, dropN, fieldAddrA, allOne, AV.one, n_push, putN, overN, blt_dec, buildA, sizesOf, fillA, putCells, List.take_succ_cons, List.take_zero, List.drop_succ_cons, List.drop_zero, List.nil_append, List.cons_append, List.length_cons, List.length_nil, eqvs_dgs, l3, hs, s1, l4]
  simp only [R89_0_0, b89, Try.f89, Option.getD, fstC, sndC, bodyC, thnC, elsC]
  simp (maxSteps := 1000000) (disch := omega) [eK89_0_0, eK89_1_2, eK89_1_1, eK89_1_0, getCells, takeN, dropN, fieldAddrA, allOne, AV.one, n_push, putN, overN, blt_dec, buildA, sizesOf, fillA, putCells, List.take_succ_cons, List.take_zero, List.drop_succ_cons, List.drop_zero, List.nil_append, List.cons_append, List.length_cons, List.length_nil, eqvs_dgs, l3, hs, s1, l4]
set_option maxHeartbeats 4000000 in
theorem b89e (n : Nat) (cells o : List AV) (σ1 σ2 σ3 : St) (h1 : (⟨[], 0⟩ : St).push ⟨[.bool false, .nilS, .nilS], 3, false⟩ = σ1) (hn : σ1.n = 1) (c1 : callI TT 84 [.int .i64 0] σ1 = some (.agg o, σ1)) (ho : o.length = 3) (h2 : σ1.push ⟨[.bool false, .nilS, .nilS], 3, false⟩ = σ2) (s1 : storeCellsA σ2 1 0 o = some σ3) :
    exI TT (FI.of Try.f89 (TT.an 89)) [.code b89] (paramsE 0 [.lst n cells]) ⟨[], 0⟩ = exI TT (FI.of Try.f89 (TT.an 89)) K89_0 [(0, .lst n cells), (2, .ptr 0 0), (3, .ptr 1 0), (10, .lst n cells), (11, .int .i64 n), (12, .int .i64 0)] σ3 := by
  rw [fi89]
  simp only [b89, Try.f89, Option.getD, fstC, sndC, bodyC, thnC, elsC]
  simp (maxSteps := 1000000) (disch := omega) [eK89_0_0, eK89_1_2, eK89_1_1, eK89_1_0, getCells, takeN, dropN, fieldAddrA, allOne, AV.one, n_push, putN, overN, blt_dec, buildA, sizesOf, fillA, putCells, List.take_succ_cons, List.take_zero, List.drop_succ_cons, List.drop_zero, List.nil_append, List.cons_append, List.length_cons, List.length_nil, eqvs_dgs, h1, hn, c1, ho, h2, s1]
  rfl
/-- Rows as they come in: as many as long, of bounded numbers. -/
def Rows6 (p : List (List Rat)) : Prop := p.length ≤ 6 ∧ ∀ r ∈ p, r.length = p.length ∧ ∀ x ∈ r, Bd 60 x
theorem Rows6.dist {p : List (List Rat)} (h : Rows6 p) {i k : Nat} (hi : i < p.length) (hk : k < p.length) : Bd 1000 (distQ p[i] p[k]) := by
  obtain ⟨a1, a2⟩ := h.2 _ (List.getElem_mem hi)
  obtain ⟨b1, b2⟩ := h.2 _ (List.getElem_mem hk)
  have h1 := h.1
  exact (distQ_bd (by omega) a2 b2).mono (by rw [a1]; omega)
theorem spIn_bd {p : List (List Rat)} (h : Rows6 p) {i : Nat} (hi : i < p.length) : ∀ {k : Nat} {s : Rat}, k ≤ i → Bd 1000 s → Bd 1000 (spIn p i k s)
  | 0, s, _, hs => hs
  | k + 1, s, hk, hs => by
    rw [spIn]
    split
    · rw [getD_of hi, getD_of (by omega)]; exact h.dist hi (by omega)
    · exact spIn_bd h hi (by omega) hs
theorem spOut_bd {p : List (List Rat)} (h : Rows6 p) : ∀ {i : Nat}, i ≤ p.length → Bd 1000 (spOut p i)
  | 0, _ => (show Bd 2 (0 : Rat) from ⟨by decide +kernel, by decide +kernel⟩).mono (by decide)
  | i + 1, hi => spIn_bd h (by omega) (Nat.le_refl i) (spOut_bd h (by omega))
theorem m89 (p : List (List Rat)) (h : Rows6 p) (i : Nat) (hi : i < p.length) (s0 : Rat) (hs0 : Bd 1000 s0) : ∀ (m k : Nat) (σ : St), k + m = i → Bx σ 1 (RC (spIn p i k s0)) → (∃ z, Bx σ 0 z ∧ z.length = 3) →
    ∃ σ', exI TT (FI.of Try.f89 (TT.an 89)) K89_1 [(0, RSS p), (2, .ptr 0 0), (3, .ptr 1 0), (5, RS p[i]), (10, RSS p), (11, .int .i64 p.length), (12, .int .i64 i), (19, .lst i (flat R1 (p.take i))), (20, .int .i64 i), (21, .int .i64 k)] σ = exI TT (FI.of Try.f89 (TT.an 89)) K89_0 [(0, RSS p), (2, .ptr 0 0), (3, .ptr 1 0), (10, RSS p), (11, .int .i64 p.length), (12, .int .i64 ((i : Int) + 1))] σ' ∧ Bx σ' 1 (RC (spIn p i i s0)) ∧ (∃ z, Bx σ' 0 z ∧ z.length = 3) := by
  intro m
  induction m with
  | zero =>
    intro k σ hk hb hz
    obtain rfl : k = i := by omega
    exact ⟨σ, e89i p.length k _ (flat R1 p) _ _ σ (wrapA_id (by omega) (by have := h.1; omega)), hb, hz⟩
  | succ m ih =>
    intro k σ hk hb hz
    have hki : k < i := by omega
    have hkp : k < p.length := by omega
    have h6 := h.1
    obtain ⟨a1, a2⟩ := h.2 _ (List.getElem_mem hi)
    obtain ⟨b1, b2⟩ := h.2 _ (List.getElem_mem hkp)
    have hlen : (p[k]).length = (p[i]).length := by omega
    have hmul : ((p[i]).length + 1) * (2 * 60 + 3) ≤ 7 * 123 := Nat.mul_le_mul (by omega) (by decide)
    have c1 := (r78 p[i] p[k] hlen 60 a2 b2 (by omega)).pure σ rfl rfl
    have hd := h.dist hi hkp
    obtain ⟨σ2, d1, d2, d3, d4⟩ := new_box (σ := σ) (z := [.bool false, .nilS, .nilS]) (x := RC (distQ p[i] p[k])) (m := 3) rfl rfl
    have hb2 := hb.old d3
    have hsb := spIn_bd h hi (Nat.le_of_lt hki) hs0
    have c2 := r73 hd hsb (by decide) σ2 [RT (distQ p[i] p[k]), RT (spIn p i k s0)] rfl
    have hpre : cellsAt σ (.lp (flat R1 (p.take i)) k) 1 = some [RS p[k]] := by
      have := RSS_get (rs := p.take i) (i := k) (by rw [List.length_take]; omega) σ
      rw [this]; simp
    have e1 : RS p[k] = .lst (p[i]).length (flat RC p[k]) := by rw [RS, hlen]
    rw [e1] at hpre c1
    obtain ⟨z, hz, hzl⟩ := hz
    have hz2 := hz.old d3
    have hk1 : ((k + 1 : Nat) : Int) = (k : Int) + 1 := by omega
    have hw : wrapA .i64 ((k : Int) + 1) = (k : Int) + 1 := wrapA_id (by omega) (by omega)
    by_cases hc : 0 < cmpR (distQ p[i] p[k]) (spIn p i k s0)
    · obtain ⟨σ3, e1, e2, e3⟩ := hb2.st (ws := RC (distQ p[i] p[k])) rfl (RC_one _)
      have hsp : spIn p i (k + 1) s0 = distQ p[i] p[k] := by rw [spIn, getD_of hi, getD_of hkp, if_pos hc]
      obtain ⟨σ', k1, k2⟩ := ih (k + 1) σ3 (by omega) (by rw [hsp]; exact e2) ⟨z, hz2.but (by decide) e3, hzl⟩
      rw [hk1] at k1
      refine ⟨σ', ?_, k2⟩
      rw [← k1]
      exact s89t p.length i k _ (flat R1 p) _ _ _ _ _ _ σ σ2 σ3 hki hpre c1 rfl d1 (d2.rd rfl) (hb2.rd rfl) c2 hc e1 hw
    · have hsp : spIn p i (k + 1) s0 = spIn p i k s0 := by rw [spIn, getD_of hi, getD_of hkp, if_neg hc]
      obtain ⟨σ', k1, k2⟩ := ih (k + 1) σ2 (by omega) (by rw [hsp]; exact hb2) ⟨z, hz2, hzl⟩
      rw [hk1] at k1
      refine ⟨σ', ?_, k2⟩
      rw [← k1]
      exact s89k p.length i k _ (flat R1 p) _ _ _ _ _ _ σ σ2 hki hpre c1 rfl d1 (d2.rd rfl) (hb2.rd rfl) c2 (Int.not_lt.1 hc) hw
theorem l89 (p : List (List Rat)) (h : Rows6 p) : ∀ (m i : Nat) (σ : St), i + m = p.length → Bx σ 1 (RC (spOut p i)) → (∃ z, Bx σ 0 z ∧ z.length = 3) →
    ∃ σ', exI TT (FI.of Try.f89 (TT.an 89)) K89_0 [(0, RSS p), (2, .ptr 0 0), (3, .ptr 1 0), (10, RSS p), (11, .int .i64 p.length), (12, .int .i64 i)] σ = some (RT (spOut p p.length), σ') := by
  intro m
  induction m with
  | zero =>
    intro i σ hi hb hz
    obtain rfl : i = p.length := by omega
    obtain ⟨z, hz, hzl⟩ := hz
    obtain ⟨σ1, a1, a2, a3⟩ := hz.st (ws := RC (spOut p p.length)) (by rw [hzl]; rfl) (RC_one _)
    exact ⟨σ1, e89 p.length (flat R1 p) _ σ σ1 (hb.rd rfl) rfl a1 (a2.rd rfl)⟩
  | succ m ih =>
    intro i σ hi hb hz
    have hil : i < p.length := by omega
    obtain ⟨σ1, k1, k2, k3⟩ := m89 p h i hil (spOut p i) (spOut_bd h (by omega)) i 0 σ (by omega) hb hz
    obtain ⟨σ', k4⟩ := ih (i + 1) σ1 (by omega) k2 k3
    have hi1 : ((i + 1 : Nat) : Int) = (i : Int) + 1 := by omega
    rw [hi1] at k4
    refine ⟨σ', ?_⟩
    rw [← k4, ← k1]
    have hp : getCells (flat R1 p) 0 i = some (flat R1 (p.take i)) := by
      rw [getCells_eq, if_pos (by rw [flat_len R1_len]; omega), List.drop_zero]
      have e : flat R1 p = flat R1 (p.take i) ++ flat R1 (p.drop i) := by rw [← flat_app, List.take_append_drop]
      rw [e, List.take_left' (by rw [flat_len R1_len, List.length_take]; omega)]
    exact b89i p.length i _ (flat R1 p) _ _ σ hil (Nat.le_of_lt hil) (RSS_get hil σ) hp
theorem r89 (p : List (List Rat)) (h : Rows6 p) : FnF TT 89 [RSS p] (RT (spOut p p.length)) := by
  have co := fun σ : St => (r84 (n := 0) (by decide) (by decide)).pure σ rfl rfl
  have hb0 : Bx ((⟨[], 0⟩ : St).push ⟨[.bool false, .nilS, .nilS], 3, false⟩) 0 [.bool false, .nilS, .nilS] := Bx.push
  obtain ⟨σ3, d1, d2, d3, d4⟩ := new_box (σ := (⟨[], 0⟩ : St).push ⟨[.bool false, .nilS, .nilS], 3, false⟩) (z := [.bool false, .nilS, .nilS]) (x := RC (mkRat 0 1)) (m := 3) rfl rfl
  obtain ⟨σ', h1⟩ := l89 p h p.length 0 σ3 (by omega) d2 ⟨_, hb0.old d3, rfl⟩
  exact FnF.mkv (c := b89) fn89 rfl md89 ⟨σ', (b89e _ _ _ _ _ σ3 rfl rfl (co _) rfl rfl d1).trans h1⟩ (fun _ => rfl)
theorem rqs_rows {ls : List (List (Int × Int))} (h : isWk ls = true) : Rows6 (rqs ls) := by
  obtain ⟨h1, h2, h3⟩ := isWk_b h
  refine ⟨by simpa [rqs] using h2, fun r hr => ?_⟩
  obtain ⟨x, hx, rfl⟩ := List.mem_map.1 hr
  obtain ⟨e1, e2⟩ := h3 x hx
  exact ⟨by simp [rqs, e1], rq_bds (isCh_b e2).2.2.1⟩

set_option maxHeartbeats 4000000 in
theorem k32f (n : Nat) (cells : List AV) (c1 : ∀ σ, callI TT 22 [.agg [.lst n cells]] σ = some (.bool false, σ)) :
    ∃ σ', exI TT (FI.of Try.f32 (TT.an 32)) [.code (Try.f32.body.getD .skip)] (paramsE 0 [.agg [.lst n cells]]) ⟨[], 0⟩ = some (.tup [.agg [.int .i64 0, .int .i64 0], .bool false], σ') := by
  refine ex1 ?_
  rw [fi32]
  simp only [Try.f32, Option.getD]
  simp (maxSteps := 1000000) (disch := omega) [cellsAt, getCells, takeN, dropN, fieldAddrA, allOne, AV.one, n_push, storeCellsA, putN, overN, St.push, St.get, St.set, hget, hset, blt_dec, buildA, sizesOf, fillA, putCells, List.take_succ_cons, List.take_zero, List.drop_succ_cons, List.drop_zero, List.nil_append, List.cons_append, List.length_cons, List.length_nil, eqvs_dgs, c1]
set_option maxHeartbeats 4000000 in
theorem k32t (n m : Nat) (cells c2_ s : List AV) (a b : Int) (c : Bool) (c1 : ∀ σ, callI TT 22 [.agg [.lst n cells]] σ = some (.bool true, σ)) (c2 : ∀ σ, callI TT 90 [.agg [.lst n cells]] σ = some (.lst m c2_, σ)) (c3 : ∀ σ, callI TT 89 [.lst m c2_] σ = some (.agg s, σ)) (c4 : ∀ σ, callI TT 80 [.agg s] σ = some (.tup [.agg [.int .i64 a, .int .i64 b], .bool c], σ)) :
    ∃ σ', exI TT (FI.of Try.f32 (TT.an 32)) [.code (Try.f32.body.getD .skip)] (paramsE 0 [.agg [.lst n cells]]) ⟨[], 0⟩ = some (.tup [.agg [.int .i64 a, .int .i64 b], .bool c], σ') := by
  refine ex1 ?_
  rw [fi32]
  simp only [Try.f32, Option.getD]
  simp (maxSteps := 1000000) (disch := omega) [cellsAt, getCells, takeN, dropN, fieldAddrA, allOne, AV.one, n_push, storeCellsA, putN, overN, St.push, St.get, St.set, hget, hset, blt_dec, buildA, sizesOf, fillA, putCells, List.take_succ_cons, List.take_zero, List.drop_succ_cons, List.drop_zero, List.nil_append, List.cons_append, List.length_cons, List.length_nil, eqvs_dgs, c1, c2, c3, c4]
theorem r32 (ls : List (List (Int × Int))) (hr : ∀ r ∈ ls, r.length ≤ 10000000) : FnV TT 32 [.agg [FSS ls]] (valCon ls) := by
  have c1 := fun σ : St => r22 ls hr σ [.agg [FSS ls]] rfl
  unfold valCon
  cases h : isWk ls with
  | true =>
    rw [h] at c1
    obtain ⟨h1, h2, h3⟩ := isWk_b h
    have c2 := r90 ls (fun r hr => ⟨(isCh_b (h3 r hr).2).2.2.1, by have := (h3 r hr).1; omega⟩) (by omega)
    have h6 := rqs_rows h
    have c3 := r89 (rqs ls) h6
    have c4 := r80 (spOut_bd h6 (Nat.le_refl _)) (by decide)
    have hl : (rqs ls).length = ls.length := by simp [rqs]
    rw [hl] at c3 c4
    rw [if_pos rfl]
    generalize spOut (rqs ls) ls.length = d at *
    have f1 := frA_frz d
    have f2 := frA_scal d
    obtain ⟨a, b, c, hR⟩ := frA_is d
    rw [hR] at c4 f1 f2 ⊢
    exact FnV.mk fn32 rfl md32 (k32t _ _ _ _ _ a b c c1 (fun σ => c2.pure σ rfl rfl) (fun σ => c3.pure σ rfl rfl) (fun σ => c4 σ _ rfl)) f1 f2
  | false =>
    rw [h] at c1
    exact FnV.mk fn32 rfl md32 (k32f _ _ c1) (fun _ => rfl) rfl

/-! ### Sinking numbers are put -/
/-! ### Rising sequences: plain law -/
/-! ### Pascal's numbers -/
def ch : Nat → Nat → Nat
  | _, 0 => 1
  | 0, _ + 1 => 0
  | n + 1, k + 1 => ch n k + ch n (k + 1)
theorem and32 (a : Nat) (h : a ≤ 18446744073709551615) : bitsA .and .u64 (a : Int) 4294967295 = some (.int .u64 ((a % 4294967296 : Nat) : Int)) := by
  have h1 : smallNat .u64 (a : Int) 4294967295 = some (a, 4294967295) := by
    show (bif Nat.ble a (topOf .u64) && Nat.ble 4294967295 (topOf .u64) then some (a, 4294967295) else none) = _
    have : Nat.ble a (topOf .u64) = true := by rw [Nat.ble_eq]; exact h
    rw [this]; rfl
  simp only [bitsA, h1]
  have : Nat.land a 4294967295 = a % 4294967296 := Nat.and_two_pow_sub_one_eq_mod a 32
  rw [this]; rfl
theorem shr32 (a : Nat) : shrA (a : Int) 32 = ((a / 4294967296 : Nat) : Int) := rfl
theorem wrapU {n : Nat} (h : n ≤ 18446744073709551615) : wrapA .u64 (n : Int) = n := by
  rw [wrapA_eq]; simp [IntKind.wrap, IntKind.bits, IntKind.signed]; omega

theorem c188 (a b : Nat) (ha : a < 144115188075855872) (hb : b < 64) (σ : St) : callI TT 188 [.int .u64 a, .int .u64 b] σ = some (.tup [.int .u64 0, .int .u64 ((a * b : Nat) : Int)], σ) := by
  refine (FnV.mk (args' := [.int .u64 a, .int .u64 b]) fn188 rfl md188 ⟨⟨[], 0⟩, ?_⟩ (fun _ => rfl) rfl) σ _ rfl
  obtain ⟨x0, hx0⟩ : ∃ x, x = a % 4294967296 := ⟨_, rfl⟩
  obtain ⟨x1, hx1⟩ : ∃ x, x = a / 4294967296 := ⟨_, rfl⟩
  have hx0l : x0 < 4294967296 := by omega
  have hx1l : x1 < 33554432 := by omega
  have e1 := and32 a (by omega)
  have e2 := shr32 a
  have e3 := and32 b (by omega)
  have e4 := shr32 b
  rw [← hx0] at e1
  rw [← hx1] at e2
  rw [show b % 4294967296 = b by omega] at e3
  rw [show b / 4294967296 = 0 by omega] at e4
  obtain ⟨w0, hw0⟩ : ∃ w, w = x0 * b := ⟨_, rfl⟩
  have hw0l : w0 < 4294967296 * 64 := by rw [hw0]; exact Nat.mul_lt_mul'' hx0l hb
  have m1 : wrapA .u64 ((x0 : Int) * b) = w0 := by rw [← Int.natCast_mul, wrapU (by omega), hw0]
  obtain ⟨w1, hw1⟩ : ∃ w, w = x1 * b := ⟨_, rfl⟩
  have hw1l : w1 < 33554432 * 64 := by rw [hw1]; exact Nat.mul_lt_mul'' hx1l hb
  have m2 : wrapA .u64 ((x1 : Int) * b) = w1 := by rw [← Int.natCast_mul, wrapU (by omega), hw1]
  have e5 := shr32 w0
  obtain ⟨t, ht⟩ : ∃ t, t = w1 + w0 / 4294967296 := ⟨_, rfl⟩
  have htl : t < 4294967296 := by omega
  have m3 : wrapA .u64 ((w1 : Int) + (w0 / 4294967296 : Nat)) = t := by rw [← Int.natCast_add, wrapU (by omega), ht]
  have e6 := and32 t (by omega)
  have e7 := shr32 t
  rw [show t % 4294967296 = t by omega] at e6
  rw [show t / 4294967296 = 0 by omega] at e7
  have m4 : wrapA .u64 ((a : Int) * b) = ((a * b : Nat) : Int) := by
    have : a * b ≤ 144115188075855872 * 64 := Nat.mul_le_mul (by omega) (by omega)
    rw [← Int.natCast_mul, wrapU (by omega)]
  have m5 : wrapA .u64 (0 : Int) = 0 := rfl
  have m6 : wrapA .u64 (t : Int) = t := wrapU (by omega)
  obtain ⟨z, hz⟩ : ∃ z, z = w0 / 4294967296 := ⟨_, rfl⟩
  obtain ⟨ab, hab⟩ : ∃ z, z = a * b := ⟨_, rfl⟩
  rw [← hz] at e5 m3
  rw [← hab] at m4 ⊢
  rw [show ((0 : Nat) : Int) = 0 from rfl] at e4 e7
  have hmin : min 32 IntKind.u64.bits = 32 := rfl
  rw [fi188]
  simp [xI_seq, xI_region, xI_ret, regA, regOps, runOps, opStep, wantedA, opA, evo, evos, calleeA, lk, nif_eq, putE, paramsE, valS, val2, keepE, restrict, finA, resA, binA, binInt, ofConst, ofConst1, loadA, TK.isAgg, asVar, unA, builtinA, lenOpA, lenA, ileb_cast, ileb_eq, ieqb_dec, indexAddrA, inB_dec, evPairs, storeA, AV.cellsOf, pairsOf, xI_nil, binBool, gcE, evOpt, xI_block, xI_loopH, xI_condM, xI_exitM, xI_skip, xI_blk, exitA, ty143, e1, e2, e3, e4, m1, m2, e5, m3, e6, e7, m4, m5, m6, hmin]

theorem frA_yes {q : Rat} (h : fits q = true) : frA q = .tup [.agg [.int .i64 q.num, .int .i64 q.den], .bool true] := by rw [frA, if_pos h]
/-- The chance of an order of n things with s rising sequences after r riffles. -/
def chance (n s r : Nat) : Rat := mkRat (ch (2 ^ r + n - s) n : Nat) (2 ^ (r * n))
/-- How many orders of n things have how many rising sequences. -/
def eul : Nat → List Int
  | 1 => [0, 1, 0, 0, 0, 0, 0, 0, 0, 0, 0, 0, 0]
  | 2 => [0, 1, 1, 0, 0, 0, 0, 0, 0, 0, 0, 0, 0]
  | 3 => [0, 1, 4, 1, 0, 0, 0, 0, 0, 0, 0, 0, 0]
  | 4 => [0, 1, 11, 11, 1, 0, 0, 0, 0, 0, 0, 0, 0]
  | 5 => [0, 1, 26, 66, 26, 1, 0, 0, 0, 0, 0, 0, 0]
  | 6 => [0, 1, 57, 302, 302, 57, 1, 0, 0, 0, 0, 0, 0]
  | 7 => [0, 1, 120, 1191, 2416, 1191, 120, 1, 0, 0, 0, 0, 0]
  | 8 => [0, 1, 247, 4293, 15619, 15619, 4293, 247, 1, 0, 0, 0, 0]
  | _ => []
def facN : Nat → Nat
  | 1 => 1
  | 2 => 2
  | 3 => 6
  | 4 => 24
  | 5 => 120
  | 6 => 720
  | 7 => 5040
  | 8 => 40320
  | _ => 1
theorem n8 {P : Nat → Prop} (h1 : P 1) (h2 : P 2) (h3 : P 3) (h4 : P 4) (h5 : P 5) (h6 : P 6) (h7 : P 7) (h8 : P 8) : ∀ n, 1 ≤ n → n ≤ 8 → P n := by
  intro n h h'
  have : n = 1 ∨ n = 2 ∨ n = 3 ∨ n = 4 ∨ n = 5 ∨ n = 6 ∨ n = 7 ∨ n = 8 := by omega
  rcases this with rfl | rfl | rfl | rfl | rfl | rfl | rfl | rfl <;> assumption

def evenQ (n : Nat) : Rat := mkRat 1 (facN n)
def rdT (n r k : Nat) : Rat := if 0 < at0 (eul n) k then (chance n k r - evenQ n).abs * mkRat (at0 (eul n) k) 1 else 0
def rdQ (n r : Nat) : Rat := sumI (rdT n r) 13 / 2
def spT (n r k : Nat) : Rat := (chance n (k + 1) r - evenQ n).abs * mkRat (at0 (eul n) (k + 1)) 2
/-- What the two ways of reckoning need at all arguments. -/
def chkRD (n r : Nat) : Bool := ((List.range n).all fun k => fits (chance n (k + 1) r - evenQ n) && (fits (spT n r k) && (fits (sumI (spT n r) (k + 1)) && (fits (mkRat (at0 (eul n) (k + 1)) 2) && decide (0 ≤ at0 (eul n) (k + 1) ∧ at0 (eul n) (k + 1) ≤ 100000))))) && (fits (evenQ n) && (decide (sumI (spT n r) n = rdQ n r) && (decide ((eul n).length = 13) && (((List.range 13).all fun k => (decide (0 < at0 (eul n) k) == (decide (1 ≤ k) && decide (k ≤ n))) && decide (at0 (eul n) k ≤ 100000 ∧ 0 ≤ at0 (eul n) k)) && decide (1 ≤ facN n ∧ facN n ≤ 40320)))))

theorem chk_1 : ((List.range 6).all fun r => chkRD 1 r) = true := by decide +kernel
theorem chk_2 : ((List.range 6).all fun r => chkRD 2 r) = true := by decide +kernel
theorem chk_3 : ((List.range 6).all fun r => chkRD 3 r) = true := by decide +kernel
theorem chk_4 : ((List.range 6).all fun r => chkRD 4 r) = true := by decide +kernel
theorem chk_5 : ((List.range 6).all fun r => chkRD 5 r) = true := by decide +kernel
theorem chk_6 : ((List.range 6).all fun r => chkRD 6 r) = true := by decide +kernel
theorem chk_7 : ((List.range 6).all fun r => chkRD 7 r) = true := by decide +kernel
theorem chk_8 : ((List.range 6).all fun r => chkRD 8 r) = true := by decide +kernel
theorem chk_all (n r : Nat) (h1 : 1 ≤ n) (h2 : n ≤ 8) (hr : r ≤ 5) : chkRD n r = true := by
  have := n8 (P := fun n => ((List.range 6).all fun r => chkRD n r) = true) chk_1 chk_2 chk_3 chk_4 chk_5 chk_6 chk_7 chk_8 n h1 h2
  rw [List.all_eq_true] at this
  exact this r (List.mem_range.2 (by omega))
structure RD (n r : Nat) : Prop where
  d : ∀ k, k < n → fits (chance n (k + 1) r - evenQ n) = true
  t : ∀ k, k < n → fits (spT n r k) = true
  s : ∀ k, k < n → fits (sumI (spT n r) (k + 1)) = true
  m : ∀ k, k < n → fits (mkRat (at0 (eul n) (k + 1)) 2) = true
  b : ∀ k, k < n → 0 ≤ at0 (eul n) (k + 1) ∧ at0 (eul n) (k + 1) ≤ 100000
  e : fits (evenQ n) = true
  q : sumI (spT n r) n = rdQ n r
  l : (eul n).length = 13
  p : ∀ k, k < 13 → (0 < at0 (eul n) k ↔ (1 ≤ k ∧ k ≤ n))
  c : ∀ k, k < 13 → at0 (eul n) k ≤ 100000 ∧ 0 ≤ at0 (eul n) k
  f : 1 ≤ facN n ∧ facN n ≤ 40320
theorem rd (n r : Nat) (h1 : 1 ≤ n) (h2 : n ≤ 8) (hr : r ≤ 5) : RD n r := by
  have h := chk_all n r h1 h2 hr
  simp only [chkRD, Bool.and_eq_true, List.all_eq_true, List.mem_range, decide_eq_true_eq, beq_iff_eq] at h
  obtain ⟨a, b, c, d, e, f⟩ := h
  refine ⟨fun k hk => (a k hk).1, fun k hk => (a k hk).2.1, fun k hk => (a k hk).2.2.1, fun k hk => (a k hk).2.2.2.1, fun k hk => (a k hk).2.2.2.2, b, c, d, fun k hk => ?_, fun k hk => (e k hk).2, f⟩
  have := (e k hk).1
  rw [← Bool.decide_and, decide_eq_decide] at this
  exact this
def QC (q : Rat) : List AV := [.int .i64 q.num, .int .i64 q.den]
theorem mk_self {q : Rat} : mkRat q.num (q.den : Int).toNat = q := by rw [Int.toNat_natCast, Rat.mkRat_self]
theorem add_c {a b : Rat} (ha : fits a = true) (hb : fits b = true) (h : fits (a + b) = true) (σ : St) : callI TT 103 [.agg (QC a), .agg (QC b)] σ = some (.tup [.agg (QC (a + b)), .bool true], σ) := by
  have := v103 (vfr_of ha) (vfr_of hb) σ [.agg (QC a), .agg (QC b)] rfl
  rw [mk_self, mk_self, frA_yes h] at this
  exact this
theorem mul_c {a b : Rat} (ha : fits a = true) (hb : fits b = true) (h : fits (a * b) = true) (σ : St) : callI TT 105 [.agg (QC a), .agg (QC b)] σ = some (.tup [.agg (QC (a * b)), .bool true], σ) := by
  have := v105 (vfr_of ha) (vfr_of hb) σ [.agg (QC a), .agg (QC b)] rfl
  rw [mk_self, mk_self, frA_yes h] at this
  exact this
set_option maxHeartbeats 4000000 in
theorem k125 (x1 x2 y1 y2 t1 t2 : Int) (c1 : ∀ σ, callI TT 170 [.agg [.int .i64 x1, .int .i64 x2]] σ = some (.bool true, σ)) (c2 : ∀ σ, callI TT 170 [.agg [.int .i64 y1, .int .i64 y2]] σ = some (.bool true, σ)) (c3 : ∀ σ, callI TT 105 [.agg [.int .i64 x1, .int .i64 x2], .agg [.int .i64 y1, .int .i64 y2]] σ = some (.tup [.agg [.int .i64 t1, .int .i64 t2], .bool true], σ)) :
    ∃ σ', exI TT (FI.of Try.f125 (TT.an 125)) [.code (Try.f125.body.getD .skip)] (paramsE 0 [.agg [.int .i64 x1, .int .i64 x2], .agg [.int .i64 y1, .int .i64 y2]]) ⟨[], 0⟩ = some (.tup [.agg [.int .i64 t1, .int .i64 t2], .bool true], σ') := by
  refine ex1 ?_
  rw [fi125]
  simp only [Try.f125, Option.getD]
  simp (maxSteps := 1000000) (disch := omega) [cellsAt, getCells, takeN, dropN, fieldAddrA, allOne, AV.one, n_push, storeCellsA, putN, overN, St.push, St.get, St.set, hget, hset, blt_dec, buildA, sizesOf, fillA, putCells, List.take_succ_cons, List.take_zero, List.drop_succ_cons, List.drop_zero, List.nil_append, List.cons_append, List.length_cons, List.length_nil, eqvs_dgs, convA, c1, c2, c3]
set_option maxHeartbeats 4000000 in
theorem k53 (x1 x2 y1 y2 t1 t2 : Int) (c1 : ∀ σ, callI TT 125 [.agg [.int .i64 x1, .int .i64 x2], .agg [.int .i64 y1, .int .i64 y2]] σ = some (.tup [.agg [.int .i64 t1, .int .i64 t2], .bool true], σ)) :
    ∃ σ', exI TT (FI.of Try.f53 (TT.an 53)) [.code (Try.f53.body.getD .skip)] (paramsE 0 [.agg [.int .i64 x1, .int .i64 x2], .agg [.int .i64 y1, .int .i64 y2]]) ⟨[], 0⟩ = some (.agg [.int .i64 t1, .int .i64 t2], σ') := by
  refine ex1 ?_
  rw [fi53]
  simp only [Try.f53, Option.getD]
  simp (maxSteps := 1000000) (disch := omega) [cellsAt, getCells, takeN, dropN, fieldAddrA, allOne, AV.one, n_push, storeCellsA, putN, overN, St.push, St.get, St.set, hget, hset, blt_dec, buildA, sizesOf, fillA, putCells, List.take_succ_cons, List.take_zero, List.drop_succ_cons, List.drop_zero, List.nil_append, List.cons_append, List.length_cons, List.length_nil, eqvs_dgs, convA, c1]
theorem r53 {a b : Rat} (ha : fits a = true) (hb : fits b = true) (h : fits (a * b) = true) (σ : St) : callI TT 53 [.agg (QC a), .agg (QC b)] σ = some (.agg (QC (a * b)), σ) := by
  have c1 := fun σ : St => v170 a.num a.den σ [.agg (QC a)] rfl
  have c2 := fun σ : St => v170 b.num b.den σ [.agg (QC b)] rfl
  rw [vfr_of ha] at c1
  rw [vfr_of hb] at c2
  have c3 : FnV TT 125 [.agg (QC a), .agg (QC b)] (.tup [.agg (QC (a * b)), .bool true]) := FnV.mk fn125 rfl md125 (k125 _ _ _ _ _ _ c1 c2 (fun σ => mul_c ha hb h σ)) (fun _ => rfl) rfl
  have c4 : FnV TT 53 [.agg (QC a), .agg (QC b)] (.agg (QC (a * b))) := FnV.mk fn53 rfl md53 (k53 _ _ _ _ _ _ (fun σ => c3 σ _ rfl)) (fun _ => rfl) rfl
  exact c4 σ _ rfl
set_option maxHeartbeats 4000000 in
theorem k120 (x1 x2 y1 y2 : Int) (z : Int) (c1 : ∀ σ, callI TT 170 [.agg [.int .i64 x1, .int .i64 x2]] σ = some (.bool true, σ)) (c2 : ∀ σ, callI TT 170 [.agg [.int .i64 y1, .int .i64 y2]] σ = some (.bool true, σ)) (c3 : ∀ σ, callI TT 69 [.agg [.int .i64 x1, .int .i64 x2], .agg [.int .i64 y1, .int .i64 y2]] σ = some (.int .i64 z, σ)) :
    ∃ σ', exI TT (FI.of Try.f120 (TT.an 120)) [.code (Try.f120.body.getD .skip)] (paramsE 0 [.agg [.int .i64 x1, .int .i64 x2], .agg [.int .i64 y1, .int .i64 y2]]) ⟨[], 0⟩ = some (.tup [.int .i64 z, .bool true], σ') := by
  refine ex1 ?_
  rw [fi120]
  simp only [Try.f120, Option.getD]
  simp (maxSteps := 1000000) (disch := omega) [cellsAt, getCells, takeN, dropN, fieldAddrA, allOne, AV.one, n_push, storeCellsA, putN, overN, St.push, St.get, St.set, hget, hset, blt_dec, buildA, sizesOf, fillA, putCells, List.take_succ_cons, List.take_zero, List.drop_succ_cons, List.drop_zero, List.nil_append, List.cons_append, List.length_cons, List.length_nil, eqvs_dgs, convA, c1, c2, c3]
set_option maxHeartbeats 4000000 in
theorem k46t (x1 x2 y1 y2 : Int) (z : Int) (c1 : ∀ σ, callI TT 120 [.agg [.int .i64 x1, .int .i64 x2], .agg [.int .i64 y1, .int .i64 y2]] σ = some (.tup [.int .i64 z, .bool true], σ)) (hb : z < 0) :
    ∃ σ', exI TT (FI.of Try.f46 (TT.an 46)) [.code (Try.f46.body.getD .skip)] (paramsE 0 [.agg [.int .i64 x1, .int .i64 x2], .agg [.int .i64 y1, .int .i64 y2]]) ⟨[], 0⟩ = some (.bool true, σ') := by
  refine ex1 ?_
  rw [fi46]
  simp only [Try.f46, Option.getD]
  simp (maxSteps := 1000000) (disch := omega) [cellsAt, getCells, takeN, dropN, fieldAddrA, allOne, AV.one, n_push, storeCellsA, putN, overN, St.push, St.get, St.set, hget, hset, blt_dec, buildA, sizesOf, fillA, putCells, List.take_succ_cons, List.take_zero, List.drop_succ_cons, List.drop_zero, List.nil_append, List.cons_append, List.length_cons, List.length_nil, eqvs_dgs, convA, c1, hb]
set_option maxHeartbeats 4000000 in
theorem k46f (x1 x2 y1 y2 : Int) (z : Int) (c1 : ∀ σ, callI TT 120 [.agg [.int .i64 x1, .int .i64 x2], .agg [.int .i64 y1, .int .i64 y2]] σ = some (.tup [.int .i64 z, .bool true], σ)) (hb : 0 ≤ z) :
    ∃ σ', exI TT (FI.of Try.f46 (TT.an 46)) [.code (Try.f46.body.getD .skip)] (paramsE 0 [.agg [.int .i64 x1, .int .i64 x2], .agg [.int .i64 y1, .int .i64 y2]]) ⟨[], 0⟩ = some (.bool false, σ') := by
  refine ex1 ?_
  rw [fi46]
  simp only [Try.f46, Option.getD]
  simp (maxSteps := 1000000) (disch := omega) [cellsAt, getCells, takeN, dropN, fieldAddrA, allOne, AV.one, n_push, storeCellsA, putN, overN, St.push, St.get, St.set, hget, hset, blt_dec, buildA, sizesOf, fillA, putCells, List.take_succ_cons, List.take_zero, List.drop_succ_cons, List.drop_zero, List.nil_append, List.cons_append, List.length_cons, List.length_nil, eqvs_dgs, convA, c1, hb]
theorem cmp_neg {p q : Rat} : cmpR p q < 0 ↔ p < q := by
  unfold cmpR
  constructor
  · intro h
    split at h
    · omega
    · split at h
      · rename_i h2
        have := ng_iff.1 h2
        grind
      · omega
  · intro h
    have h1 : ¬ p - q = 0 := by grind
    rw [if_neg h1, if_pos (ng_iff.2 (by grind))]
    decide
theorem r46 {a b : Rat} (ha : fits a = true) (hb : fits b = true) (σ : St) : callI TT 46 [.agg (QC a), .agg (QC b)] σ = some (.bool (decide (a < b)), σ) := by
  have c1 := fun σ : St => v170 a.num a.den σ [.agg (QC a)] rfl
  have c2 := fun σ : St => v170 b.num b.den σ [.agg (QC b)] rfl
  have c3 := fun σ : St => v69 (vfr_of ha) (vfr_of hb) σ [.agg (QC a), .agg (QC b)] rfl
  rw [mk_self, mk_self] at c3
  rw [vfr_of ha] at c1
  rw [vfr_of hb] at c2
  have c4 : FnV TT 120 [.agg (QC a), .agg (QC b)] (.tup [.int .i64 (cmpR a b), .bool true]) := FnV.mk fn120 rfl md120 (k120 _ _ _ _ _ c1 c2 c3) (fun _ => rfl) rfl
  by_cases h : a < b
  · rw [decide_eq_true h]
    have c5 : FnV TT 46 [.agg (QC a), .agg (QC b)] (.bool true) := FnV.mk fn46 rfl md46 (k46t _ _ _ _ _ (fun σ => c4 σ _ rfl) (cmp_neg.2 h)) (fun _ => rfl) rfl
    exact c5 σ _ rfl
  · rw [decide_eq_false h]
    have c5 : FnV TT 46 [.agg (QC a), .agg (QC b)] (.bool false) := FnV.mk fn46 rfl md46 (k46f _ _ _ _ _ (fun σ => c4 σ _ rfl) (Int.not_lt.1 fun hh => h (cmp_neg.1 hh))) (fun _ => rfl) rfl
    exact c5 σ _ rfl

theorem v39 (n m : Nat) (xs ys : List AV) : FnV TT 39 [.lst n xs, .lst m ys] (.bool (decide (1048576 < n) || decide (1048576 < m))) := by
  refine FnV.mk fn39 rfl md39 ⟨⟨[], 0⟩, ?_⟩ (fun _ => rfl) rfl
  rw [fi39]
  by_cases h : 1048576 < n
  · have h' : ¬ (n : Int) ≤ 1048576 := by omega
    simp [xI_seq, xI_region, xI_ret, regA, regOps, runOps, opStep, wantedA, opA, evo, evos, calleeA, lk, nif_eq, putE, paramsE, valS, val2, keepE, restrict, finA, resA, binA, binInt, ofConst, ofConst1, loadA, TK.isAgg, asVar, unA, builtinA, lenOpA, lenA, ileb_cast, ileb_eq, ieqb_dec, indexAddrA, inB_dec, evPairs, storeA, AV.cellsOf, pairsOf, xI_nil, binBool, gcE, evOpt, xI_block, xI_loopH, xI_condM, xI_exitM, xI_skip, xI_blk, exitA, ty3, ty5, ty55, h, h']
  · have h' : (n : Int) ≤ 1048576 := by omega
    by_cases h2 : 1048576 < m
    · have h2' : ¬ (m : Int) ≤ 1048576 := by omega
      simp [xI_seq, xI_region, xI_ret, regA, regOps, runOps, opStep, wantedA, opA, evo, evos, calleeA, lk, nif_eq, putE, paramsE, valS, val2, keepE, restrict, finA, resA, binA, binInt, ofConst, ofConst1, loadA, TK.isAgg, asVar, unA, builtinA, lenOpA, lenA, ileb_cast, ileb_eq, ieqb_dec, indexAddrA, inB_dec, evPairs, storeA, AV.cellsOf, pairsOf, xI_nil, binBool, gcE, evOpt, xI_block, xI_loopH, xI_condM, xI_exitM, xI_skip, xI_blk, exitA, ty3, ty5, ty55, h, h', h2, h2']
    · have h2' : (m : Int) ≤ 1048576 := by omega
      simp [xI_seq, xI_region, xI_ret, regA, regOps, runOps, opStep, wantedA, opA, evo, evos, calleeA, lk, nif_eq, putE, paramsE, valS, val2, keepE, restrict, finA, resA, binA, binInt, ofConst, ofConst1, loadA, TK.isAgg, asVar, unA, builtinA, lenOpA, lenA, ileb_cast, ileb_eq, ieqb_dec, indexAddrA, inB_dec, evPairs, storeA, AV.cellsOf, pairsOf, xI_nil, binBool, gcE, evOpt, xI_block, xI_loopH, xI_condM, xI_exitM, xI_skip, xI_blk, exitA, ty3, ty5, ty55, h, h', h2, h2']

theorem v41 (l : List Nat) (hl : ∀ x ∈ l, x < 256) (i n : Nat) (hn2 : n < 1000000) (hi : i < 1000000) : ∃ r : Nat, r < max 1 n ∧ FnV TT 41 [.lst l.length (byts l), .int .i64 i, .int .i64 n] (.int .i64 r) := by
  by_cases h1 : n ≤ 1
  · have h1' : (n : Int) ≤ 1 := by omega
    refine ⟨0, by omega, FnV.mk fn41 rfl md41 ⟨⟨[], 0⟩, ?_⟩ (fun _ => rfl) rfl⟩
    rw [fi41]
    simp [xI_seq, xI_region, xI_ret, regA, regOps, runOps, opStep, wantedA, opA, evo, evos, calleeA, lk, nif_eq, putE, paramsE, valS, val2, keepE, restrict, finA, resA, binA, binInt, ofConst, ofConst1, loadA, TK.isAgg, asVar, unA, builtinA, lenOpA, lenA, ileb_cast, ileb_eq, ieqb_dec, indexAddrA, inB_dec, evPairs, storeA, AV.cellsOf, pairsOf, xI_nil, binBool, gcE, evOpt, xI_block, xI_loopH, xI_condM, xI_exitM, xI_skip, xI_blk, exitA, ty2, ty5, ty55, h1, h1']
  have hn : 1 < n := by omega
  have h0 : ¬ (n : Int) ≤ 1 := by omega
  by_cases hil : i < l.length
  · obtain ⟨x, hx⟩ : ∃ x, l[i]? = some x := ⟨_, List.getElem?_eq_getElem hil⟩
    have hx2 : x < 256 := hl x (List.mem_of_getElem? hx)
    have hr : cellsAt (⟨[], 0⟩ : St) (.lp (byts l) i) 1 = some [.int .u8 x] := getCells_byt hx
    have hil2 : ¬ l.length ≤ i := by omega
    have hw : wrapA .i64 (x : Int) = x := wrapA_id (by omega) (by omega)
    have hm : (x : Int).tmod n = (x % n : Nat) := by rw [Int.tmod_eq_emod_of_nonneg (by omega)]; simp
    have hne : ¬ (n : Int) = 0 := by omega
    have hne2 : ¬ n = 0 := by omega
    have hlt := Nat.mod_lt x (show 0 < n by omega)
    refine ⟨x % n, by omega, FnV.mk fn41 rfl md41 ⟨⟨[], 0⟩, ?_⟩ (fun _ => rfl) rfl⟩
    rw [fi41]
    simp [xI_seq, xI_region, xI_ret, regA, regOps, runOps, opStep, wantedA, opA, evo, evos, calleeA, lk, nif_eq, putE, paramsE, valS, val2, keepE, restrict, finA, resA, binA, binInt, ofConst, ofConst1, loadA, TK.isAgg, asVar, unA, builtinA, lenOpA, lenA, ileb_cast, ileb_eq, ieqb_dec, indexAddrA, inB_dec, evPairs, storeA, AV.cellsOf, pairsOf, xI_nil, binBool, gcE, evOpt, xI_block, xI_loopH, xI_condM, xI_exitM, xI_skip, xI_blk, exitA, ty2, ty5, ty55, h0, hil, hil2, hr, convA, hw, hm, hne, hne2, ty5]
  · have hil2 : l.length ≤ i := by omega
    have hw : wrapA .i64 ((i : Int) * 37) = ((i * 37 : Nat) : Int) := by rw [wrapA_id (by omega) (by omega)]; omega
    have hw2 : wrapA .i64 (((i * 37 : Nat) : Int) + 11) = ((i * 37 + 11 : Nat) : Int) := by rw [wrapA_id (by omega) (by omega)]; omega
    have hm : ((i * 37 + 11 : Nat) : Int).tmod n = ((i * 37 + 11) % n : Nat) := by rw [Int.tmod_eq_emod_of_nonneg (by omega)]; simp
    have hne : ¬ (n : Int) = 0 := by omega
    have hne2 : ¬ n = 0 := by omega
    have hlt := Nat.mod_lt (i * 37 + 11) (show 0 < n by omega)
    refine ⟨(i * 37 + 11) % n, by omega, FnV.mk fn41 rfl md41 ⟨⟨[], 0⟩, ?_⟩ (fun _ => rfl) rfl⟩
    rw [fi41]
    generalize hz : i * 37 = z at *
    generalize hz2 : z + 11 = z2 at *
    simp [xI_seq, xI_region, xI_ret, regA, regOps, runOps, opStep, wantedA, opA, evo, evos, calleeA, lk, nif_eq, putE, paramsE, valS, val2, keepE, restrict, finA, resA, binA, binInt, ofConst, ofConst1, loadA, TK.isAgg, asVar, unA, builtinA, lenOpA, lenA, ileb_cast, ileb_eq, ieqb_dec, indexAddrA, inB_dec, evPairs, storeA, AV.cellsOf, pairsOf, xI_nil, binBool, gcE, evOpt, xI_block, xI_loopH, xI_condM, xI_exitM, xI_skip, xI_blk, exitA, ty2, ty5, ty55, h0, hil, hil2, hw, hw2, hm, hne, hne2, ty5]

theorem wrap_u (z : Int) : ∃ m : Nat, wrapA .u64 z = m ∧ m < 18446744073709551616 := by
  refine ⟨(wrapA .u64 z).toNat, ?_, ?_⟩ <;> (rw [wrapA_eq]; simp [IntKind.wrap, IntKind.bits, IntKind.signed]; omega)
/-- A source of choices in the heap. -/
def SRC (σ : St) (s : Nat) (l : List Nat) (k m : Nat) : Prop := s < σ.n ∧ σ.get s = some ⟨[.lst l.length (byts l), .int .i64 k, .int .u64 m], 3, false⟩ ∧ m < 18446744073709551616
theorem SRC.set {σ : St} {s : Nat} {l : List Nat} {k m k' m' : Nat} (h : SRC σ s l k m) (hm : m' < 18446744073709551616) : ∃ σ1 σ2, storeCellsA σ s 1 [.int .i64 (k' : Int)] = some σ1 ∧ cellsAt σ1 (.ptr s 2) 1 = some [.int .u64 m] ∧ storeCellsA σ1 s 2 [.int .u64 (m' : Int)] = some σ2 ∧ SRC σ2 s l k' m' ∧ σ2.n = σ.n ∧ ∀ c, c ≠ s → σ2.get c = σ.get c := by
  obtain ⟨h1, h2, _⟩ := h
  have e1 : (σ.set s ⟨[.lst l.length (byts l), .int .i64 k', .int .u64 m], 3, false⟩).get s = some ⟨[.lst l.length (byts l), .int .i64 k', .int .u64 m], 3, false⟩ := get_set_eq h2
  refine ⟨σ.set s ⟨[.lst l.length (byts l), .int .i64 k', .int .u64 m], 3, false⟩, (σ.set s ⟨[.lst l.length (byts l), .int .i64 k', .int .u64 m], 3, false⟩).set s ⟨[.lst l.length (byts l), .int .i64 k', .int .u64 m'], 3, false⟩, ?_, ?_, ?_, ⟨h1, get_set_eq e1, hm⟩, rfl, fun c hc => ?_⟩
  · simp [storeCellsA, h2, allOne, AV.one, putN, overN]
  · simp [cellsAt, e1, getCells, takeN, dropN]
  · simp [storeCellsA, e1, allOne, AV.one, putN, overN]
  · rw [get_set_ne (fun h => hc h.symm), get_set_ne (fun h => hc h.symm)]
theorem SRC.c0 {σ : St} {s : Nat} {l : List Nat} {k m : Nat} (h : SRC σ s l k m) : cellsAt σ (.ptr s 0) 1 = some [.lst l.length (byts l)] := by simp [cellsAt, h.2.1, getCells, takeN, dropN]
theorem SRC.c1 {σ : St} {s : Nat} {l : List Nat} {k m : Nat} (h : SRC σ s l k m) : cellsAt σ (.ptr s 1) 1 = some [.int .i64 k] := by simp [cellsAt, h.2.1, getCells, takeN, dropN]
theorem SRC.c2 {σ : St} {s : Nat} {l : List Nat} {k m : Nat} (h : SRC σ s l k m) : cellsAt σ (.ptr s 2) 1 = some [.int .u64 m] := by simp [cellsAt, h.2.1, getCells, takeN, dropN]
theorem c165 (l : List Nat) (hl : ∀ x ∈ l, x < 256) (hll : l.length ≤ 2000000) (k m : Nat) (hk : k ≤ 1000000) (σ : St) (s : Nat) (h : SRC σ s l k m) :
    ∃ (r m' : Nat) (σ' : St), callI TT 165 [.ptr s 0] σ = some (.int .i64 r, σ') ∧ r ≤ 255 ∧ SRC σ' s l (k + 1) m' ∧ σ'.n = σ.n ∧ ∀ c, c ≠ s → σ'.get c = σ.get c := by
  have c0 := h.c0
  have c1 := h.c1
  have hw := wrapS (n := k) (by omega)
  have step : ∀ b : Nat, ∃ (m3 : Nat) (σ1 σ2 : St), m3 < 18446744073709551616 ∧ storeCellsA σ s 1 [.int .i64 ((k : Int) + 1)] = some σ1 ∧ cellsAt σ1 (.ptr s 2) 1 = some [.int .u64 m] ∧ wrapA .u64 (wrapA .u64 (wrapA .u64 ((m : Int) * 6364136223846793005) + (b : Int)) + 1442695040888963407) = (m3 : Int) ∧ storeCellsA σ1 s 2 [.int .u64 (m3 : Int)] = some σ2 ∧ SRC σ2 s l (k + 1) m3 ∧ σ2.n = σ.n ∧ ∀ c, c ≠ s → σ2.get c = σ.get c := by
    intro b
    obtain ⟨m3, e3, h3⟩ := wrap_u (wrapA .u64 (wrapA .u64 ((m : Int) * 6364136223846793005) + (b : Int)) + 1442695040888963407)
    obtain ⟨σ1, σ2, a1, a2, a3, a4, a5, a6⟩ := h.set (k' := k + 1) h3
    exact ⟨m3, σ1, σ2, h3, by simpa using a1, a2, e3, a3, a4, a5, a6⟩
  by_cases hlt : k < l.length
  · obtain ⟨b, hb⟩ : ∃ b, l[k]? = some b := ⟨l[k], List.getElem?_eq_getElem hlt⟩
    have hb2 : b < 256 := hl b (List.mem_of_getElem? hb)
    obtain ⟨m3, σ1, σ2, h3, a1, a2, a3, a4, a5, a6, a7⟩ := step b
    have d0 := a5.c0
    have d1 := a5.c1
    have kb : ∀ σ, cellsAt σ (.lp (byts l) k) 1 = some [.int .u8 b] := fun σ => getCells_byt hb
    have u1 : wrapA .i64 (b : Int) = b := n_wrap (by omega)
    have u2 : wrapA .u64 (b : Int) = b := n_wrapu (by omega)
    have hlt2 : ¬ l.length ≤ k := by omega
    have hle : k + 1 ≤ l.length := by omega
    have hle' : (k : Int) + 1 ≤ l.length := by omega
    have hle2 : ¬ ((l.length : Int) < (k : Int) + 1) := by omega
    refine ⟨b, m3, σ2, ?_, by omega, a5, a6, a7⟩
    simp only [Int.natCast_add, show ((1 : Nat) : Int) = 1 from rfl] at d1
    rw [cI_0 fn165 rfl md165, fi165]
    simp [xI_seq, xI_region, xI_ret, regA, regOps, runOps, opStep, wantedA, opA, evo, evos, calleeA, lk, nif_eq, putE, paramsE, valS, val2, keepE, restrict, finA, resA, binA, binInt, ofConst, ofConst1, loadA, TK.isAgg, asVar, unA, builtinA, lenOpA, lenA, ileb_cast, ileb_eq, ieqb_dec, indexAddrA, inB_dec, evPairs, storeA, AV.cellsOf, pairsOf, xI_nil, binBool, gcE, evOpt, xI_block, xI_loopH, xI_condM, xI_exitM, xI_skip, xI_blk, exitA, ty2, ty3, ty5, ty55, ty143, ty169, fieldAddrA, allOne, AV.one, ty143, ty169, ty2, ty3, ty5, ty55, c0, c1, hw, hlt, hlt2, kb, u1, u2, a1, a2, a3, a4, d0, d1, hle, hle', hle2, convA]
  · obtain ⟨m3, σ1, σ2, h3, a1, a2, a3, a4, a5, a6, a7⟩ := step 0
    have d0 := a5.c0
    have d1 := a5.c1
    have d2 := a5.c2
    have u2 : wrapA .u64 (0 : Int) = 0 := by decide
    have hlt2 : l.length ≤ k := by omega
    have hle : ¬ k + 1 ≤ l.length := by omega
    have hle' : ¬ (k : Int) + 1 ≤ l.length := by omega
    have hle2 : (l.length : Int) < (k : Int) + 1 := by omega
    have e1 : shrA (m3 : Int) (min 40 IntKind.u64.bits) = ((shrN m3 40 : Nat) : Int) := rfl
    have e2 : bitsA .and .u64 ((shrN m3 40 : Nat) : Int) 255 = some (.int .u64 ((andN (shrN m3 40) 255 : Nat) : Int)) := w_and .u64 (a := shrN m3 40) (b := 255) (by show m3 / 2 ^ 40 ≤ _; simp only [topOf]; omega) (by decide)
    have e3 : andN (shrN m3 40) 255 ≤ 255 := Nat.and_le_right
    have e4 : wrapA .i64 ((andN (shrN m3 40) 255 : Nat) : Int) = ((andN (shrN m3 40) 255 : Nat) : Int) := n_wrap (by omega)
    refine ⟨andN (shrN m3 40) 255, m3, σ2, ?_, e3, a5, a6, a7⟩
    simp only [Int.natCast_add, show ((1 : Nat) : Int) = 1 from rfl] at d1
    simp only [show ((0 : Nat) : Int) = 0 from rfl, Int.add_zero] at a3
    rw [cI_0 fn165 rfl md165, fi165]
    simp [xI_seq, xI_region, xI_ret, regA, regOps, runOps, opStep, wantedA, opA, evo, evos, calleeA, lk, nif_eq, putE, paramsE, valS, val2, keepE, restrict, finA, resA, binA, binInt, ofConst, ofConst1, loadA, TK.isAgg, asVar, unA, builtinA, lenOpA, lenA, ileb_cast, ileb_eq, ieqb_dec, indexAddrA, inB_dec, evPairs, storeA, AV.cellsOf, pairsOf, xI_nil, binBool, gcE, evOpt, xI_block, xI_loopH, xI_condM, xI_exitM, xI_skip, xI_blk, exitA, ty2, ty3, ty5, ty55, ty143, ty169, fieldAddrA, allOne, AV.one, ty143, ty169, ty2, ty3, ty5, ty55, c0, c1, hw, hlt, hlt2, u2, a1, a2, a3, a4, d0, d1, d2, hle, hle', hle2, e1, e2, e4, convA]

theorem c113 (l : List Nat) (hl : ∀ x ∈ l, x < 256) (hll : l.length ≤ 2000000) (k m : Nat) (hk : k ≤ 999000) (n : Nat) (hn : n ≤ 1000000) (σ : St) (s : Nat) (h : SRC σ s l k m) :
    ∃ (r k' m' : Nat) (σ' : St), callI TT 113 [.ptr s 0, .int .i64 n] σ = some (.int .i64 r, σ') ∧ r < max 1 n ∧ SRC σ' s l k' m' ∧ k' ≤ k + 2 ∧ σ'.n = σ.n ∧ ∀ c, c ≠ s → σ'.get c = σ.get c := by
  by_cases h1 : n ≤ 1
  · have h1' : (n : Int) ≤ 1 := by omega
    refine ⟨0, k, m, σ, ?_, by omega, h, by omega, rfl, fun _ _ => rfl⟩
    rw [cI_0 fn113 rfl md113, fi113]
    simp [xI_seq, xI_region, xI_ret, regA, regOps, runOps, opStep, wantedA, opA, evo, evos, calleeA, lk, nif_eq, putE, paramsE, valS, val2, keepE, restrict, finA, resA, binA, binInt, ofConst, ofConst1, loadA, TK.isAgg, asVar, unA, builtinA, lenOpA, lenA, ileb_cast, ileb_eq, ieqb_dec, indexAddrA, inB_dec, evPairs, storeA, AV.cellsOf, pairsOf, xI_nil, binBool, gcE, evOpt, xI_block, xI_loopH, xI_condM, xI_exitM, xI_skip, xI_blk, exitA, ty2, h1, h1']
  · have h1' : ¬ (n : Int) ≤ 1 := by omega
    have h0 : ¬ (n : Int) = 0 := by omega
    have h00 : ¬ n = 0 := by omega
    obtain ⟨r1, m1, σ1, c1, b1, s1, e1, k1⟩ := c165 l hl hll k m (by omega) σ s h
    by_cases h2 : 200 < n
    · have h2' : (200 : Int) < (n : Int) := by omega
      obtain ⟨r2, m2, σ2, c2, b2, s2, e2, k2⟩ := c165 l hl hll (k + 1) m1 (by omega) σ1 s s1
      have w1 : wrapA .i64 ((r1 : Int) * 256) = ((mulN r1 256 : Nat) : Int) := n_wrap (a := mulN r1 256) (by show r1 * 256 ≤ _; omega)
      have w2 : wrapA .i64 (((mulN r1 256 : Nat) : Int) + (r2 : Int)) = ((addN (mulN r1 256) r2 : Nat) : Int) := by rw [← Int.natCast_add]; exact n_wrap (a := addN (mulN r1 256) r2) (by show r1 * 256 + r2 ≤ _; omega)
      have w3 : ((addN (mulN r1 256) r2 : Nat) : Int).tmod (n : Int) = ((modN (addN (mulN r1 256) r2) n : Nat) : Int) := rfl
      have w4 : ((addN (mulN r1 256) r2 : Nat) : Int) % (n : Int) = ((modN (addN (mulN r1 256) r2) n : Nat) : Int) := rfl
      have w5 : modN (addN (mulN r1 256) r2) n < n := Nat.mod_lt _ (by omega)
      refine ⟨modN (addN (mulN r1 256) r2) n, k + 2, m2, σ2, ?_, by omega, s2, Nat.le_refl _, by omega, fun c hc => (k2 c hc).trans (k1 c hc)⟩
      rw [cI_0 fn113 rfl md113, fi113]
      simp [xI_seq, xI_region, xI_ret, regA, regOps, runOps, opStep, wantedA, opA, evo, evos, calleeA, lk, nif_eq, putE, paramsE, valS, val2, keepE, restrict, finA, resA, binA, binInt, ofConst, ofConst1, loadA, TK.isAgg, asVar, unA, builtinA, lenOpA, lenA, ileb_cast, ileb_eq, ieqb_dec, indexAddrA, inB_dec, evPairs, storeA, AV.cellsOf, pairsOf, xI_nil, binBool, gcE, evOpt, xI_block, xI_loopH, xI_condM, xI_exitM, xI_skip, xI_blk, exitA, ty2, h1, h1', h0, h00, c1, h2, h2', w1, c2, w2, w3, w4]
    · have h2' : ¬ (200 : Int) < (n : Int) := by omega
      have w3 : (r1 : Int).tmod (n : Int) = ((modN r1 n : Nat) : Int) := rfl
      have w4 : (r1 : Int) % (n : Int) = ((modN r1 n : Nat) : Int) := rfl
      have w5 : modN r1 n < n := Nat.mod_lt _ (by omega)
      refine ⟨modN r1 n, k + 1, m1, σ1, ?_, by omega, s1, by omega, e1, k1⟩
      rw [cI_0 fn113 rfl md113, fi113]
      simp [xI_seq, xI_region, xI_ret, regA, regOps, runOps, opStep, wantedA, opA, evo, evos, calleeA, lk, nif_eq, putE, paramsE, valS, val2, keepE, restrict, finA, resA, binA, binInt, ofConst, ofConst1, loadA, TK.isAgg, asVar, unA, builtinA, lenOpA, lenA, ileb_cast, ileb_eq, ieqb_dec, indexAddrA, inB_dec, evPairs, storeA, AV.cellsOf, pairsOf, xI_nil, binBool, gcE, evOpt, xI_block, xI_loopH, xI_condM, xI_exitM, xI_skip, xI_blk, exitA, ty2, h1, h1', h0, h00, c1, h2, h2', w3, w4]

theorem c166 (l : List Nat) (hl : ∀ x ∈ l, x < 256) (hll : l.length ≤ 2000000) (k m : Nat) (hk : k ≤ 999000) (n : Nat) (hn : n ≤ 1000000) (σ : St) (s : Nat) (h : SRC σ s l k m) :
    ∃ (r : Bool) (k' m' : Nat) (σ' : St), callI TT 166 [.ptr s 0, .int .i64 n] σ = some (.bool r, σ') ∧ SRC σ' s l k' m' ∧ k' ≤ k + 2 ∧ σ'.n = σ.n ∧ ∀ c, c ≠ s → σ'.get c = σ.get c := by
  obtain ⟨r, k', m', σ', c1, _, s1, hk', hn', hc⟩ := c113 l hl hll k m hk n hn σ s h
  refine ⟨decide (r = 0), k', m', σ', ?_, s1, hk', hn', hc⟩
  rw [cI_0 fn166 rfl md166, fi166]
  simp [xI_seq, xI_region, xI_ret, regA, regOps, runOps, opStep, wantedA, opA, evo, evos, calleeA, lk, nif_eq, putE, paramsE, valS, val2, keepE, restrict, finA, resA, binA, binInt, ofConst, ofConst1, loadA, TK.isAgg, asVar, unA, builtinA, lenOpA, lenA, ileb_cast, ileb_eq, ieqb_dec, indexAddrA, inB_dec, evPairs, storeA, AV.cellsOf, pairsOf, xI_nil, binBool, gcE, evOpt, xI_block, xI_loopH, xI_condM, xI_exitM, xI_skip, xI_blk, exitA, ty2, c1]

theorem c112 (l : List Nat) (σ : St) : ∃ σ', callI TT 112 [.lst l.length (byts l)] σ = some (.ptr σ.n 0, σ') ∧ SRC σ' σ.n l 0 0 ∧ σ'.n = σ.n + 1 ∧ Old σ σ' := by
  refine ⟨σ.push ⟨[.lst l.length (byts l), .int .i64 0, .int .u64 0], 3, false⟩, ?_, ⟨Nat.lt_succ_self _, get_push_same, by decide⟩, rfl, Old.push⟩
  rw [cI_0 fn112 rfl md112, fi112]
  simp [xI_seq, xI_region, xI_ret, regA, regOps, runOps, opStep, wantedA, opA, evo, evos, calleeA, lk, nif_eq, putE, paramsE, valS, val2, keepE, restrict, finA, resA, binA, binInt, ofConst, ofConst1, loadA, TK.isAgg, asVar, unA, builtinA, lenOpA, lenA, ileb_cast, ileb_eq, ieqb_dec, indexAddrA, inB_dec, evPairs, storeA, AV.cellsOf, pairsOf, xI_nil, binBool, gcE, evOpt, xI_block, xI_loopH, xI_condM, xI_exitM, xI_skip, xI_blk, exitA, ty169, allOne, AV.one, buildA, sizesOf, fillA, putCells, fieldAddrA, allOne, AV.one, ty143, ty169, ty2, ty3, ty5, ty55]

noncomputable def b114 : Code := Try.f114.body.getD .skip
noncomputable def B114_0 : Code := (bodyC (bodyC (sndC (fstC (sndC (sndC (sndC (sndC b114))))))))
noncomputable def K114_0 : List It := .lp B114_0 :: .blk 0 :: .code (sndC (sndC (sndC (sndC (sndC b114))))) :: []
theorem xl114_0 {fi : FI} {env : Env} {σ : St} : exI TT fi K114_0 env σ = exI TT fi (.code B114_0 :: K114_0) env σ := by unfold K114_0; exact xI_lp
noncomputable def R114_0_0 : List It := .code (sndC (sndC (sndC (sndC (sndC b114))))) :: []
theorem eK114_0_0 : exitA 0 K114_0 = some R114_0_0 := rfl
noncomputable def B114_1 : Code := (bodyC (bodyC (sndC (fstC (sndC (sndC (sndC (sndC (sndC (sndC (sndC b114)))))))))))
noncomputable def K114_1 : List It := .lp B114_1 :: .blk 2 :: .code (sndC (sndC (sndC (sndC (sndC (sndC (sndC (sndC b114)))))))) :: []
theorem xl114_1 {fi : FI} {env : Env} {σ : St} : exI TT fi K114_1 env σ = exI TT fi (.code B114_1 :: K114_1) env σ := by unfold K114_1; exact xI_lp
noncomputable def R114_1_2 : List It := .code (sndC (sndC (sndC (sndC (sndC (sndC (sndC (sndC b114)))))))) :: []
theorem eK114_1_2 : exitA 2 K114_1 = some R114_1_2 := rfl
set_option maxHeartbeats 4000000 in
theorem s114y (s b m b2 m2 : Nat) (n a a2 z x : Int) (i : Nat) (σ σ1 σ2 σ3 σ4 : St) (hi : (i : Int) < n) (c1 : callI TT 113 [.ptr s 0, .int .i64 5] σ = some (.int .i64 x, σ1)) (c2 : callI TT 166 [.ptr s 0, .int .i64 z] σ1 = some (.bool true, σ2)) (c3 : buildSliceA TT σ2 48 1 [(0, .int .i64 0)] = some (.sl σ2.n 0 1 1, σ3)) (c4 : appendA TT σ3 48 48 (.sl b 0 m m) (.sl σ2.n 0 1 1) = some (.sl b2 0 m2 m2, σ4)) (ha : wrapA .i64 a = a2) (hw : wrapA .i64 ((i : Int) + 1) = (i : Int) + 1) :
    exI TT (FI.of Try.f114 (TT.an 114)) K114_0 [(0, .ptr s 0), (1, .int .i64 n), (5, .sl b 0 m m), (6, .int .i64 a), (7, .int .i64 z), (8, .int .i64 i)] σ = exI TT (FI.of Try.f114 (TT.an 114)) K114_0 [(0, .ptr s 0), (1, .int .i64 n), (5, .sl b2 0 m2 m2), (6, .int .i64 a2), (7, .int .i64 z), (8, .int .i64 ((i : Int) + 1))] σ4 := by
  rw [fi114]
  conv => lhs; rw [xl114_0]
  simp only [B114_0, b114, Try.f114, Option.getD, fstC, sndC, bodyC, thnC, elsC]
  simp (maxSteps := 1000000) (disch := omega) [eK114_0_0, eK114_1_2, getCells, takeN, dropN, fieldAddrA, allOne, AV.one, n_push, putN, overN, blt_dec, buildA, sizesOf, fillA, putCells, List.take_succ_cons, List.take_zero, List.drop_succ_cons, List.drop_zero, List.nil_append, List.cons_append, List.length_cons, List.length_nil, eqvs_dgs, convA, hi, c1, c2, c3, c4, ha, hw]
set_option maxHeartbeats 4000000 in
theorem s114k (s b m b2 m2 : Nat) (n a a2 z x : Int) (i : Nat) (σ σ1 σ2 σ3 σ4 : St) (hi : (i : Int) < n) (c1 : callI TT 113 [.ptr s 0, .int .i64 5] σ = some (.int .i64 x, σ1)) (c2 : callI TT 166 [.ptr s 0, .int .i64 z] σ1 = some (.bool false, σ2)) (c3 : buildSliceA TT σ2 48 1 [(0, .int .i64 x)] = some (.sl σ2.n 0 1 1, σ3)) (c4 : appendA TT σ3 48 48 (.sl b 0 m m) (.sl σ2.n 0 1 1) = some (.sl b2 0 m2 m2, σ4)) (ha : wrapA .i64 (a + x) = a2) (hw : wrapA .i64 ((i : Int) + 1) = (i : Int) + 1) :
    exI TT (FI.of Try.f114 (TT.an 114)) K114_0 [(0, .ptr s 0), (1, .int .i64 n), (5, .sl b 0 m m), (6, .int .i64 a), (7, .int .i64 z), (8, .int .i64 i)] σ = exI TT (FI.of Try.f114 (TT.an 114)) K114_0 [(0, .ptr s 0), (1, .int .i64 n), (5, .sl b2 0 m2 m2), (6, .int .i64 a2), (7, .int .i64 z), (8, .int .i64 ((i : Int) + 1))] σ4 := by
  rw [fi114]
  conv => lhs; rw [xl114_0]
  simp only [B114_0, b114, Try.f114, Option.getD, fstC, sndC, bodyC, thnC, elsC]
  simp (maxSteps := 1000000) (disch := omega) [eK114_0_0, eK114_1_2, getCells, takeN, dropN, fieldAddrA, allOne, AV.one, n_push, putN, overN, blt_dec, buildA, sizesOf, fillA, putCells, List.take_succ_cons, List.take_zero, List.drop_succ_cons, List.drop_zero, List.nil_append, List.cons_append, List.length_cons, List.length_nil, eqvs_dgs, convA, hi, c1, c2, c3, c4, ha, hw]
set_option maxHeartbeats 4000000 in
theorem e114p (s b m : Nat) (n a z : Int) (i : Nat) (σ σ1 : St) (hi : n = i) (ha : ¬ a = 0) (c1 : buildSliceA TT σ 25 0 [] = some (.sl σ.n 0 0 0, σ1)) :
    exI TT (FI.of Try.f114 (TT.an 114)) K114_0 [(0, .ptr s 0), (1, .int .i64 n), (5, .sl b 0 m m), (6, .int .i64 a), (7, .int .i64 z), (8, .int .i64 i)] σ = exI TT (FI.of Try.f114 (TT.an 114)) K114_1 [(1, .int .i64 n), (5, .sl b 0 m m), (6, .int .i64 a), (10, .sl σ.n 0 0 0), (11, .int .i64 0)] σ1 := by
  rw [fi114]
  conv => lhs; rw [xl114_0]
  simp only [B114_0, b114, Try.f114, Option.getD, fstC, sndC, bodyC, thnC, elsC]
  simp (maxSteps := 1000000) (disch := omega) [eK114_0_0, eK114_1_2, getCells, takeN, dropN, fieldAddrA, allOne, AV.one, n_push, putN, overN, blt_dec, buildA, sizesOf, fillA, putCells, List.take_succ_cons, List.take_zero, List.drop_succ_cons, List.drop_zero, List.nil_append, List.cons_append, List.length_cons, List.length_nil, eqvs_dgs, convA, hi, ha, c1]
  simp only [R114_0_0, b114, Try.f114, Option.getD, fstC, sndC, bodyC, thnC, elsC]
  simp (maxSteps := 1000000) (disch := omega) [eK114_0_0, eK114_1_2, getCells, takeN, dropN, fieldAddrA, allOne, AV.one, n_push, putN, overN, blt_dec, buildA, sizesOf, fillA, putCells, List.take_succ_cons, List.take_zero, List.drop_succ_cons, List.drop_zero, List.nil_append, List.cons_append, List.length_cons, List.length_nil, eqvs_dgs, convA, hi, ha, c1]
  rfl
set_option maxHeartbeats 4000000 in
theorem e114z (s b m r : Nat) (n z : Int) (i : Nat) (σ σ1 σ2 σ3 : St) (hi : n = i) (c0 : callI TT 113 [.ptr s 0, .int .i64 i] σ = some (.int .i64 r, σ1)) (hr : r < m) (s1 : storeCellsA σ1 b r [.int .i64 1] = some σ2) (c1 : buildSliceA TT σ2 25 0 [] = some (.sl σ2.n 0 0 0, σ3)) :
    exI TT (FI.of Try.f114 (TT.an 114)) K114_0 [(0, .ptr s 0), (1, .int .i64 n), (5, .sl b 0 m m), (6, .int .i64 0), (7, .int .i64 z), (8, .int .i64 i)] σ = exI TT (FI.of Try.f114 (TT.an 114)) K114_1 [(1, .int .i64 n), (5, .sl b 0 m m), (6, .int .i64 1), (10, .sl σ2.n 0 0 0), (11, .int .i64 0)] σ3 := by
  rw [fi114]
  conv => lhs; rw [xl114_0]
  simp only [B114_0, b114, Try.f114, Option.getD, fstC, sndC, bodyC, thnC, elsC]
  simp (maxSteps := 1000000) (disch := omega) [eK114_0_0, eK114_1_2, getCells, takeN, dropN, fieldAddrA, allOne, AV.one, n_push, putN, overN, blt_dec, buildA, sizesOf, fillA, putCells, List.take_succ_cons, List.take_zero, List.drop_succ_cons, List.drop_zero, List.nil_append, List.cons_append, List.length_cons, List.length_nil, eqvs_dgs, convA, hi, c0, hr, s1, c1]
  simp only [R114_0_0, b114, Try.f114, Option.getD, fstC, sndC, bodyC, thnC, elsC]
  simp (maxSteps := 1000000) (disch := omega) [eK114_0_0, eK114_1_2, getCells, takeN, dropN, fieldAddrA, allOne, AV.one, n_push, putN, overN, blt_dec, buildA, sizesOf, fillA, putCells, List.take_succ_cons, List.take_zero, List.drop_succ_cons, List.drop_zero, List.nil_append, List.cons_append, List.length_cons, List.length_nil, eqvs_dgs, convA, hi, c0, hr, s1, c1]
  rfl
set_option maxHeartbeats 4000000 in
theorem t114 (b m d j d2 j2 : Nat) (n a w x y : Int) (i : Nat) (σ σ1 σ2 : St) (hi : (i : Int) < n) (him : i < m) (l1 : cellsAt σ (.ptr b i) 1 = some [.int .i64 w]) (c1 : callI TT 100 [.int .i64 w, .int .i64 a] σ = some (.agg [.int .i64 x, .int .i64 y], σ)) (c2 : buildSliceA TT σ 25 1 [(0, .agg [.int .i64 x, .int .i64 y])] = some (.sl σ.n 0 1 1, σ1)) (c3 : appendA TT σ1 25 25 (.sl d 0 j j) (.sl σ.n 0 1 1) = some (.sl d2 0 j2 j2, σ2)) (hw : wrapA .i64 ((i : Int) + 1) = (i : Int) + 1) :
    exI TT (FI.of Try.f114 (TT.an 114)) K114_1 [(1, .int .i64 n), (5, .sl b 0 m m), (6, .int .i64 a), (10, .sl d 0 j j), (11, .int .i64 i)] σ = exI TT (FI.of Try.f114 (TT.an 114)) K114_1 [(1, .int .i64 n), (5, .sl b 0 m m), (6, .int .i64 a), (10, .sl d2 0 j2 j2), (11, .int .i64 ((i : Int) + 1))] σ2 := by
  rw [fi114]
  conv => lhs; rw [xl114_1]
  simp only [B114_1, b114, Try.f114, Option.getD, fstC, sndC, bodyC, thnC, elsC]
  simp (maxSteps := 1000000) (disch := omega) [eK114_0_0, eK114_1_2, getCells, takeN, dropN, fieldAddrA, allOne, AV.one, n_push, putN, overN, blt_dec, buildA, sizesOf, fillA, putCells, List.take_succ_cons, List.take_zero, List.drop_succ_cons, List.drop_zero, List.nil_append, List.cons_append, List.length_cons, List.length_nil, eqvs_dgs, convA, hi, him, l1, c1, c2, c3, hw]
set_option maxHeartbeats 4000000 in
theorem u114 (b m d j : Nat) (n a : Int) (i : Nat) (σ : St) (hi : n = i) :
    exI TT (FI.of Try.f114 (TT.an 114)) K114_1 [(1, .int .i64 n), (5, .sl b 0 m m), (6, .int .i64 a), (10, .sl d 0 j j), (11, .int .i64 i)] σ = some (.sl d 0 j j, σ) := by
  rw [fi114]
  conv => lhs; rw [xl114_1]
  simp only [B114_1, b114, Try.f114, Option.getD, fstC, sndC, bodyC, thnC, elsC]
  simp (maxSteps := 1000000) (disch := omega) [eK114_0_0, eK114_1_2, getCells, takeN, dropN, fieldAddrA, allOne, AV.one, n_push, putN, overN, blt_dec, buildA, sizesOf, fillA, putCells, List.take_succ_cons, List.take_zero, List.drop_succ_cons, List.drop_zero, List.nil_append, List.cons_append, List.length_cons, List.length_nil, eqvs_dgs, convA, hi]
  simp only [R114_1_2, b114, Try.f114, Option.getD, fstC, sndC, bodyC, thnC, elsC]
  simp (maxSteps := 1000000) (disch := omega) [eK114_0_0, eK114_1_2, getCells, takeN, dropN, fieldAddrA, allOne, AV.one, n_push, putN, overN, blt_dec, buildA, sizesOf, fillA, putCells, List.take_succ_cons, List.take_zero, List.drop_succ_cons, List.drop_zero, List.nil_append, List.cons_append, List.length_cons, List.length_nil, eqvs_dgs, convA, hi]
set_option maxHeartbeats 4000000 in
theorem b114e (s z : Nat) (n : Int) (σ σ1 σ2 : St) (c1 : buildSliceA TT σ 48 0 [] = some (.sl σ.n 0 0 0, σ1)) (c2 : callI TT 113 [.ptr s 0, .int .i64 4] σ1 = some (.int .i64 z, σ2)) (hz : wrapA .i64 (1 + (z : Int)) = 1 + (z : Int)) :
    exI TT (FI.of Try.f114 (TT.an 114)) [.code b114] (paramsE 0 [.ptr s 0, .int .i64 n]) σ = exI TT (FI.of Try.f114 (TT.an 114)) K114_0 [(0, .ptr s 0), (1, .int .i64 n), (5, .sl σ.n 0 0 0), (6, .int .i64 0), (7, .int .i64 (1 + (z : Int))), (8, .int .i64 0)] σ2 := by
  rw [fi114]
  simp only [b114, Try.f114, Option.getD, fstC, sndC, bodyC, thnC, elsC]
  simp (maxSteps := 1000000) (disch := omega) [eK114_0_0, eK114_1_2, getCells, takeN, dropN, fieldAddrA, allOne, AV.one, n_push, putN, overN, blt_dec, buildA, sizesOf, fillA, putCells, List.take_succ_cons, List.take_zero, List.drop_succ_cons, List.drop_zero, List.nil_append, List.cons_append, List.length_cons, List.length_nil, eqvs_dgs, convA, c1, c2, hz]
  rfl
/-- The weights of drawn chances as numbers. -/
def wints (ws : List Nat) : List Int := ws.map fun (x : Nat) => (x : Int)
/-- Drawn chances. -/
def chsL (ws : List Nat) : List (Int × Int) := ws.map fun (x : Nat) => ((mkRat x ws.sum).num, ((mkRat x ws.sum).den : Int))
def chsT (T : Nat) (ws : List Nat) : List (Int × Int) := ws.map fun (x : Nat) => ((mkRat x T).num, ((mkRat x T).den : Int))
def W4 (ws : List Nat) : Prop := ∀ x ∈ ws, x ≤ 4
theorem W4.sum : ∀ {ws : List Nat}, W4 ws → ws.sum ≤ 4 * ws.length
  | [], _ => by simp
  | x :: r, h => by
    have h1 := h x (by simp)
    have h2 := W4.sum (ws := r) fun y hy => h y (by simp [hy])
    simp only [List.sum_cons, List.length_cons]; omega
theorem l114A (l : List Nat) (hl : ∀ x ∈ l, x < 256) (hll : l.length ≤ 2000000) (s n z : Nat) (hz : z ≤ 100) (hn : n ≤ 16) : ∀ (m i : Nat) (ws : List Nat) (b k mm : Nat) (σ : St), i + m = n → ws.length = i → W4 ws → Row σ b (wints ws) → b ≠ s → SRC σ s l k mm → k + 4 * m ≤ 900000 →
    ∃ ws' b' k' mm' σ', exI TT (FI.of Try.f114 (TT.an 114)) K114_0 [(0, .ptr s 0), (1, .int .i64 n), (5, .sl b 0 i i), (6, .int .i64 ws.sum), (7, .int .i64 z), (8, .int .i64 i)] σ = exI TT (FI.of Try.f114 (TT.an 114)) K114_0 [(0, .ptr s 0), (1, .int .i64 n), (5, .sl b' 0 n n), (6, .int .i64 ws'.sum), (7, .int .i64 z), (8, .int .i64 n)] σ' ∧ ws'.length = n ∧ W4 ws' ∧ Row σ' b' (wints ws') ∧ b' ≠ s ∧ SRC σ' s l k' mm' ∧ k' ≤ k + 4 * m ∧ σ.n ≤ σ'.n ∧ (b = b' ∨ σ.n ≤ b') ∧ ∀ c, c ≠ s → c ≠ b → c < σ.n → σ'.get c = σ.get c := by
  intro m
  induction m with
  | zero =>
    intro i ws b k mm σ hi hw h4 hr hbs hs hk
    obtain rfl : i = n := by omega
    exact ⟨ws, b, k, mm, σ, rfl, hw, h4, hr, hbs, hs, by omega, Nat.le_refl _, .inl rfl, fun _ _ _ _ => rfl⟩
  | succ m ih =>
    intro i ws b k mm σ hi hw h4 hr hbs hs hk
    obtain ⟨x, k1, m1, σ1, c1, hx, s1, hk1, n1, o1⟩ := c113 l hl hll k mm (by omega) 5 (by decide) σ s hs
    obtain ⟨y, k2, m2, σ2, c2, s2, hk2, n2, o2⟩ := c166 l hl hll k1 m1 (by omega) z (by omega) σ1 s s1
    have hr2 : Row σ2 b (wints ws) := (hr.keep (Nat.le_of_eq n1.symm) (o1 b hbs)).keep (Nat.le_of_eq n2.symm) (o2 b hbs)
    have hi1 : ((i + 1 : Nat) : Int) = (i : Int) + 1 := by omega
    have hw1 : wrapA .i64 ((i : Int) + 1) = (i : Int) + 1 := wrapA_id (by omega) (by omega)
    have hsum := h4.sum
    have step : ∀ v : Nat, v ≤ 4 → ∃ σ4, buildSliceA TT σ2 48 1 [(0, .int .i64 v)] = some (.sl σ2.n 0 1 1, σ2.push ⟨[.int .i64 v], 1, false⟩) ∧ appendA TT (σ2.push ⟨[.int .i64 v], 1, false⟩) 48 48 (.sl b 0 i i) (.sl σ2.n 0 1 1) = some (.sl (σ2.n + 1) 0 (i + 1) (i + 1), σ4) ∧ Row σ4 (σ2.n + 1) (wints (ws ++ [v])) ∧ σ4.n = σ2.n + 2 ∧ (∀ c, c ≠ b → c < σ2.n → σ4.get c = σ2.get c) := by
      intro v hv
      obtain ⟨σ4, a1, a2, a3, a4⟩ := append_row (T := TT) (st := 48) (x := (v : Int)) ty48 ty2 hr2 (n := i) (by simp [wints, hw]) (by omega)
      refine ⟨σ4, build_one ty48 ty2, a1, ?_, a3, a4⟩
      have : wints (ws ++ [v]) = wints ws ++ [(v : Int)] := by simp [wints]
      rw [this]; exact a2
    have fin : ∀ (v : Nat), v ≤ 4 → ∀ σ4, Row σ4 (σ2.n + 1) (wints (ws ++ [v])) → σ4.n = σ2.n + 2 → (∀ c, c ≠ b → c < σ2.n → σ4.get c = σ2.get c) → exI TT (FI.of Try.f114 (TT.an 114)) K114_0 [(0, .ptr s 0), (1, .int .i64 n), (5, .sl b 0 i i), (6, .int .i64 ws.sum), (7, .int .i64 z), (8, .int .i64 i)] σ = exI TT (FI.of Try.f114 (TT.an 114)) K114_0 [(0, .ptr s 0), (1, .int .i64 n), (5, .sl (σ2.n + 1) 0 (i + 1) (i + 1)), (6, .int .i64 (ws ++ [v]).sum), (7, .int .i64 z), (8, .int .i64 ((i : Int) + 1))] σ4 →
        ∃ ws' b' k' mm' σ', exI TT (FI.of Try.f114 (TT.an 114)) K114_0 [(0, .ptr s 0), (1, .int .i64 n), (5, .sl b 0 i i), (6, .int .i64 ws.sum), (7, .int .i64 z), (8, .int .i64 i)] σ = exI TT (FI.of Try.f114 (TT.an 114)) K114_0 [(0, .ptr s 0), (1, .int .i64 n), (5, .sl b' 0 n n), (6, .int .i64 ws'.sum), (7, .int .i64 z), (8, .int .i64 n)] σ' ∧ ws'.length = n ∧ W4 ws' ∧ Row σ' b' (wints ws') ∧ b' ≠ s ∧ SRC σ' s l k' mm' ∧ k' ≤ k + 4 * (m + 1) ∧ σ.n ≤ σ'.n ∧ (b = b' ∨ σ.n ≤ b') ∧ ∀ c, c ≠ s → c ≠ b → c < σ.n → σ'.get c = σ.get c := by
      intro v hv σ4 a2 a3 a4 he
      have hsl := s2.1
      have s4 : SRC σ4 s l k2 m2 := ⟨by omega, by rw [a4 s (fun e => hbs e.symm) hsl]; exact s2.2.1, s2.2.2⟩
      obtain ⟨ws', b', k', mm', σ', e1, e2, e3, e4, e5, e6, e7, e8, e9, e10⟩ := ih (i + 1) (ws ++ [v]) (σ2.n + 1) k2 m2 σ4 (by omega) (by simp [hw]) (fun x hx => by
        rcases List.mem_append.1 hx with hx | hx
        · exact h4 x hx
        · rw [List.mem_singleton.1 hx]; exact hv) a2 (by omega) s4 (by omega)
      rw [hi1] at e1
      refine ⟨ws', b', k', mm', σ', he.trans e1, e2, e3, e4, e5, e6, by omega, by omega, .inr ?_, fun c hc hcb hcn => ?_⟩
      · rcases e9 with e9 | e9 <;> omega
      · rw [e10 c hc (by omega) (by omega), a4 c hcb (by omega), o2 c hc, o1 c hc]
    cases y with
    | true =>
      obtain ⟨σ4, b1, b2, b3, b4, b5⟩ := step 0 (by decide)
      refine fin 0 (by decide) σ4 b3 b4 b5 ?_
      exact s114y s b i (σ2.n + 1) (i + 1) n _ _ z x i σ σ1 σ2 _ σ4 (by omega) c1 c2 b1 b2 (by rw [List.sum_append]; simp only [List.sum_cons, List.sum_nil, Nat.add_zero]; exact wrapA_id (by omega) (by omega)) hw1
    | false =>
      have hx4 : x ≤ 4 := by omega
      obtain ⟨σ4, b1, b2, b3, b4, b5⟩ := step x hx4
      refine fin x hx4 σ4 b3 b4 b5 ?_
      exact s114k s b i (σ2.n + 1) (i + 1) n _ _ z x i σ σ1 σ2 _ σ4 (by omega) c1 c2 b1 b2 (by rw [List.sum_append]; simp only [List.sum_cons, List.sum_nil, Nat.add_zero, Int.natCast_add]; exact wrapA_id (by omega) (by omega)) hw1
theorem l114B (n T : Nat) (hn : n ≤ 16) (hT : 1 ≤ T) (hT2 : T ≤ 100) (ws : List Nat) (hw : ws.length = n) (h4 : W4 ws) (b : Nat) : ∀ (m i d : Nat) (σ : St), i + m = n → Row σ b (wints ws) → RowE σ d 2 (flat FC (chsT T (ws.take i))) → d ≠ b →
    ∃ d' σ', exI TT (FI.of Try.f114 (TT.an 114)) K114_1 [(1, .int .i64 n), (5, .sl b 0 n n), (6, .int .i64 T), (10, .sl d 0 i i), (11, .int .i64 i)] σ = some (.sl d' 0 n n, σ') ∧ RowE σ' d' 2 (flat FC (chsT T ws)) ∧ σ.n ≤ σ'.n ∧ (d = d' ∨ σ.n ≤ d') ∧ ∀ c, c ≠ d → c < σ.n → σ'.get c = σ.get c := by
  intro m
  induction m with
  | zero =>
    intro i d σ hi hr hd hdb
    obtain rfl : i = n := by omega
    rw [← hw, List.take_of_length_le (Nat.le_refl _)] at hd
    exact ⟨d, σ, u114 b i d i i T i σ rfl, hd, Nat.le_refl _, .inl rfl, fun _ _ _ => rfl⟩
  | succ m ih =>
    intro i d σ hi hr hd hdb
    have hil : i < ws.length := by omega
    have hi1 : ((i + 1 : Nat) : Int) = (i : Int) + 1 := by omega
    have hx := h4 _ (List.getElem_mem hil)
    have l1 : cellsAt σ (.ptr b i) 1 = some [.int .i64 (ws[i] : Nat)] := hr.read (by simp [wints, hil])
    have c1 := v100 (ws[i] : Nat) T (by omega) (by omega) hT (by omega) σ [.int .i64 (ws[i] : Nat), .int .i64 T] rfl
    have c2 := build_el (T := TT) (σ := σ) (st := 25) (w := [.int .i64 (mkRat (ws[i] : Nat) T).num, .int .i64 (mkRat (ws[i] : Nat) T).den]) ty25 ty41 (by decide) rfl rfl rfl
    obtain ⟨σ2, a1, a2, a3⟩ := append_el (T := TT) (st := 25) (n := i) (w := [.int .i64 (mkRat (ws[i] : Nat) T).num, .int .i64 (mkRat (ws[i] : Nat) T).den]) ty25 ty41 (fun _ _ => trivial) (by decide) rfl rfl (by rw [flat_len FC_len]; simp [chsT]; omega) hd (by omega)
    have e : flat FC (chsT T (ws.take i)) ++ [.int .i64 (mkRat (ws[i] : Nat) T).num, .int .i64 (mkRat (ws[i] : Nat) T).den] = flat FC (chsT T (ws.take (i + 1))) := by
      rw [List.take_succ_eq_append_getElem hil, chsT, chsT, List.map_append, flat_app]; simp [flat, FC]
    rw [e] at a2
    have hbl := hr.lt
    have hlt2 := a2.lt
    have hr2 : Row σ2 b (wints ws) := hr.keep (by omega) (a3 b (fun h => hdb h.symm) hbl)
    obtain ⟨d', σ', k1, k2, k3, k4, k5⟩ := ih (i + 1) (σ.n + 1) σ2 (by omega) hr2 a2 (by omega)
    rw [hi1] at k1
    refine ⟨d', σ', ?_, k2, by omega, .inr (by rcases k4 with h | h <;> omega), fun c hc hcn => by rw [k5 c (by omega) (by omega), a3 c hc hcn]⟩
    rw [← k1]
    exact t114 b n d i (σ.n + 1) (i + 1) n T _ _ _ i σ _ σ2 (by omega) (by omega) l1 c1 c2 a1 (wrapA_id (by omega) (by omega))
theorem c114 (l : List Nat) (hl : ∀ x ∈ l, x < 256) (hll : l.length ≤ 2000000) (k mm n : Nat) (hk : k ≤ 800000) (hn1 : 1 ≤ n) (hn : n ≤ 16) (σ : St) (s : Nat) (h : SRC σ s l k mm) :
    ∃ ws d k' mm' σ', callI TT 114 [.ptr s 0, .int .i64 n] σ = some (.sl d 0 n n, σ') ∧ ws.length = n ∧ W4 ws ∧ 1 ≤ ws.sum ∧ RowE σ' d 2 (flat FC (chsL ws)) ∧ SRC σ' s l k' mm' ∧ k' ≤ k + 100 ∧ σ.n ≤ σ'.n ∧ σ.n ≤ d ∧ ∀ c, c ≠ s → c < σ.n → σ'.get c = σ.get c := by
  have hb := build_nil (T := TT) (σ := σ) (st := 48) ty48 ty2
  have hsl := h.1
  have h1 : SRC (σ.push ⟨ints [], 1, false⟩) s l k mm := ⟨by show s < σ.n + 1; omega, by rw [get_push_lt hsl]; exact h.2.1, h.2.2⟩
  obtain ⟨z, k1, m1, σ2, c1, hz, s2, hk1, n2, o2⟩ := c113 l hl hll k mm (by omega) 4 (by decide) _ s h1
  have hn2 : σ2.n = σ.n + 1 := n2
  have hr0 : Row σ2 σ.n (wints []) := by
    have : Row (σ.push ⟨ints [], 1, false⟩) σ.n [] := Row.push
    exact this.keep (Nat.le_of_eq n2.symm) (o2 σ.n (by omega))
  obtain ⟨ws, b, k2, m2, σ3, e1, e2, e3, e4, e5, e6, e7, e8, e9, e10⟩ := l114A l hl hll s n (1 + z) (by omega) hn n 0 [] σ.n k1 m1 σ2 (by omega) rfl (by intro x hx; cases hx) hr0 (by omega) s2 (by omega)
  have hbeg := b114e s z n σ _ σ2 hb c1 (wrapA_id (by omega) (by omega))
  have hcast : (1 + (z : Int)) = ((1 + z : Nat) : Int) := by omega
  rw [hcast] at hbeg
  have hbn : σ.n ≤ b := by rcases e9 with h | h <;> omega
  have hbl := e4.lt
  rw [cI_0 (c := b114) fn114 rfl md114]
  by_cases hz0 : ws.sum = 0
  · obtain ⟨r, k3, m3, σ4, c4, hr, s4, hk3, n4, o4⟩ := c113 l hl hll k2 m2 (by omega) n (by omega) σ3 s e6
    have hr4 : Row σ4 b (wints ws) := e4.keep (Nat.le_of_eq n4.symm) (o4 b e5)
    have hrn : r < n := by omega
    obtain ⟨σ5, t1, t2, t3, t4⟩ := store_row (i := r) (x := (1 : Int)) hr4 (by simp [wints, e2]; exact hrn)
    have hws : ∀ x ∈ ws, x = 0 := fun x hx => by
      have : ∀ (l : List Nat), l.sum = 0 → ∀ x ∈ l, x = 0 := by
        intro l
        induction l with
        | nil => intro _ x hx; cases hx
        | cons y r ih =>
          intro h x hx
          simp only [List.sum_cons] at h
          rcases List.mem_cons.1 hx with rfl | hx
          · omega
          · exact ih (by omega) x hx
      exact this ws hz0 x hx
    have hset : (wints ws).set r 1 = wints (ws.set r 1) := by simp [wints, List.map_set]
    rw [hset] at t2
    have h4' : W4 (ws.set r 1) := fun x hx => by
      rcases List.mem_or_eq_of_mem_set hx with hx | hx
      · exact e3 x hx
      · omega
    have hsum : (ws.set r 1).sum = 1 := by
      have : ∀ (l : List Nat) (r : Nat), r < l.length → (∀ x ∈ l, x = 0) → (l.set r 1).sum = 1 := by
        intro l
        induction l with
        | nil => intro r h; simp at h
        | cons y t ih =>
          intro r h hz
          have hs0 : ∀ (l : List Nat), (∀ x ∈ l, x = 0) → l.sum = 0 := by
            intro l
            induction l with
            | nil => intro _; rfl
            | cons y r ih => intro h; rw [List.sum_cons, h y (by simp), ih fun x hx => h x (by simp [hx])]
          cases r with
          | zero => simp only [List.set_cons_zero, List.sum_cons]; rw [hs0 t fun x hx => hz x (by simp [hx])]
          | succ r => simp only [List.set_cons_succ, List.sum_cons]; rw [hz y (by simp), ih r (by simpa using h) fun x hx => hz x (by simp [hx])]
      exact this ws r (by omega) hws
    have hσ5 := t3
    have c5 := build_e0 (T := TT) (σ := σ5) (st := 25) ty25 ty41
    obtain ⟨d, σ', g1, g2, g3, g4, g5⟩ := l114B n 1 hn (by decide) (by decide) (ws.set r 1) (by simp [e2]) h4' b n 0 σ5.n (σ5.push ⟨[], 2, false⟩) (by omega) (t2.keep (Nat.le_succ _) (get_push_lt (by omega))) (RowE.push (σ := σ5) (cs := []) (e := 2) (o := false)) (by omega)
    rw [hz0] at e1
    refine ⟨ws.set r 1, d, k3, m3, σ', ?_, by simp [e2], h4', by omega, ?_, ?_, by omega, ?_, ?_, ?_⟩
    · refine hbeg.trans ?_
      refine Eq.trans e1 ?_
      refine Eq.trans ?_ g1
      exact e114z s b n r n _ n σ3 σ4 σ5 _ rfl c4 hrn t1 c5
    · rw [chsL, hsum]; exact g2
    · have hs5 : σ5.get s = σ4.get s := t4 s (fun e => e5 e.symm)
      have hsl4 := s4.1
      exact ⟨by have := g3; simp only [n_push] at this; omega, by rw [g5 s (by omega) (by simp only [n_push]; omega), get_push_lt (by omega), hs5]; exact s4.2.1, s4.2.2⟩
    · have := g3; simp only [n_push] at this; omega
    · rcases g4 with g4 | g4
      · omega
      · simp only [n_push] at g4; omega
    · intro c hc hcn
      rw [g5 c (by omega) (by simp only [n_push]; omega), get_push_lt (by omega), t4 c (by omega), o4 c hc, e10 c hc (by omega) (by omega), o2 c hc, get_push_lt hcn]
  · have c5 := build_e0 (T := TT) (σ := σ3) (st := 25) ty25 ty41
    have hs4 := e3.sum
    obtain ⟨d, σ', g1, g2, g3, g4, g5⟩ := l114B n ws.sum hn (by omega) (by omega) ws e2 e3 b n 0 σ3.n (σ3.push ⟨[], 2, false⟩) (by omega) (e4.keep (Nat.le_succ _) (get_push_lt (by omega))) (RowE.push (σ := σ3) (cs := []) (e := 2) (o := false)) (by omega)
    refine ⟨ws, d, k2, m2, σ', ?_, e2, e3, by omega, g2, ?_, by omega, ?_, ?_, ?_⟩
    · refine hbeg.trans ?_
      refine Eq.trans e1 ?_
      refine Eq.trans ?_ g1
      exact e114p s b n n _ _ n σ3 _ rfl (by omega) c5
    · have hsl6 := e6.1
      exact ⟨by have := g3; simp only [n_push] at this; omega, by rw [g5 s (by omega) (by simp only [n_push]; omega), get_push_lt (by omega)]; exact e6.2.1, e6.2.2⟩
    · have := g3; simp only [n_push] at this; omega
    · rcases g4 with g4 | g4
      · omega
      · simp only [n_push] at g4; omega
    · intro c hc hcn
      rw [g5 c (by omega) (by simp only [n_push]; omega), get_push_lt (by omega), e10 c hc (by omega) (by omega), o2 c hc, get_push_lt hcn]

set_option maxHeartbeats 4000000 in
theorem k48 (n m d : Nat) (N : Int) (c : List AV) (σ1 σ2 : St) (c1 : callI TT 112 [.lst n c] ⟨[], 0⟩ = some (.ptr 0 0, σ1)) (c2 : callI TT 114 [.ptr 0 0, .int .i64 N] σ1 = some (.sl d 0 m m, σ2)) :
    exI TT (FI.of Try.f48 (TT.an 48)) [.code (Try.f48.body.getD .skip)] (paramsE 0 [.lst n c, .int .i64 N]) ⟨[], 0⟩ = some (.sl d 0 m m, σ2) := by
  rw [fi48]
  simp only [Try.f48, Option.getD]
  simp (maxSteps := 1000000) (disch := omega) [getCells, takeN, dropN, fieldAddrA, allOne, AV.one, n_push, putN, overN, blt_dec, buildA, sizesOf, fillA, putCells, List.take_succ_cons, List.take_zero, List.drop_succ_cons, List.drop_zero, List.nil_append, List.cons_append, List.length_cons, List.length_nil, eqvs_dgs, convA, c1, c2]
theorem chsL_len (ws : List Nat) : (chsL ws).length = ws.length := by simp [chsL]
theorem FC_frz' (σ : St) (d : Nat) (l : List (Int × Int)) : mapO (frzV σ (d + 1)) (flat FC l) = some (flat FC l) := flat_frz (fun x => FC_frz σ d x) l
/-- Weights of drawn chances. -/
def Wts (n : Nat) (ws : List Nat) : Prop := ws.length = n ∧ W4 ws ∧ 1 ≤ ws.sum
theorem r48 (l : List Nat) (hl : ∀ x ∈ l, x < 256) (hll : l.length ≤ 2000000) (n : Nat) (h1 : 1 ≤ n) (h2 : n ≤ 16) : ∃ ws, Wts n ws ∧ FnF TT 48 [.lst l.length (byts l), .int .i64 n] (FS (chsL ws)) := by
  obtain ⟨σ1, c1, s1, n1, o1⟩ := c112 l ⟨[], 0⟩
  obtain ⟨ws, d, k', m', σ2, c2, e1, e2, e3, e4, e5, e6, e7, e8, e9⟩ := c114 l hl hll 0 0 n (by decide) h1 h2 σ1 0 s1
  refine ⟨ws, ⟨e1, e2, e3⟩, FnF.mk fn48 rfl md48 ⟨σ2, _, k48 _ _ _ _ _ σ1 σ2 c1 c2, ?_⟩⟩
  have := e4.frz (d := 4) (n := n) (c := n) (by rw [flat_len FC_len, chsL_len, e1]) (FC_frz' σ2 4 _) (Nat.le_refl _)
  rw [show FS (chsL ws) = .lst n (flat FC (chsL ws)) by rw [FS, chsL_len, e1]]
  exact this
theorem append_nil_el {T : Tab} {σ : St} {w : List AV} {st e : TypeId} {k : TK} {es y : Nat} {z : List AV} (ht : T.ty st = some ⟨.slice e, 1, 24, [.nilS]⟩) (he : T.ty e = some ⟨k, es, y, z⟩) (hy : 0 < y ∧ y ≤ 100) (hw : w.length = es) (h1 : allOne w = true) :
    appendA T (σ.push ⟨w, es, false⟩) st st .nilS (.sl σ.n 0 1 1) = some (.sl (σ.n + 1) 0 1 1, (σ.push ⟨w, es, false⟩).push ⟨w, es, true⟩) := by
  have hf : firstA (σ.push ⟨w, es, false⟩) es 1 (.sl σ.n 0 1 1) = some w := by
    simp only [firstA, get_push_same]
    rw [getCells_eq, if_pos (by omega), List.drop_zero, List.take_of_length_le (by omega)]
  unfold appendA
  simp only [ht, he, lenA, hf, h1]
  rw [if_neg (by simp), if_neg (by omega), if_pos ⟨by omega, by omega, hy.1⟩]
  rfl

noncomputable def b47 : Code := Try.f47.body.getD .skip
noncomputable def B47_0 : Code := (bodyC (bodyC (sndC (fstC (sndC (sndC (sndC (sndC b47))))))))
noncomputable def K47_0 : List It := .lp B47_0 :: .blk 0 :: .code (sndC (sndC (sndC (sndC (sndC b47))))) :: []
theorem xl47_0 {fi : FI} {env : Env} {σ : St} : exI TT fi K47_0 env σ = exI TT fi (.code B47_0 :: K47_0) env σ := by unfold K47_0; exact xI_lp
noncomputable def R47_0_0 : List It := .code (sndC (sndC (sndC (sndC (sndC b47))))) :: []
theorem eK47_0_0 : exitA 0 K47_0 = some R47_0_0 := rfl
set_option maxHeartbeats 4000000 in
theorem s47 (n : Int) (i d m b2 m2 : Nat) (v : AV) (σ σ1 σ2 σ3 σ4 : St) (hi : (i : Int) < n) (l1 : cellsAt σ (.ptr 2 0) 1 = some [v]) (hv : AV.eqv v v = true) (l1b : cellsAt σ1 (.ptr 2 0) 1 = some [v]) (l1c : cellsAt σ2 (.ptr 2 0) 1 = some [v]) (c1 : callI TT 114 [.ptr 1 0, .int .i64 n] σ = some (.sl d 0 m m, σ1)) (c2 : buildSliceA TT σ1 34 1 [(0, .sl d 0 m m)] = some (.sl σ1.n 0 1 1, σ2)) (c3 : appendA TT σ2 34 34 v (.sl σ1.n 0 1 1) = some (.sl b2 0 m2 m2, σ3)) (s1 : storeCellsA σ3 2 0 [.sl b2 0 m2 m2] = some σ4) (hw : wrapA .i64 ((i : Int) + 1) = (i : Int) + 1) :
    exI TT (FI.of Try.f47 (TT.an 47)) K47_0 [(2, .ptr 0 0), (3, .ptr 1 0), (4, .int .i64 n), (5, .ptr 2 0), (6, .int .i64 i)] σ = exI TT (FI.of Try.f47 (TT.an 47)) K47_0 [(2, .ptr 0 0), (3, .ptr 1 0), (4, .int .i64 n), (5, .ptr 2 0), (6, .int .i64 ((i : Int) + 1))] σ4 := by
  rw [fi47]
  conv => lhs; rw [xl47_0]
  simp only [B47_0, b47, Try.f47, Option.getD, fstC, sndC, bodyC, thnC, elsC]
  simp (maxSteps := 1000000) (disch := omega) [-AV.eqv, eK47_0_0, getCells, takeN, dropN, fieldAddrA, allOne, AV.one, n_push, putN, overN, blt_dec, buildA, sizesOf, fillA, putCells, List.take_succ_cons, List.take_zero, List.drop_succ_cons, List.drop_zero, List.nil_append, List.cons_append, List.length_cons, List.length_nil, eqvs_dgs, convA, hi, l1, hv, l1b, l1c, c1, c2, c3, s1, hw]
set_option maxHeartbeats 4000000 in
theorem e47 (n : Int) (i : Nat) (v : AV) (σ σ1 : St) (hi : n = i) (l1 : cellsAt σ (.ptr 2 0) 1 = some [v]) (hv : AV.cellsOf v = [v]) (s1 : storeCellsA σ 0 0 [v] = some σ1) (l2 : cellsAt σ1 (.ptr 0 0) 1 = some [v]) :
    exI TT (FI.of Try.f47 (TT.an 47)) K47_0 [(2, .ptr 0 0), (3, .ptr 1 0), (4, .int .i64 n), (5, .ptr 2 0), (6, .int .i64 i)] σ = some (.agg [v], σ1) := by
  rw [fi47]
  conv => lhs; rw [xl47_0]
  simp only [B47_0, b47, Try.f47, Option.getD, fstC, sndC, bodyC, thnC, elsC]
  simp (maxSteps := 1000000) (disch := omega) [eK47_0_0, getCells, takeN, dropN, fieldAddrA, allOne, AV.one, n_push, putN, overN, blt_dec, buildA, sizesOf, fillA, putCells, List.take_succ_cons, List.take_zero, List.drop_succ_cons, List.drop_zero, List.nil_append, List.cons_append, List.length_cons, List.length_nil, eqvs_dgs, convA, hi, l1, hv, s1, l2]
  simp only [R47_0_0, b47, Try.f47, Option.getD, fstC, sndC, bodyC, thnC, elsC]
  simp (maxSteps := 1000000) (disch := omega) [eK47_0_0, getCells, takeN, dropN, fieldAddrA, allOne, AV.one, n_push, putN, overN, blt_dec, buildA, sizesOf, fillA, putCells, List.take_succ_cons, List.take_zero, List.drop_succ_cons, List.drop_zero, List.nil_append, List.cons_append, List.length_cons, List.length_nil, eqvs_dgs, convA, hi, l1, hv, s1, l2]
set_option maxHeartbeats 4000000 in
theorem b47e (n r : Nat) (N : Int) (c : List AV) (σ0 σ1 σ2 σ3 : St) (h0 : (⟨[], 0⟩ : St).push ⟨[.nilS], 1, false⟩ = σ0) (c1 : callI TT 112 [.lst n c] σ0 = some (.ptr 1 0, σ1)) (c2 : callI TT 113 [.ptr 1 0, .int .i64 4] σ1 = some (.int .i64 r, σ2)) (hN : wrapA .i64 (1 + (r : Int)) = N) (hn : σ2.n = 2) (h3 : σ2.push ⟨[.nilS], 1, false⟩ = σ3) (s3 : storeCellsA σ3 2 0 [.nilS] = some σ3) :
    exI TT (FI.of Try.f47 (TT.an 47)) [.code b47] (paramsE 0 [.lst n c]) ⟨[], 0⟩ = exI TT (FI.of Try.f47 (TT.an 47)) K47_0 [(2, .ptr 0 0), (3, .ptr 1 0), (4, .int .i64 N), (5, .ptr 2 0), (6, .int .i64 0)] σ3 := by
  rw [fi47]
  simp only [b47, Try.f47, Option.getD, fstC, sndC, bodyC, thnC, elsC]
  simp (maxSteps := 1000000) (disch := omega) [eK47_0_0, getCells, takeN, dropN, fieldAddrA, allOne, AV.one, n_push, putN, overN, blt_dec, buildA, sizesOf, fillA, putCells, List.take_succ_cons, List.take_zero, List.drop_succ_cons, List.drop_zero, List.nil_append, List.cons_append, List.length_cons, List.length_nil, eqvs_dgs, convA, h0, c1, c2, hN, hn, h3, s3]
  rfl
def slv (n : Nat) (x : Nat × List Nat) : AV := .sl x.1 0 n n
/-- What a drawn walk is in the heap: no rows at first, then a row of rows. -/
def WkV (σ : St) (n : Nat) (L : List (Nat × List Nat)) (v : AV) : Prop :=
  (∀ x ∈ L, 3 ≤ x.1 ∧ Wts n x.2 ∧ RowE σ x.1 2 (flat FC (chsL x.2))) ∧ ((L = [] ∧ v = .nilS) ∨ ∃ b, v = .sl b 0 L.length L.length ∧ 3 ≤ b ∧ RowE σ b 1 (L.map (slv n)) ∧ ∀ x ∈ L, x.1 ≠ b)
theorem l47 (l : List Nat) (hl : ∀ x ∈ l, x < 256) (hll : l.length ≤ 2000000) (n : Nat) (h1 : 1 ≤ n) (h4 : n ≤ 4) : ∀ (m i k mm : Nat) (L : List (Nat × List Nat)) (v : AV) (σ : St), i + m = n → L.length = i → k + 100 * m ≤ 600 → SRC σ 1 l k mm → Bx σ 0 [.nilS] → Bx σ 2 [v] → WkV σ n L v →
    ∃ L' v' σ', exI TT (FI.of Try.f47 (TT.an 47)) K47_0 [(2, .ptr 0 0), (3, .ptr 1 0), (4, .int .i64 n), (5, .ptr 2 0), (6, .int .i64 i)] σ = some (.agg [v'], σ') ∧ L'.length = n ∧ WkV σ' n L' v' := by
  intro m
  induction m with
  | zero =>
    intro i k mm L v σ hi hL hk hs hb0 hb2 hw
    obtain rfl : i = n := by omega
    have hvc : AV.cellsOf v = [v] := by
      rcases hw.2 with ⟨_, rfl⟩ | ⟨b, rfl, _⟩ <;> rfl
    have hvo : allOne [v] = true := by
      rcases hw.2 with ⟨_, rfl⟩ | ⟨b, rfl, _⟩ <;> rfl
    obtain ⟨σ1, a1, a2, a3⟩ := hb0.st (ws := [v]) rfl hvo
    refine ⟨L, v, σ1, e47 i i v σ σ1 rfl (hb2.rd rfl) hvc a1 (a2.rd rfl), hL, fun x hx => ?_, ?_⟩
    · obtain ⟨x1, x2, x3⟩ := hw.1 x hx
      exact ⟨x1, x2, x3.but (by omega) a3⟩
    · rcases hw.2 with h | ⟨b, e1, e2, e3, e4⟩
      · exact .inl h
      · exact .inr ⟨b, e1, e2, e3.but (by omega) a3, e4⟩
  | succ m ih =>
    intro i k mm L v σ hi hL hk hs hb0 hb2 hw
    have hi1 : ((i + 1 : Nat) : Int) = (i : Int) + 1 := by omega
    have hwr : wrapA .i64 ((i : Int) + 1) = (i : Int) + 1 := wrapA_id (by omega) (by omega)
    obtain ⟨ws, d, k', m', σ1, c1, e1, e2, e3, e4, e5, e6, e7, e8, e9⟩ := c114 l hl hll k mm n (by omega) h1 (by omega) σ 1 hs
    have p0 := hb0.lt
    have p2 := hb2.lt
    have c2 := build_v (T := TT) (σ := σ1) (st := 34) (v := .sl d 0 n n) ty34 ty25 rfl rfl rfl
    have hdl := e4.lt
    have hsl := hs.1
    have hb21 : Bx σ1 2 [v] := by
      obtain ⟨⟨mm, hg⟩, hlt⟩ := hb2
      exact ⟨⟨mm, by rw [e9 2 (by decide) hlt]; exact hg⟩, by omega⟩
    have hev : AV.eqv v v = true := by
      rcases hw.2 with ⟨_, rfl⟩ | ⟨b, rfl, _⟩ <;> simp [AV.eqv]
    -- the row behind the appending
    have app : ∃ σ3, appendA TT (σ1.push ⟨[.sl d 0 n n], 1, false⟩) 34 34 v (.sl σ1.n 0 1 1) = some (.sl (σ1.n + 1) 0 (i + 1) (i + 1), σ3) ∧ RowE σ3 (σ1.n + 1) 1 ((L ++ [(d, ws)]).map (slv n)) ∧ ∃ b, (∀ c, c ≠ b → c < σ1.n → σ3.get c = σ1.get c) ∧ 3 ≤ b ∧ (∀ x ∈ L, x.1 ≠ b) ∧ (b < σ.n ∨ σ1.n ≤ b) := by
      rcases hw.2 with ⟨rfl, rfl⟩ | ⟨b, rfl, b3, hrow, hne⟩
      · have hi0 : i = 0 := by simpa using hL.symm
        subst hi0
        refine ⟨_, append_nil_el (T := TT) (st := 34) ty34 ty25 (by decide) rfl rfl, ⟨true, ?_, by simp only [n_push]; omega⟩, σ1.n + 5, fun c _ hcn => ?_, by omega, (by intro x hx; cases hx), by omega⟩
        · exact get_push_same
        · rw [get_push_lt (by simp only [n_push]; omega), get_push_lt hcn]
      · have hbl := hrow.lt
        have hrow1 : RowE σ1 b 1 (L.map (slv n)) := by
          obtain ⟨o, hg, _⟩ := hrow
          exact ⟨o, by rw [e9 b (by omega) hbl]; exact hg, by omega⟩
        obtain ⟨σ3, d1, d2, d3⟩ := append_el (T := TT) (st := 34) (n := i) (w := [.sl d 0 n n]) ty34 ty25 (fun _ _ => trivial) (by decide) rfl rfl (by simp [hL]) hrow1 (by omega)
        rw [hL]
        refine ⟨σ3, d1, ?_, b, d3, b3, hne, .inl hbl⟩
        rw [List.map_append]; exact d2
    obtain ⟨σ3, c3, r3, b, o3, b3, hne, hbb⟩ := app
    have r3l := r3.lt
    have dne : d ≠ b := by rcases hbb with h | h <;> omega
    have keep : ∀ {c : Nat} {vs : List AV}, Bx σ c vs → c ≠ 1 → c < 3 → Bx σ3 c vs := fun {c vs} h hc h3 => by
      obtain ⟨⟨mm, hg⟩, hlt⟩ := h
      exact ⟨⟨mm, by rw [o3 c (by omega) (by omega), e9 c hc hlt]; exact hg⟩, by omega⟩
    obtain ⟨σ4, a1, a2, a3⟩ := (keep hb2 (by decide) (by decide)).st (ws := [.sl (σ1.n + 1) 0 (i + 1) (i + 1)]) rfl rfl
    have hs3 : SRC σ3 1 l k' m' := ⟨by omega, by rw [o3 1 (by omega) (by have := e5.1; omega)]; exact e5.2.1, e5.2.2⟩
    have hs4 : SRC σ4 1 l k' m' := ⟨by rw [a3.1]; exact hs3.1, by rw [a3.2 1 (by decide)]; exact hs3.2.1, hs3.2.2⟩
    obtain ⟨L', v', σ', k1, k2, k3⟩ := ih (i + 1) k' m' (L ++ [(d, ws)]) (.sl (σ1.n + 1) 0 (i + 1) (i + 1)) σ4 (by omega) (by simp [hL]) (by omega) hs4 ((keep hb0 (by decide) (by decide)).but (by decide) a3) a2 ⟨fun x hx => by
      rcases List.mem_append.1 hx with hx | hx
      · obtain ⟨x1, x2, x3⟩ := hw.1 x hx
        have xl := x3.lt
        obtain ⟨o, hg, _⟩ := x3
        refine ⟨x1, x2, ⟨o, ?_, by rw [a3.1]; omega⟩⟩
        rw [a3.2 x.1 (by omega), o3 x.1 (hne x hx) (by omega), e9 x.1 (by omega) xl]
        exact hg
      · rw [List.mem_singleton.1 hx]
        obtain ⟨o, hg, _⟩ := e4
        refine ⟨by show 3 ≤ d; omega, ⟨e1, e2, e3⟩, ⟨o, ?_, by rw [a3.1]; show d < σ3.n; omega⟩⟩
        rw [a3.2 d (by omega), o3 d dne hdl]
        exact hg, .inr ⟨σ1.n + 1, by simp [hL], by omega, r3.but (by omega) a3, fun x hx => by
      rcases List.mem_append.1 hx with hx | hx
      · have xl := (hw.1 x hx).2.2.lt
        omega
      · rw [List.mem_singleton.1 hx]; show d ≠ σ1.n + 1; omega⟩⟩
    rw [hi1] at k1
    refine ⟨L', v', σ', ?_, k2, k3⟩
    rw [← k1]
    exact s47 n i d n (σ1.n + 1) (i + 1) v σ σ1 _ σ3 σ4 (by omega) (hb2.rd rfl) hev (hb21.rd rfl) ((hb21.old Old.push).rd rfl) c1 c2 c3 a1 hwr
theorem mapO_map {α : Type} {σ : St} {d : Nat} {f h : α → AV} : ∀ (l : List α), (∀ x ∈ l, frzV σ d (f x) = some (h x)) → mapO (frzV σ d) (l.map f) = some (l.map h)
  | [], _ => rfl
  | x :: r, hx => mapO_cons (hx x (by simp)) (mapO_map r fun y hy => hx y (by simp [hy]))
theorem r47 (l : List Nat) (hl : ∀ x ∈ l, x < 256) (hll : l.length ≤ 2000000) : ∃ (n : Nat) (wss : List (List Nat)), 1 ≤ n ∧ n ≤ 4 ∧ wss.length = n ∧ (∀ ws ∈ wss, Wts n ws) ∧ FnF TT 47 [.lst l.length (byts l)] (.agg [FSS (wss.map chsL)]) := by
  have hx0 : Bx ((⟨[], 0⟩ : St).push ⟨[.nilS], 1, false⟩) 0 [.nilS] := Bx.push
  obtain ⟨σ1, c1, s1, n1, o1⟩ := c112 l ((⟨[], 0⟩ : St).push ⟨[.nilS], 1, false⟩)
  obtain ⟨r, k', m', σ2, c2, hr, s2, hk, n2, o2⟩ := c113 l hl hll 0 0 (by decide) 4 (by decide) σ1 1 s1
  have hn2 : σ2.n = 2 := by rw [n2, n1]; rfl
  have hN : wrapA .i64 (1 + (r : Int)) = ((1 + r : Nat) : Int) := by rw [wrapA_id (by omega) (by omega)]; omega
  have hx2 : Bx (σ2.push ⟨[.nilS], 1, false⟩) 2 [.nilS] := by have := Bx.push (σ := σ2) (vs := [.nilS]) (m := 1); rwa [hn2] at this
  have hs3 : storeCellsA (σ2.push ⟨[.nilS], 1, false⟩) 2 0 [.nilS] = some (σ2.push ⟨[.nilS], 1, false⟩) := by
    have e : σ2.push ⟨[.nilS], 1, false⟩ = ⟨(2, ⟨[.nilS], 1, false⟩) :: σ2.h, 3⟩ := by rw [St.push, hn2]
    rw [e]; rfl
  have hs : SRC (σ2.push ⟨[.nilS], 1, false⟩) 1 l k' m' := ⟨by show 1 < σ2.n + 1; omega, by rw [get_push_lt (by omega)]; exact s2.2.1, s2.2.2⟩
  have hb0 : Bx (σ2.push ⟨[.nilS], 1, false⟩) 0 [.nilS] := by
    have h0 := hx0.old o1
    obtain ⟨⟨mm, hg⟩, hlt⟩ := h0
    exact ⟨⟨mm, by rw [get_push_lt (by omega), o2 0 (by decide)]; exact hg⟩, by show 0 < σ2.n + 1; omega⟩
  obtain ⟨L, v, σ', k1, k2, k3⟩ := l47 l hl hll (1 + r) (by omega) (by omega) (1 + r) 0 k' m' [] .nilS _ (by omega) rfl (by omega) hs hb0 hx2 ⟨(by intro x hx; cases hx), .inl ⟨rfl, rfl⟩⟩
  refine ⟨1 + r, L.map (·.2), by omega, by omega, by simpa using k2, fun ws hws => ?_, FnF.mk (c := b47) fn47 rfl md47 ⟨σ', _, (b47e _ _ _ _ _ σ1 σ2 _ rfl c1 c2 hN hn2 rfl hs3).trans k1, ?_⟩⟩
  · obtain ⟨x, hx, rfl⟩ := List.mem_map.1 hws
    exact (k3.1 x hx).2.1
  · rcases k3.2 with ⟨rfl, _⟩ | ⟨b, rfl, _, hrow, _⟩
    · simp at k2; omega
    · obtain ⟨o, hg, _⟩ := hrow
      have hfr : mapO (frzV σ' 4) (L.map (slv (1 + r))) = some (L.map fun x => FS (chsL x.2)) := mapO_map L fun x hx => by
        obtain ⟨_, w, hr⟩ := k3.1 x hx
        have := hr.frz (d := 2) (n := 1 + r) (c := 1 + r) (by rw [flat_len FC_len, chsL_len, w.1]) (FC_frz' σ' 2 _) (Nat.le_refl _)
        rw [show FS (chsL x.2) = .lst (1 + r) (flat FC (chsL x.2)) by rw [FS, chsL_len, w.1]]
        exact this
      have hv : frzV σ' 5 (.sl b 0 L.length L.length) = some (FSS ((L.map (·.2)).map chsL)) := by
        have hc : getCells (L.map (slv (1 + r))) 0 (L.length * 1) = some (L.map (slv (1 + r))) := by rw [getCells_eq, if_pos (by simp), List.drop_zero, List.take_of_length_le (by simp)]
        have e : flat F1 ((L.map (·.2)).map chsL) = L.map fun x => FS (chsL x.2) := by
          have : ∀ M : List (List (Int × Int)), flat F1 M = M.map FS := fun M => by
            induction M with
            | nil => rfl
            | cons x t ih => simp only [flat, List.flatMap_cons, List.map_cons] at ih ⊢; rw [ih]; rfl
          rw [this, List.map_map, List.map_map]; rfl
        rw [FSS, e]
        unfold frzV
        simp only [hg, hc, hfr, Nat.le_refl, if_true, List.length_map]
      show frzV σ' 6 (.agg [.sl b 0 L.length L.length]) = _
      exact frzV_agg (mapO_cons hv rfl)

set_option maxHeartbeats 4000000 in
theorem k191 (a b : Int) (h l : Int) (c1 : ∀ σ, callI TT 188 [.int .u64 a, .int .u64 b] σ = some (.tup [.int .u64 h, .int .u64 l], σ)) :
    ∃ σ', exI TT (FI.of Try.f191 (TT.an 191)) [.code (Try.f191.body.getD .skip)] (paramsE 0 [.int .u64 a, .int .u64 b]) ⟨[], 0⟩ = some (.tup [.int .u64 h, .int .u64 l], σ') := by
  refine ex1 ?_
  rw [fi191]
  simp only [Try.f191, Option.getD]
  simp (maxSteps := 1000000) (disch := omega) [cellsAt, getCells, takeN, dropN, fieldAddrA, allOne, AV.one, n_push, storeCellsA, putN, overN, St.push, St.get, St.set, hget, hset, blt_dec, buildA, sizesOf, fillA, putCells, List.take_succ_cons, List.take_zero, List.drop_succ_cons, List.drop_zero, List.nil_append, List.cons_append, List.length_cons, List.length_nil, eqvs_dgs, convA, c1]
theorem r191 (a b : Nat) (ha : a < 144115188075855872) (hb : b < 64) : FnV TT 191 [.int .u64 a, .int .u64 b] (.tup [.int .u64 0, .int .u64 ((a * b : Nat) : Int)]) :=
  FnV.mk fn191 rfl md191 (k191 _ _ _ _ (fun σ => c188 a b ha hb σ)) (fun _ => rfl) rfl
theorem repeat_add (z : List AV) : ∀ a b : Nat, repeatCells z (a + b) = repeatCells z a ++ repeatCells z b
  | 0, b => by rw [Nat.zero_add]; rfl
  | a + 1, b => by rw [show a + 1 + b = (a + b) + 1 by omega, repeatCells, repeatCells, repeat_add z a b, List.append_assoc]
theorem repeat_len (z : List AV) : ∀ a : Nat, (repeatCells z a).length = a * z.length
  | 0 => by simp [repeatCells]
  | a + 1 => by rw [repeatCells, List.length_append, repeat_len z a, Nat.add_mul]; omega
def repQ (q : Rat) (n : Nat) : List Rat := List.replicate n q
/-- A row of ratios, filled up to a place. -/
def filled (q : Rat) (k m : Nat) : List AV := flat RC (repQ q k) ++ repeatCells [.bool false, .nilS, .nilS] m
theorem filled_len (q : Rat) (k m : Nat) : (filled q k m).length = (k + m) * 3 := by
  rw [filled, List.length_append, flat_len RC_len, repeat_len]; simp [repQ]; omega
theorem rep_app (q : Rat) (a b : Nat) : flat RC (repQ q (a + b)) = flat RC (repQ q a) ++ flat RC (repQ q b) := by
  rw [← flat_app, repQ, repQ, repQ, List.replicate_append_replicate]
theorem put_filled (q : Rat) (k c m : Nat) : putCells (filled q k (c + m)) (k * 3) (flat RC (repQ q c)) = filled q (k + c) m := by
  have hl : (flat RC (repQ q k)).length = k * 3 := by rw [flat_len RC_len]; simp [repQ]
  have := put_el (pre := flat RC (repQ q k)) (z := repeatCells [.bool false, .nilS, .nilS] c) (w := flat RC (repQ q c)) (suf := repeatCells [.bool false, .nilS, .nilS] m) (by rw [repeat_len, flat_len RC_len]; simp [repQ])
  rw [hl] at this
  rw [filled, repeat_add, this, filled, rep_app, List.append_assoc]
theorem rep_one (q : Rat) (n : Nat) : allOne (flat RC (repQ q n)) = true := flat_one RC_one _
theorem copy_rep {σ : St} {b k c m n : Nat} {q : Rat} (h : RowE σ b 3 (filled q k (c + m))) (hc : c ≤ k) (hn : n = c + m) : ∃ σ', copyA TT σ 104 (.sl b (k * 3) n n) (.sl b 0 k (k + n)) = some (.int .i64 (Nat.min k n), σ') ∧ (Nat.min k n = c → RowE σ' b 3 (filled q (k + c) m) ∧ But b σ σ') := by
  have hcells : ∀ j, j ≤ k → firstA σ 3 j (.sl b 0 k (k + n)) = some (flat RC (repQ q j)) := fun j hj => by
    obtain ⟨o, hg, _⟩ := h
    simp only [firstA, hg]
    have e : filled q k (c + m) = flat RC (repQ q j) ++ (flat RC (repQ q (k - j)) ++ repeatCells [.bool false, .nilS, .nilS] (c + m)) := by
      rw [filled, show k = j + (k - j) by omega, rep_app, List.append_assoc]; simp
    rw [e, getCells_eq, if_pos (by rw [List.length_append, flat_len RC_len]; simp [repQ]), List.drop_zero, List.take_left' (by rw [flat_len RC_len]; simp [repQ])]
  have hmin : Nat.min k n ≤ k := Nat.min_le_left _ _
  have hmin2 : Nat.min k n ≤ n := Nat.min_le_right _ _
  have hf := hcells _ hmin
  obtain ⟨σ', a1, a2, a3⟩ := h.st (i := k * 3) (ws := flat RC (repQ q (Nat.min k n))) (by rw [filled_len, flat_len RC_len]; simp only [repQ, List.length_replicate]; omega) (rep_one q _)
  refine ⟨σ', ?_, fun hcc => ⟨?_, a3⟩⟩
  · simp only [copyA, ty104, ty92, lenA, hf, a1]
  · rw [hcc, put_filled] at a2; exact a2
theorem copy_one {σ : St} {b c n : Nat} {q : Rat} (h : RowE σ b 3 (filled q 0 (1 + n))) (hs : RowE σ c 3 (RC q)) : ∃ σ', copyA TT σ 104 (.sl b 0 (1 + n) (1 + n)) (.sl c 0 1 1) = some (.int .i64 1, σ') ∧ RowE σ' b 3 (filled q 1 n) ∧ But b σ σ' := by
  have hf : firstA σ 3 1 (.sl c 0 1 1) = some (flat RC (repQ q 1)) := by
    obtain ⟨o, hg, _⟩ := hs
    simp only [firstA, hg]
    rfl
  obtain ⟨σ', a1, a2, a3⟩ := h.st (i := 0) (ws := flat RC (repQ q 1)) (by rw [filled_len, flat_len RC_len]; simp only [repQ, List.length_replicate]; omega) (rep_one q _)
  have hmin : Nat.min 1 (1 + n) = 1 := Nat.min_eq_left (by omega)
  refine ⟨σ', ?_, ?_, a3⟩
  · simp only [copyA, ty104, ty92, lenA, hmin, hf, a1]; rfl
  · have := put_filled q 0 1 n
    rw [Nat.zero_mul, Nat.zero_add] at this
    rw [this] at a2; exact a2

noncomputable def b168 : Code := Try.f168.body.getD .skip
noncomputable def B168_0 : Code := (bodyC (bodyC (fstC (sndC (sndC (sndC (sndC (sndC (sndC b168)))))))))
noncomputable def K168_0 : List It := .lp B168_0 :: .blk 0 :: .code (sndC (sndC (sndC (sndC (sndC (sndC (sndC b168))))))) :: []
theorem xl168_0 {fi : FI} {env : Env} {σ : St} : exI TT fi K168_0 env σ = exI TT fi (.code B168_0 :: K168_0) env σ := by unfold K168_0; exact xI_lp
noncomputable def R168_0_0 : List It := .code (sndC (sndC (sndC (sndC (sndC (sndC (sndC b168))))))) :: []
theorem eK168_0_0 : exitA 0 K168_0 = some R168_0_0 := rfl
set_option maxHeartbeats 4000000 in
theorem s168 (b n k z : Nat) (v1 v2 : AV) (σ σ1 : St) (hk : k < n) (s1 : sliceA TT σ 104 (.sl b 0 n n) (some (.int .i64 k)) none = some v1) (s2 : sliceA TT σ 104 (.sl b 0 n n) none (some (.int .i64 k)) = some v2) (c1 : copyA TT σ 104 v1 v2 = some (.int .i64 z, σ1)) (hw : wrapA .i64 ((k : Int) + (z : Int)) = ((k + z : Nat) : Int)) :
    exI TT (FI.of Try.f168 (TT.an 168)) K168_0 [(7, .sl b 0 n n), (8, .int .i64 k)] σ = exI TT (FI.of Try.f168 (TT.an 168)) K168_0 [(7, .sl b 0 n n), (8, .int .i64 (k + z : Nat))] σ1 := by
  rw [fi168]
  conv => lhs; rw [xl168_0]
  simp only [B168_0, b168, Try.f168, Option.getD, fstC, sndC, bodyC, thnC, elsC]
  simp (maxSteps := 1000000) (disch := omega) [eK168_0_0, getCells, takeN, dropN, fieldAddrA, allOne, AV.one, n_push, putN, overN, blt_dec, buildA, sizesOf, fillA, putCells, List.take_succ_cons, List.take_zero, List.drop_succ_cons, List.drop_zero, List.nil_append, List.cons_append, List.length_cons, List.length_nil, eqvs_dgs, convA, hk, s1, s2, c1, hw]
set_option maxHeartbeats 4000000 in
theorem e168 (b n : Nat) (σ : St)  :
    exI TT (FI.of Try.f168 (TT.an 168)) K168_0 [(7, .sl b 0 n n), (8, .int .i64 n)] σ = some (.sl b 0 n n, σ) := by
  rw [fi168]
  conv => lhs; rw [xl168_0]
  simp only [B168_0, b168, Try.f168, Option.getD, fstC, sndC, bodyC, thnC, elsC]
  simp (maxSteps := 1000000) (disch := omega) [eK168_0_0, getCells, takeN, dropN, fieldAddrA, allOne, AV.one, n_push, putN, overN, blt_dec, buildA, sizesOf, fillA, putCells, List.take_succ_cons, List.take_zero, List.drop_succ_cons, List.drop_zero, List.nil_append, List.cons_append, List.length_cons, List.length_nil, eqvs_dgs, convA]
  simp only [R168_0_0, b168, Try.f168, Option.getD, fstC, sndC, bodyC, thnC, elsC]
  simp (maxSteps := 1000000) (disch := omega) [eK168_0_0, getCells, takeN, dropN, fieldAddrA, allOne, AV.one, n_push, putN, overN, blt_dec, buildA, sizesOf, fillA, putCells, List.take_succ_cons, List.take_zero, List.drop_succ_cons, List.drop_zero, List.nil_append, List.cons_append, List.length_cons, List.length_nil, eqvs_dgs, convA]
set_option maxHeartbeats 4000000 in
theorem b168e (c n b : Nat) (σ σ1 σ2 : St) (hn : (1 : Int) ≤ (n : Int)) (hn2 : (n : Int) ≤ 60) (w1 : wrapA .u64 (1 : Int) = 1) (w2 : wrapA .u64 (n : Int) = (n : Int)) (c1 : callI TT 191 [.int .u64 1, .int .u64 n] σ = some (.tup [.int .u64 0, .int .u64 n], σ)) (w3 : wrapA .i64 (n : Int) = (n : Int)) (c2 : makeSliceA TT σ 104 (.int .i64 n) (.int .i64 n) = some (.sl b 0 n n, σ1)) (c3 : copyA TT σ1 104 (.sl b 0 n n) (.sl c 0 1 1) = some (.int .i64 1, σ2)) :
    exI TT (FI.of Try.f168 (TT.an 168)) [.code b168] (paramsE 0 [.sl c 0 1 1, .int .i64 n]) σ = exI TT (FI.of Try.f168 (TT.an 168)) K168_0 [(7, .sl b 0 n n), (8, .int .i64 1)] σ2 := by
  rw [fi168]
  simp only [b168, Try.f168, Option.getD, fstC, sndC, bodyC, thnC, elsC]
  simp (maxSteps := 1000000) (disch := omega) [eK168_0_0, getCells, takeN, dropN, fieldAddrA, allOne, AV.one, n_push, putN, overN, blt_dec, buildA, sizesOf, fillA, putCells, List.take_succ_cons, List.take_zero, List.drop_succ_cons, List.drop_zero, List.nil_append, List.cons_append, List.length_cons, List.length_nil, eqvs_dgs, convA, hn, hn2, w1, w2, c1, w3, c2, c3]
  rfl
theorem l168 (q : Rat) (b n : Nat) (hn : n ≤ 60) : ∀ (m k : Nat) (σ : St), k + m = n → 1 ≤ k → RowE σ b 3 (filled q k m) → ∃ σ', exI TT (FI.of Try.f168 (TT.an 168)) K168_0 [(7, .sl b 0 n n), (8, .int .i64 k)] σ = some (.sl b 0 n n, σ') ∧ RowE σ' b 3 (filled q n 0) ∧ But b σ σ' := by
  intro m
  induction m using Nat.strongRecOn with
  | ind m ih =>
    intro k σ hk h1 hr
    rcases Nat.eq_zero_or_pos m with rfl | hm
    · obtain rfl : k = n := by omega
      exact ⟨σ, e168 b k σ, hr, rfl, fun _ _ => rfl⟩
    · have hs1 : sliceA TT σ 104 (.sl b 0 n n) (some (.int .i64 k)) none = some (.sl b (k * 3) (n - k) (n - k)) := by
        unfold sliceA
        simp only [ty104, ty92, boundA, Nat.le_refl, if_true, Int.toNat_natCast]
        rw [if_pos ⟨by omega, by omega⟩]
        simp only []
        rw [if_pos (by omega), Nat.zero_add]
      have hs2 : sliceA TT σ 104 (.sl b 0 n n) none (some (.int .i64 k)) = some (.sl b 0 k n) := by
        unfold sliceA
        simp only [ty104, ty92, boundA, Int.toNat_natCast]
        rw [if_pos ⟨by omega, by omega⟩]
        simp
      have hmin : Nat.min k (n - k) = min k m := by rw [show n - k = m by omega]
      have hck : min k m ≤ k := Nat.min_le_left _ _
      have hcm : min k m ≤ m := Nat.min_le_right _ _
      have hc1 : 1 ≤ min k m := Nat.le_min.2 ⟨h1, hm⟩
      have hr' : RowE σ b 3 (filled q k (min k m + (m - min k m))) := by rw [show min k m + (m - min k m) = m by omega]; exact hr
      obtain ⟨σ1, c1, c2⟩ := copy_rep (n := n - k) hr' hck (by omega)
      obtain ⟨d1, d2⟩ := c2 hmin
      rw [show k + (n - k) = n by omega, hmin] at c1
      obtain ⟨σ', g1, g2, g3⟩ := ih (m - min k m) (by omega) (k + min k m) σ1 (by omega) (by omega) d1
      exact ⟨σ', (s168 b n k (min k m) _ _ σ σ1 (by omega) hs1 hs2 c1 (by rw [← Int.natCast_add]; exact wrapA_id (by omega) (by omega))).trans g1, g2, g3.1.trans d2.1, fun c hc => (g3.2 c hc).trans (d2.2 c hc)⟩
theorem c168 (q : Rat) (c n : Nat) (h1 : 1 ≤ n) (hn : n ≤ 60) (σ : St) (hr : RowE σ c 3 (RC q)) : ∃ σ', callI TT 168 [.sl c 0 1 1, .int .i64 n] σ = some (.sl σ.n 0 n n, σ') ∧ RowE σ' σ.n 3 (flat RC (repQ q n)) ∧ Old σ σ' := by
  have hm := make_el (T := TT) (σ := σ) (st := 104) (n := n) ty104 ty92 (by decide) (by omega)
  have r0 : RowE (σ.push ⟨repeatCells [.bool false, .nilS, .nilS] n, 3, false⟩) σ.n 3 (filled q 0 (1 + (n - 1))) := by
    rw [show 1 + (n - 1) = n by omega]; exact RowE.push
  obtain ⟨σ2, a1, a2, a3⟩ := copy_one r0 hr.pushed
  rw [show 1 + (n - 1) = n by omega] at a1
  obtain ⟨σ', g1, g2, g3⟩ := l168 q σ.n n hn (n - 1) 1 σ2 (by omega) (Nat.le_refl _) a2
  refine ⟨σ', ?_, ?_, ?_, fun x hx => ?_⟩
  · rw [cI_0 (c := b168) fn168 rfl md168, ← g1]
    have cm := r191 1 n (by decide) (by omega) σ [.int .u64 (1 : Nat), .int .u64 n] rfl
    rw [Nat.one_mul] at cm
    exact b168e c n σ.n σ _ σ2 (by omega) (by omega) (by decide) (w64 (by omega)) cm (wrapA_id (by omega) (by omega)) hm a1
  · rw [filled, repeatCells, List.append_nil] at g2; exact g2
  · rw [g3.1, a3.1]; exact Nat.le_succ _
  · rw [g3.2 x (by omega), a3.2 x (by omega)]; exact get_push_lt hx

def atL (p : List Rat) (i : Nat) : Rat := p.getD i 0
def atM (M : List (List Rat)) (i k : Nat) : Rat := (M.getD i []).getD k 0
/-- The sum of the first terms of a step. -/
def stT (M : List (List Rat)) (p : List Rat) (k i : Nat) : Rat := sumI (fun i => atL p i * atM M i k) i
def stL (M : List (List Rat)) (p : List Rat) (n i k0 : Nat) : List Rat := (List.range n).map fun k => stT M p k (if k < k0 then i + 1 else i)
/-- A step. -/
def stepL (M : List (List Rat)) (p : List Rat) : List Rat := (List.range p.length).map fun k => stT M p k p.length
theorem stL_len (M : List (List Rat)) (p : List Rat) (n i k0 : Nat) : (stL M p n i k0).length = n := by simp [stL]
theorem stL_get (M : List (List Rat)) (p : List Rat) {n i k0 k : Nat} (h : k < n) : (stL M p n i k0)[k]? = some (stT M p k (if k < k0 then i + 1 else i)) := by simp [stL, h]
theorem stL_set (M : List (List Rat)) (p : List Rat) {n i k : Nat} (h : k < n) : (stL M p n i k).set k (stT M p k (i + 1)) = stL M p n i (k + 1) := by
  apply List.ext_getElem?
  intro j
  rw [List.getElem?_set]
  by_cases hj : k = j
  · subst hj
    rw [if_pos rfl, stL_len, if_pos h, stL_get M p h, if_pos (by omega)]
  · rw [if_neg hj]
    by_cases hjn : j < n
    · rw [stL_get M p hjn, stL_get M p hjn]
      congr 2
      by_cases h1 : j < k
      · rw [if_pos h1, if_pos (by omega)]
      · rw [if_neg h1, if_neg (by omega)]
    · rw [List.getElem?_eq_none (by rw [stL_len]; omega), List.getElem?_eq_none (by rw [stL_len]; omega)]
theorem stL_next (M : List (List Rat)) (p : List Rat) (n i : Nat) : stL M p n i n = stL M p n (i + 1) 0 := by
  refine List.map_congr_left fun k hk => ?_
  rw [if_pos (List.mem_range.1 hk), if_neg (by omega)]
theorem flat_set {α : Type} {f : α → List AV} {w : Nat} (hf : ∀ x, (f x).length = w) : ∀ (l : List α) (i : Nat) (x : α), i < l.length → putCells (flat f l) (i * w) (f x) = flat f (l.set i x)
  | [], i, x, h => by simp at h
  | y :: r, 0, x, h => by
    have := put_el (pre := []) (z := f y) (w := f x) (suf := flat f r) (by rw [hf, hf])
    rw [Nat.zero_mul]
    simpa [flat] using this
  | y :: r, i + 1, x, h => by
    have ih := flat_set hf r i x (by simpa using h)
    unfold putCells at ih ⊢
    have e : (i + 1) * w = (f y).length + i * w := by rw [hf, Nat.add_mul]; omega
    simp only [flat, List.flatMap_cons, List.set_cons_succ] at ih ⊢
    rw [← ih, e, List.take_append, List.take_of_length_le (by omega), Nat.add_sub_cancel_left, List.append_assoc, Nat.add_assoc, List.drop_append, List.drop_of_length_le (by omega), List.nil_append, Nat.add_sub_cancel_left]
    simp only [List.append_assoc]

noncomputable def b121 : Code := Try.f121.body.getD .skip
noncomputable def B121_0 : Code := (bodyC (bodyC (sndC (fstC (sndC (sndC b121))))))
noncomputable def K121_0 : List It := .lp B121_0 :: .blk 0 :: .code (sndC (sndC (sndC b121))) :: []
theorem xl121_0 {fi : FI} {env : Env} {σ : St} : exI TT fi K121_0 env σ = exI TT fi (.code B121_0 :: K121_0) env σ := by unfold K121_0; exact xI_lp
noncomputable def R121_0_0 : List It := .code (sndC (sndC (sndC b121))) :: []
theorem eK121_0_0 : exitA 0 K121_0 = some R121_0_0 := rfl
noncomputable def B121_1 : Code := (bodyC (bodyC (sndC (sndC (bodyC (fstC (sndC (sndC (bodyC (bodyC (sndC (fstC (sndC (sndC b121))))))))))))))
noncomputable def K121_1 : List It := .lp B121_1 :: .blk 2 :: .blk 1 :: .code (sndC (sndC (sndC (bodyC (bodyC (sndC (fstC (sndC (sndC b121))))))))) :: K121_0
theorem xl121_1 {fi : FI} {env : Env} {σ : St} : exI TT fi K121_1 env σ = exI TT fi (.code B121_1 :: K121_1) env σ := by unfold K121_1; exact xI_lp
noncomputable def R121_1_2 : List It := .blk 1 :: .code (sndC (sndC (sndC (bodyC (bodyC (sndC (fstC (sndC (sndC b121))))))))) :: K121_0
theorem eK121_1_2 : exitA 2 K121_1 = some R121_1_2 := rfl
noncomputable def R121_1_1 : List It := .code (sndC (sndC (sndC (bodyC (bodyC (sndC (fstC (sndC (sndC b121))))))))) :: K121_0
theorem eK121_1_1 : exitA 1 K121_1 = some R121_1_1 := rfl
theorem eK121_1_0 : exitA 0 K121_1 = some R121_0_0 := rfl
set_option maxHeartbeats 4000000 in
theorem s121 (m n b c i k : Nat) (rows cells row s x y t u : List AV) (σ σ1 : St) (hk : k < n) (him : i < m) (lo : cellsAt σ (.ptr b (k * 3)) 3 = some s) (l7 : cellsAt σ (.ptr c 0) 3 = some x) (g1 : cellsAt σ (.lp rows i) 1 = some [.lst n row]) (g2 : cellsAt σ (.lp row (k * 3)) 3 = some y) (c1 : callI TT 86 [.agg x, .agg y] σ = some (.agg t, σ)) (c2 : callI TT 85 [.agg s, .agg t] σ = some (.agg u, σ)) (hes : eqvs s s = true) (hu : u.length = 3) (s1 : storeCellsA σ b (k * 3) u = some σ1) (hw : wrapA .i64 ((k : Int) + 1) = (k : Int) + 1) :
    exI TT (FI.of Try.f121 (TT.an 121)) K121_1 [(0, .lst m rows), (5, .sl b 0 n n), (6, .int .i64 i), (7, .ptr c 0), (14, .lst n cells), (15, .int .i64 n), (16, .int .i64 i), (22, .int .i64 n), (23, .int .i64 k)] σ = exI TT (FI.of Try.f121 (TT.an 121)) K121_1 [(0, .lst m rows), (5, .sl b 0 n n), (6, .int .i64 i), (7, .ptr c 0), (14, .lst n cells), (15, .int .i64 n), (16, .int .i64 i), (22, .int .i64 n), (23, .int .i64 ((k : Int) + 1))] σ1 := by
  rw [fi121]
  conv => lhs; rw [xl121_1]
  simp only [B121_1, b121, Try.f121, Option.getD, fstC, sndC, bodyC, thnC, elsC]
  simp (maxSteps := 1000000) (disch := omega) [eK121_0_0, eK121_1_2, eK121_1_1, eK121_1_0, getCells, takeN, dropN, fieldAddrA, allOne, AV.one, n_push, putN, overN, blt_dec, buildA, sizesOf, fillA, putCells, List.take_succ_cons, List.take_zero, List.drop_succ_cons, List.drop_zero, List.nil_append, List.cons_append, List.length_cons, List.length_nil, eqvs_dgs, convA, hk, him, lo, l7, g1, g2, c1, c2, hes, hu, s1, hw]
set_option maxHeartbeats 4000000 in
theorem e121i (m n b c i : Nat) (rows cells : List AV) (σ : St) (hw : wrapA .i64 ((i : Int) + 1) = (i : Int) + 1) :
    exI TT (FI.of Try.f121 (TT.an 121)) K121_1 [(0, .lst m rows), (5, .sl b 0 n n), (6, .int .i64 i), (7, .ptr c 0), (14, .lst n cells), (15, .int .i64 n), (16, .int .i64 i), (22, .int .i64 n), (23, .int .i64 n)] σ = exI TT (FI.of Try.f121 (TT.an 121)) K121_0 [(0, .lst m rows), (5, .sl b 0 n n), (14, .lst n cells), (15, .int .i64 n), (16, .int .i64 ((i : Int) + 1))] σ := by
  rw [fi121]
  conv => lhs; rw [xl121_1]
  simp only [B121_1, b121, Try.f121, Option.getD, fstC, sndC, bodyC, thnC, elsC]
  simp (maxSteps := 1000000) (disch := omega) [eK121_0_0, eK121_1_2, eK121_1_1, eK121_1_0, getCells, takeN, dropN, fieldAddrA, allOne, AV.one, n_push, putN, overN, blt_dec, buildA, sizesOf, fillA, putCells, List.take_succ_cons, List.take_zero, List.drop_succ_cons, List.drop_zero, List.nil_append, List.cons_append, List.length_cons, List.length_nil, eqvs_dgs, convA, hw]
  simp only [R121_1_2, b121, Try.f121, Option.getD, fstC, sndC, bodyC, thnC, elsC]
  simp (maxSteps := 1000000) (disch := omega) [eK121_0_0, eK121_1_2, eK121_1_1, eK121_1_0, getCells, takeN, dropN, fieldAddrA, allOne, AV.one, n_push, putN, overN, blt_dec, buildA, sizesOf, fillA, putCells, List.take_succ_cons, List.take_zero, List.drop_succ_cons, List.drop_zero, List.nil_append, List.cons_append, List.length_cons, List.length_nil, eqvs_dgs, convA, hw]
set_option maxHeartbeats 4000000 in
theorem b121i (m n b i : Nat) (rows cells x : List AV) (σ σ2 : St) (hi : i < n) (l1 : cellsAt σ (.lp cells (i * 3)) 3 = some x) (hx : x.length = 3) (s1 : storeCellsA (σ.push ⟨[.bool false, .nilS, .nilS], 3, false⟩) σ.n 0 x = some σ2) :
    exI TT (FI.of Try.f121 (TT.an 121)) K121_0 [(0, .lst m rows), (5, .sl b 0 n n), (14, .lst n cells), (15, .int .i64 n), (16, .int .i64 i)] σ = exI TT (FI.of Try.f121 (TT.an 121)) K121_1 [(0, .lst m rows), (5, .sl b 0 n n), (6, .int .i64 i), (7, .ptr σ.n 0), (14, .lst n cells), (15, .int .i64 n), (16, .int .i64 i), (22, .int .i64 n), (23, .int .i64 0)] σ2 := by
  rw [fi121]
  conv => lhs; rw [xl121_0]
  simp only [B121_0, b121, Try.f121, Option.getD, fstC, sndC, bodyC, thnC, elsC]
  simp (maxSteps := 1000000) (disch := omega) [eK121_0_0, eK121_1_2, eK121_1_1, eK121_1_0, getCells, takeN, dropN, fieldAddrA, allOne, AV.one, n_push, putN, overN, blt_dec, buildA, sizesOf, fillA, putCells, List.take_succ_cons, List.take_zero, List.drop_succ_cons, List.drop_zero, List.nil_append, List.cons_append, List.length_cons, List.length_nil, eqvs_dgs, convA, hi, l1, hx, s1]
  rfl
set_option maxHeartbeats 4000000 in
theorem e121 (m n b : Nat) (rows cells : List AV) (σ : St)  :
    exI TT (FI.of Try.f121 (TT.an 121)) K121_0 [(0, .lst m rows), (5, .sl b 0 n n), (14, .lst n cells), (15, .int .i64 n), (16, .int .i64 n)] σ = some (.sl b 0 n n, σ) := by
  rw [fi121]
  conv => lhs; rw [xl121_0]
  simp only [B121_0, b121, Try.f121, Option.getD, fstC, sndC, bodyC, thnC, elsC]
  simp (maxSteps := 1000000) (disch := omega) [eK121_0_0, eK121_1_2, eK121_1_1, eK121_1_0, getCells, takeN, dropN, fieldAddrA, allOne, AV.one, n_push, putN, overN, blt_dec, buildA, sizesOf, fillA, putCells, List.take_succ_cons, List.take_zero, List.drop_succ_cons, List.drop_zero, List.nil_append, List.cons_append, List.length_cons, List.length_nil, eqvs_dgs]
  simp only [R121_0_0, b121, Try.f121, Option.getD, fstC, sndC, bodyC, thnC, elsC]
  simp (maxSteps := 1000000) (disch := omega) [eK121_0_0, eK121_1_2, eK121_1_1, eK121_1_0, getCells, takeN, dropN, fieldAddrA, allOne, AV.one, n_push, putN, overN, blt_dec, buildA, sizesOf, fillA, putCells, List.take_succ_cons, List.take_zero, List.drop_succ_cons, List.drop_zero, List.nil_append, List.cons_append, List.length_cons, List.length_nil, eqvs_dgs]
set_option maxHeartbeats 4000000 in
theorem b121e (m n b : Nat) (rows cells o : List AV) (σ1 σ2 : St) (c1 : callI TT 84 [.int .i64 0] ⟨[], 0⟩ = some (.agg o, ⟨[], 0⟩)) (c2 : buildSliceA TT ⟨[], 0⟩ 104 1 [(0, .agg o)] = some (.sl 0 0 1 1, σ1)) (c3 : callI TT 168 [.sl 0 0 1 1, .int .i64 n] σ1 = some (.sl b 0 n n, σ2)) :
    exI TT (FI.of Try.f121 (TT.an 121)) [.code b121] (paramsE 0 [.lst m rows, .lst n cells]) ⟨[], 0⟩ = exI TT (FI.of Try.f121 (TT.an 121)) K121_0 [(0, .lst m rows), (5, .sl b 0 n n), (14, .lst n cells), (15, .int .i64 n), (16, .int .i64 0)] σ2 := by
  rw [fi121]
  simp only [b121, Try.f121, Option.getD, fstC, sndC, bodyC, thnC, elsC]
  simp (maxSteps := 1000000) (disch := omega) [eK121_0_0, eK121_1_2, eK121_1_1, eK121_1_0, getCells, takeN, dropN, fieldAddrA, allOne, AV.one, n_push, putN, overN, blt_dec, buildA, sizesOf, fillA, putCells, List.take_succ_cons, List.take_zero, List.drop_succ_cons, List.drop_zero, List.nil_append, List.cons_append, List.length_cons, List.length_nil, eqvs_dgs, convA, c1, c2, c3]
  rfl
theorem M_at {M : List (List Rat)} {i k : Nat} (hi : i < M.length) (hk : k < (M[i]).length) : atM M i k = (M[i])[k] := by rw [atM, getD_of hi, getD_of hk]
theorem stT_bd {M : List (List Rat)} {p : List Rat} {K n : Nat} (hp : ∀ x ∈ p, Bd K x) (hpl : p.length = n) (hM : M.length = n) (hr : ∀ r ∈ M, r.length = n ∧ ∀ x ∈ r, Bd 60 x) {k : Nat} (hk : k < n) : ∀ i, i ≤ n → Bd (2 + i * (K + 61)) (stT M p k i)
  | 0, _ => (show Bd 2 (0 : Rat) from ⟨by decide +kernel, by decide +kernel⟩).mono (by omega)
  | i + 1, h => by
    have hi : i < M.length := by omega
    obtain ⟨h1, h2⟩ := hr _ (List.getElem_mem hi)
    have hkl : k < (M[i]).length := by omega
    have hip : i < p.length := by omega
    have ih := stT_bd hp hpl hM hr hk i (by omega)
    have : stT M p k (i + 1) = stT M p k i + p[i] * (M[i])[k] := by
      show sumI _ (i + 1) = _
      rw [sumI, M_at hi hkl, show atL p i = p[i] from getD_of hip]; rfl
    rw [this]
    exact (ih.add ((hp _ (List.getElem_mem hip)).mul (h2 _ (List.getElem_mem hkl)))).mono (by rw [Nat.add_mul]; omega)
theorem m121 (M : List (List Rat)) (p : List Rat) (n K : Nat) (hn : n ≤ 6) (hK : K ≤ 1000000) (hpl : p.length = n) (hp : ∀ x ∈ p, Bd K x) (hM : M.length = n) (hr : ∀ r ∈ M, r.length = n ∧ ∀ x ∈ r, Bd 60 x) (i : Nat) (hi : i < n) (b c : Nat) (hbc : b ≠ c) : ∀ (m k : Nat) (σ : St), k + m = n → RowE σ b 3 (flat RC (stL M p n i k)) → Bx σ c (RC (atL p i)) →
    ∃ σ', exI TT (FI.of Try.f121 (TT.an 121)) K121_1 [(0, RSS M), (5, .sl b 0 n n), (6, .int .i64 i), (7, .ptr c 0), (14, RS p), (15, .int .i64 n), (16, .int .i64 i), (22, .int .i64 n), (23, .int .i64 k)] σ = exI TT (FI.of Try.f121 (TT.an 121)) K121_0 [(0, RSS M), (5, .sl b 0 n n), (14, RS p), (15, .int .i64 n), (16, .int .i64 ((i : Int) + 1))] σ' ∧ RowE σ' b 3 (flat RC (stL M p n (i + 1) 0)) := by
  intro m
  have hM' : RSS M = .lst n (flat R1 M) := by rw [RSS, hM]
  have hp' : RS p = .lst n (flat RC p) := by rw [RS, hpl]
  induction m with
  | zero =>
    intro k σ hk hrow hb
    obtain rfl : k = n := by omega
    rw [hM', hp']
    refine ⟨σ, e121i k k b c i _ _ σ (wrapA_id (by omega) (by omega)), ?_⟩
    rw [← stL_next]; exact hrow
  | succ m ih =>
    intro k σ hk hrow hb
    have hkn : k < n := by omega
    have hiM : i < M.length := by omega
    obtain ⟨h1, h2⟩ := hr _ (List.getElem_mem hiM)
    have hkl : k < (M[i]).length := by omega
    have hip : i < p.length := by omega
    have lo : cellsAt σ (.ptr b (k * 3)) 3 = some (RC (stT M p k i)) := hrow.rd (flat_get RC_len _ k _ (by rw [stL_get M p hkn, if_neg (by omega)]))
    have hai : atL p i = p[i] := getD_of hip
    have bt := stT_bd hp hpl hM hr hkn i (by omega)
    have hmul : i * (K + 61) ≤ 6 * (K + 61) := Nat.mul_le_mul_right _ (by omega)
    have c1 := (r86 ((hp _ (List.getElem_mem hip)).mono (show K ≤ K + 60 by omega)) ((h2 _ (List.getElem_mem hkl)).mono (show 60 ≤ K + 60 by omega)) (by omega)).pure σ rfl rfl
    have bm := (hp _ (List.getElem_mem hip)).mul (h2 _ (List.getElem_mem hkl))
    have c2 := (r85 (bt.mono (show _ ≤ 2 + 6 * (K + 61) by omega)) (bm.mono (show _ ≤ 2 + 6 * (K + 61) by omega)) (by omega)).pure σ rfl rfl
    have hst : stT M p k i + p[i] * (M[i])[k] = stT M p k (i + 1) := by
      show _ = sumI _ (i + 1)
      rw [sumI, M_at hiM hkl, hai]; rfl
    rw [hst] at c2
    obtain ⟨σ1, a1, a2, a3⟩ := hrow.st (i := k * 3) (ws := RC (stT M p k (i + 1))) (by rw [flat_len RC_len, stL_len]; show k * 3 + 3 ≤ n * 3; omega) (RC_one _)
    rw [flat_set RC_len _ k _ (by rw [stL_len]; exact hkn), stL_set M p hkn] at a2
    obtain ⟨σ', k1, k2⟩ := ih (k + 1) σ1 (by omega) a2 (hb.but (fun h => hbc h.symm) a3)
    have hk1 : ((k + 1 : Nat) : Int) = (k : Int) + 1 := by omega
    rw [hk1] at k1
    refine ⟨σ', ?_, k2⟩
    rw [← k1, hM', hp']
    have g1 := RSS_get (rs := M) hiM σ
    rw [show RS M[i] = .lst n (flat RC M[i]) by rw [RS, h1]] at g1
    rw [← hai] at c1 c2
    exact s121 n n b c i k (flat R1 M) (flat RC p) (flat RC M[i]) _ _ _ _ _ σ σ1 hkn (by omega) lo (hb.rd rfl) g1 (RS_get hkl σ) c1 c2 (RC_eqv _) rfl a1 (wrapA_id (by omega) (by omega))
theorem l121 (M : List (List Rat)) (p : List Rat) (n K : Nat) (hn : n ≤ 6) (hK : K ≤ 1000000) (hpl : p.length = n) (hp : ∀ x ∈ p, Bd K x) (hM : M.length = n) (hr : ∀ r ∈ M, r.length = n ∧ ∀ x ∈ r, Bd 60 x) (b : Nat) : ∀ (m i : Nat) (σ : St), i + m = n → RowE σ b 3 (flat RC (stL M p n i 0)) →
    ∃ σ', exI TT (FI.of Try.f121 (TT.an 121)) K121_0 [(0, RSS M), (5, .sl b 0 n n), (14, RS p), (15, .int .i64 n), (16, .int .i64 i)] σ = some (.sl b 0 n n, σ') ∧ RowE σ' b 3 (flat RC (stepL M p)) := by
  intro m
  have hM' : RSS M = .lst n (flat R1 M) := by rw [RSS, hM]
  have hp' : RS p = .lst n (flat RC p) := by rw [RS, hpl]
  induction m with
  | zero =>
    intro i σ hi hrow
    obtain rfl : i = n := by omega
    rw [hM', hp']
    refine ⟨σ, e121 i i b _ _ σ, ?_⟩
    have : stL M p i i 0 = stepL M p := by
      unfold stL stepL
      rw [hpl]
      exact List.map_congr_left fun k _ => by rw [if_neg (by omega)]
    rw [← this]; exact hrow
  | succ m ih =>
    intro i σ hi hrow
    have hin : i < n := by omega
    have hip : i < p.length := by omega
    have hai : atL p i = p[i] := getD_of hip
    obtain ⟨σ2, a1, a2, a3, a4⟩ := new_box (σ := σ) (z := [.bool false, .nilS, .nilS]) (x := RC (atL p i)) (m := 3) rfl rfl
    have hbl := hrow.lt
    obtain ⟨σ3, k1, k2⟩ := m121 M p n K hn hK hpl hp hM hr i hin b σ.n (by omega) n 0 σ2 (by omega) (hrow.old a3) a2
    obtain ⟨σ', k3, k4⟩ := ih (i + 1) σ3 (by omega) k2
    have hi1 : ((i + 1 : Nat) : Int) = (i : Int) + 1 := by omega
    rw [hi1] at k3
    refine ⟨σ', ?_, k4⟩
    rw [← k3, ← k1, hM', hp']
    have g1 := RS_get hip σ
    rw [← hai] at g1
    exact b121i n n b i (flat R1 M) (flat RC p) _ σ σ2 hin g1 rfl a1
theorem r121 (M : List (List Rat)) (p : List Rat) (n K : Nat) (h1 : 1 ≤ n) (hn : n ≤ 6) (hK : K ≤ 1000000) (hpl : p.length = n) (hp : ∀ x ∈ p, Bd K x) (hM : M.length = n) (hr : ∀ r ∈ M, r.length = n ∧ ∀ x ∈ r, Bd 60 x) : FnF TT 121 [RSS M, RS p] (RS (stepL M p)) := by
  have c1 := (r84 (n := 0) (by decide) (by decide)).pure (⟨[], 0⟩ : St) rfl rfl
  have c2 := build_el (T := TT) (σ := ⟨[], 0⟩) (st := 104) (w := RC 0) ty104 ty92 (by decide) rfl rfl rfl
  obtain ⟨σ2, c3, r3, _⟩ := c168 0 0 n h1 (by omega) _ (RowE.push (σ := ⟨[], 0⟩) (cs := RC 0) (e := 3) (o := false))
  have hz : repQ 0 n = stL M p n 0 0 := by
    apply List.ext_getElem?
    intro j
    by_cases hj : j < n
    · rw [stL_get M p hj, if_neg (by omega)]
      simp [repQ, hj]; rfl
    · rw [List.getElem?_eq_none (by simp [repQ]; omega), List.getElem?_eq_none (by rw [stL_len]; omega)]
  rw [hz] at r3
  obtain ⟨σ', k1, k2⟩ := l121 M p n K hn hK hpl hp hM hr _ n 0 σ2 (by omega) r3
  have hM' : RSS M = .lst n (flat R1 M) := by rw [RSS, hM]
  have hp' : RS p = .lst n (flat RC p) := by rw [RS, hpl]
  refine FnF.mk (c := b121) fn121 rfl md121 ⟨σ', _, Eq.trans ?_ k1, ?_⟩
  · rw [hM', hp']
    exact b121e n n _ _ _ _ _ σ2 c1 c2 c3
  · have := k2.frz (d := 4) (n := n) (c := n) (by rw [flat_len RC_len]; simp [stepL, hpl]) (flat_frz (fun v => RC_frz σ' 4 v) _) (Nat.le_refl _)
    rw [show RS (stepL M p) = .lst n (flat RC (stepL M p)) by simp [RS, stepL, hpl]]
    exact this

/-- Ratios as fractions. -/
def frL (ps : List Rat) : List (Int × Int) := ps.map fun q => (q.num, (q.den : Int))
theorem frL_len (ps : List Rat) : (frL ps).length = ps.length := by simp [frL]
theorem frL_rq (ps : List Rat) : (frL ps).map rq = ps := by
  rw [frL, List.map_map]
  have : (fun q : Rat => rq (q.num, (q.den : Int))) = id := funext fun q => mk_self
  exact (congrArg (fun f => ps.map f) this).trans (List.map_id ps)
theorem fits_bds {ps : List Rat} (h : ∀ x ∈ ps, fits x = true) : ∀ x ∈ ps, Bd 60 x := fun x hx => by
  obtain ⟨h1, h2⟩ := fits_iff.1 (h x hx)
  exact ⟨Nat.lt_of_le_of_lt h1 (by decide), Nat.lt_of_le_of_lt h2 (by decide)⟩

noncomputable def b122 : Code := Try.f122.body.getD .skip
noncomputable def B122_0 : Code := (bodyC (bodyC (sndC (fstC (sndC (sndC b122))))))
noncomputable def K122_0 : List It := .lp B122_0 :: .blk 0 :: .code (sndC (sndC (sndC b122))) :: []
theorem xl122_0 {fi : FI} {env : Env} {σ : St} : exI TT fi K122_0 env σ = exI TT fi (.code B122_0 :: K122_0) env σ := by unfold K122_0; exact xI_lp
noncomputable def R122_0_0 : List It := .code (sndC (sndC (sndC b122))) :: []
theorem eK122_0_0 : exitA 0 K122_0 = some R122_0_0 := rfl
set_option maxHeartbeats 4000000 in
theorem s122 (n i b m b2 m2 : Nat) (cells x : List AV) (a d : Int) (σ σ2 σ3 σ4 σ5 : St) (hi : i < n) (l1 : cellsAt σ (.lp cells (i * 3)) 3 = some x) (hx : x.length = 3) (s1 : storeCellsA (σ.push ⟨[.bool false, .nilS, .nilS], 3, false⟩) σ.n 0 x = some σ2) (l6 : cellsAt σ2 (.ptr σ.n 0) 3 = some x) (c1 : ∀ σ, callI TT 80 [.agg x] σ = some (.tup [.agg [.int .i64 a, .int .i64 d], .bool true], σ)) (s2 : storeCellsA (σ2.push ⟨[.int .i64 0, .int .i64 0], 2, false⟩) σ2.n 0 [.int .i64 a, .int .i64 d] = some σ3) (l7 : cellsAt σ3 (.ptr σ2.n 0) 2 = some [.int .i64 a, .int .i64 d]) (c2 : buildSliceA TT σ3 25 1 [(0, .agg [.int .i64 a, .int .i64 d])] = some (.sl σ3.n 0 1 1, σ4)) (c3 : appendA TT σ4 25 25 (.sl b 0 m m) (.sl σ3.n 0 1 1) = some (.sl b2 0 m2 m2, σ5)) (hw : wrapA .i64 ((i : Int) + 1) = (i : Int) + 1) :
    exI TT (FI.of Try.f122 (TT.an 122)) K122_0 [(4, .sl b 0 m m), (10, .lst n cells), (11, .int .i64 n), (12, .int .i64 i)] σ = exI TT (FI.of Try.f122 (TT.an 122)) K122_0 [(4, .sl b2 0 m2 m2), (10, .lst n cells), (11, .int .i64 n), (12, .int .i64 ((i : Int) + 1))] σ5 := by
  rw [fi122]
  conv => lhs; rw [xl122_0]
  simp only [B122_0, b122, Try.f122, Option.getD, fstC, sndC, bodyC, thnC, elsC]
  simp (maxSteps := 1000000) (disch := omega) [eK122_0_0, getCells, takeN, dropN, fieldAddrA, allOne, AV.one, n_push, putN, overN, blt_dec, buildA, sizesOf, fillA, putCells, List.take_succ_cons, List.take_zero, List.drop_succ_cons, List.drop_zero, List.nil_append, List.cons_append, List.length_cons, List.length_nil, eqvs_dgs, convA, hi, l1, hx, s1, l6, c1, s2, l7, c2, c3, hw]
set_option maxHeartbeats 4000000 in
theorem e122 (n b m : Nat) (cells : List AV) (σ : St)  :
    exI TT (FI.of Try.f122 (TT.an 122)) K122_0 [(4, .sl b 0 m m), (10, .lst n cells), (11, .int .i64 n), (12, .int .i64 n)] σ = some (.tup [.sl b 0 m m, .bool true], σ) := by
  rw [fi122]
  conv => lhs; rw [xl122_0]
  simp only [B122_0, b122, Try.f122, Option.getD, fstC, sndC, bodyC, thnC, elsC]
  simp (maxSteps := 1000000) (disch := omega) [eK122_0_0, getCells, takeN, dropN, fieldAddrA, allOne, AV.one, n_push, putN, overN, blt_dec, buildA, sizesOf, fillA, putCells, List.take_succ_cons, List.take_zero, List.drop_succ_cons, List.drop_zero, List.nil_append, List.cons_append, List.length_cons, List.length_nil, eqvs_dgs]
  simp only [R122_0_0, b122, Try.f122, Option.getD, fstC, sndC, bodyC, thnC, elsC]
  simp (maxSteps := 1000000) (disch := omega) [eK122_0_0, getCells, takeN, dropN, fieldAddrA, allOne, AV.one, n_push, putN, overN, blt_dec, buildA, sizesOf, fillA, putCells, List.take_succ_cons, List.take_zero, List.drop_succ_cons, List.drop_zero, List.nil_append, List.cons_append, List.length_cons, List.length_nil, eqvs_dgs]
set_option maxHeartbeats 4000000 in
theorem b122e (n : Nat) (cells : List AV) (σ1 : St) (c1 : buildSliceA TT ⟨[], 0⟩ 25 0 [] = some (.sl 0 0 0 0, σ1)) :
    exI TT (FI.of Try.f122 (TT.an 122)) [.code b122] (paramsE 0 [.lst n cells]) ⟨[], 0⟩ = exI TT (FI.of Try.f122 (TT.an 122)) K122_0 [(4, .sl 0 0 0 0), (10, .lst n cells), (11, .int .i64 n), (12, .int .i64 0)] σ1 := by
  rw [fi122]
  simp only [b122, Try.f122, Option.getD, fstC, sndC, bodyC, thnC, elsC]
  simp (maxSteps := 1000000) (disch := omega) [eK122_0_0, getCells, takeN, dropN, fieldAddrA, allOne, AV.one, n_push, putN, overN, blt_dec, buildA, sizesOf, fillA, putCells, List.take_succ_cons, List.take_zero, List.drop_succ_cons, List.drop_zero, List.nil_append, List.cons_append, List.length_cons, List.length_nil, eqvs_dgs, c1]
  rfl
theorem l122 (ps : List Rat) (hf : ∀ x ∈ ps, fits x = true) (hs : ps.length ≤ 1000) : ∀ (m i b : Nat) (σ : St), i + m = ps.length → RowE σ b 2 (flat FC (frL (ps.take i))) →
    ∃ b' σ', exI TT (FI.of Try.f122 (TT.an 122)) K122_0 [(4, .sl b 0 i i), (10, RS ps), (11, .int .i64 ps.length), (12, .int .i64 i)] σ = some (.tup [.sl b' 0 ps.length ps.length, .bool true], σ') ∧ RowE σ' b' 2 (flat FC (frL ps)) := by
  intro m
  induction m with
  | zero =>
    intro i b σ hi hr
    obtain rfl : i = ps.length := by omega
    rw [List.take_of_length_le (Nat.le_refl _)] at hr
    exact ⟨b, σ, e122 ps.length b ps.length (flat RC ps) σ, hr⟩
  | succ m ih =>
    intro i b σ hi hr
    have hil : i < ps.length := by omega
    have hx := hf _ (List.getElem_mem hil)
    have hi1 : ((i + 1 : Nat) : Int) = (i : Int) + 1 := by omega
    obtain ⟨σ2, a1, a2, a3, a4⟩ := new_box (σ := σ) (z := [.bool false, .nilS, .nilS]) (x := RC ps[i]) (m := 3) rfl rfl
    obtain ⟨σ3, d1, d2, d3, d4⟩ := new_box (σ := σ2) (z := [.int .i64 0, .int .i64 0]) (x := [.int .i64 (ps[i]).num, .int .i64 ((ps[i]).den : Int)]) (m := 2) rfl rfl
    have c1 := fun σ => r80 (fits_bds hf _ (List.getElem_mem hil)) (by decide) σ [RT ps[i]] rfl
    rw [frA_yes hx] at c1
    have hr3 := (hr.old a3).old d3
    have c2 := build_el (T := TT) (σ := σ3) (st := 25) (w := [.int .i64 (ps[i]).num, .int .i64 ((ps[i]).den : Int)]) ty25 ty41 (by decide) rfl rfl rfl
    obtain ⟨σ5, g1, g2, _⟩ := append_el (T := TT) (st := 25) (n := i) (w := [.int .i64 (ps[i]).num, .int .i64 ((ps[i]).den : Int)]) ty25 ty41 (fun _ _ => trivial) (by decide) rfl rfl (by rw [flat_len FC_len, frL_len]; simp; omega) hr3 (by omega)
    have e : flat FC (frL (ps.take i)) ++ [.int .i64 (ps[i]).num, .int .i64 ((ps[i]).den : Int)] = flat FC (frL (ps.take (i + 1))) := by
      rw [List.take_succ_eq_append_getElem hil, frL, frL, List.map_append, flat_app]; simp [flat, FC]
    rw [e] at g2
    obtain ⟨b', σ', k1, k2⟩ := ih (i + 1) (σ3.n + 1) σ5 (by omega) g2
    rw [hi1] at k1
    refine ⟨b', σ', ?_, k2⟩
    rw [← k1]
    exact s122 ps.length i b i (σ3.n + 1) (i + 1) (flat RC ps) (RC ps[i]) _ _ σ σ2 σ3 _ σ5 hil (RS_get hil σ) rfl a1 (a2.rd rfl) c1 d1 (d2.rd rfl) c2 g1 (wrapA_id (by omega) (by omega))
theorem r122 (ps : List Rat) (hf : ∀ x ∈ ps, fits x = true) (hs : ps.length ≤ 1000) : FnF TT 122 [RS ps] (.tup [FS (frL ps), .bool true]) := by
  have hb := build_e0 (T := TT) (σ := ⟨[], 0⟩) (st := 25) ty25 ty41
  obtain ⟨b', σ', k1, k2⟩ := l122 ps hf hs ps.length 0 0 _ (by omega) (RowE.push (σ := ⟨[], 0⟩) (cs := []) (e := 2) (o := false))
  refine FnF.mk (c := b122) fn122 rfl md122 ⟨σ', _, (b122e _ _ _ hb).trans k1, ?_⟩
  have := k2.frz (d := 3) (n := ps.length) (c := ps.length) (by rw [flat_len FC_len, frL_len]) (FC_frz' σ' 3 _) (Nat.le_refl _)
  rw [show FS (frL ps) = .lst ps.length (flat FC (frL ps)) by rw [FS, frL_len]]
  exact frzV_tup (mapO_cons this (mapO_cons rfl rfl))
/-- Some steps one after another. -/
def iterL (M : List (List Rat)) (p : List Rat) : Nat → List Rat
  | 0 => p
  | j + 1 => stepL M (iterL M p j)
theorem iterL_len (M : List (List Rat)) (p : List Rat) : ∀ j, (iterL M p j).length = p.length
  | 0 => rfl
  | j + 1 => by rw [iterL, stepL]; simp [iterL_len M p j]
def Kb : Nat → Nat
  | 0 => 60
  | j + 1 => 2 + 6 * (Kb j + 61)
theorem stepL_bd {M : List (List Rat)} {p : List Rat} {K n : Nat} (hp : ∀ x ∈ p, Bd K x) (hpl : p.length = n) (hn : n ≤ 6) (hM : M.length = n) (hr : ∀ r ∈ M, r.length = n ∧ ∀ x ∈ r, Bd 60 x) : ∀ x ∈ stepL M p, Bd (2 + 6 * (K + 61)) x := by
  intro x hx
  unfold stepL at hx
  obtain ⟨k, hk, rfl⟩ := List.mem_map.1 hx
  rw [hpl] at hk ⊢
  have hmul : n * (K + 61) ≤ 6 * (K + 61) := Nat.mul_le_mul_right _ hn
  exact (stT_bd hp hpl hM hr (List.mem_range.1 hk) n (Nat.le_refl _)).mono (by omega)
theorem iterL_bd {M : List (List Rat)} {p : List Rat} {n : Nat} (hp : ∀ x ∈ p, Bd 60 x) (hpl : p.length = n) (hn : n ≤ 6) (hM : M.length = n) (hr : ∀ r ∈ M, r.length = n ∧ ∀ x ∈ r, Bd 60 x) : ∀ j, ∀ x ∈ iterL M p j, Bd (Kb j) x
  | 0 => hp
  | j + 1 => stepL_bd (iterL_bd hp hpl hn hM hr j) (by rw [iterL_len, hpl]) hn hM hr
theorem Kb_le : ∀ j, j ≤ 3 → Kb j ≤ 1000000 := by decide

noncomputable def b50 : Code := Try.f50.body.getD .skip
noncomputable def B50_0 : Code := (bodyC (bodyC (sndC (fstC (sndC (sndC (sndC b50)))))))
noncomputable def K50_0 : List It := .lp B50_0 :: .blk 0 :: .code (sndC (sndC (sndC (sndC b50)))) :: []
theorem xl50_0 {fi : FI} {env : Env} {σ : St} : exI TT fi K50_0 env σ = exI TT fi (.code B50_0 :: K50_0) env σ := by unfold K50_0; exact xI_lp
noncomputable def R50_0_0 : List It := .code (sndC (sndC (sndC (sndC b50)))) :: []
theorem eK50_0_0 : exitA 0 K50_0 = some R50_0_0 := rfl
set_option maxHeartbeats 4000000 in
theorem s50 (m n i : Nat) (s : Int) (rows cells c2 : List AV) (σ : St) (hi : (i : Int) < s) (c1 : callI TT 121 [.lst m rows, .lst n cells] σ = some (.lst n c2, σ)) (hw : wrapA .i64 ((i : Int) + 1) = (i : Int) + 1) :
    exI TT (FI.of Try.f50 (TT.an 50)) K50_0 [(8, .lst m rows), (9, .lst n cells), (35, .int .i64 s), (36, .int .i64 i)] σ = exI TT (FI.of Try.f50 (TT.an 50)) K50_0 [(8, .lst m rows), (9, .lst n c2), (35, .int .i64 s), (36, .int .i64 ((i : Int) + 1))] σ := by
  rw [fi50]
  conv => lhs; rw [xl50_0]
  simp only [B50_0, b50, Try.f50, Option.getD, fstC, sndC, bodyC, thnC, elsC]
  simp (maxSteps := 1000000) (disch := omega) [eK50_0_0, getCells, takeN, dropN, fieldAddrA, allOne, AV.one, n_push, putN, overN, blt_dec, buildA, sizesOf, fillA, putCells, List.take_succ_cons, List.take_zero, List.drop_succ_cons, List.drop_zero, List.nil_append, List.cons_append, List.length_cons, List.length_nil, eqvs_dgs, convA, hi, c1, hw]
set_option maxHeartbeats 4000000 in
theorem e50 (m n i k : Nat) (s : Int) (rows cells c2 : List AV) (z : Bool) (σ : St) (hi : s = i) (c1 : callI TT 122 [.lst n cells] σ = some (.tup [.lst k c2, .bool z], σ)) :
    exI TT (FI.of Try.f50 (TT.an 50)) K50_0 [(8, .lst m rows), (9, .lst n cells), (35, .int .i64 s), (36, .int .i64 i)] σ = some (.tup [.lst k c2, .bool z], σ) := by
  rw [fi50]
  conv => lhs; rw [xl50_0]
  simp only [B50_0, b50, Try.f50, Option.getD, fstC, sndC, bodyC, thnC, elsC]
  simp (maxSteps := 1000000) (disch := omega) [eK50_0_0, getCells, takeN, dropN, fieldAddrA, allOne, AV.one, n_push, putN, overN, blt_dec, buildA, sizesOf, fillA, putCells, List.take_succ_cons, List.take_zero, List.drop_succ_cons, List.drop_zero, List.nil_append, List.cons_append, List.length_cons, List.length_nil, eqvs_dgs, convA, hi, c1]
  simp only [R50_0_0, b50, Try.f50, Option.getD, fstC, sndC, bodyC, thnC, elsC]
  simp (maxSteps := 1000000) (disch := omega) [eK50_0_0, getCells, takeN, dropN, fieldAddrA, allOne, AV.one, n_push, putN, overN, blt_dec, buildA, sizesOf, fillA, putCells, List.take_succ_cons, List.take_zero, List.drop_succ_cons, List.drop_zero, List.nil_append, List.cons_append, List.length_cons, List.length_nil, eqvs_dgs, convA, hi, c1]
set_option maxHeartbeats 4000000 in
theorem b50e (n : Nat) (s : Int) (c d rows ps : List AV) (σ0 : St) (h0 : (⟨[], 0⟩ : St).push ⟨[.lst n c], 1, false⟩ = σ0) (l0 : cellsAt σ0 (.ptr 0 0) 1 = some [.lst n c]) (c1 : callI TT 22 [.agg [.lst n c]] σ0 = some (.bool true, σ0)) (c2 : callI TT 67 [.lst n d] σ0 = some (.bool true, σ0)) (c3 : callI TT 63 [.int .i64 s, .int .i64 0, .int .i64 30] σ0 = some (.bool true, σ0)) (c4 : callI TT 90 [.agg [.lst n c]] σ0 = some (.lst n rows, σ0)) (c5 : callI TT 79 [.lst n d] σ0 = some (.lst n ps, σ0)) :
    exI TT (FI.of Try.f50 (TT.an 50)) [.code b50] (paramsE 0 [.agg [.lst n c], .lst n d, .int .i64 s]) ⟨[], 0⟩ = exI TT (FI.of Try.f50 (TT.an 50)) K50_0 [(8, .lst n rows), (9, .lst n ps), (35, .int .i64 s), (36, .int .i64 0)] σ0 := by
  rw [fi50]
  simp only [b50, Try.f50, Option.getD, fstC, sndC, bodyC, thnC, elsC]
  simp (maxSteps := 1000000) (disch := omega) [eK50_0_0, getCells, takeN, dropN, fieldAddrA, allOne, AV.one, n_push, putN, overN, blt_dec, buildA, sizesOf, fillA, putCells, List.take_succ_cons, List.take_zero, List.drop_succ_cons, List.drop_zero, List.nil_append, List.cons_append, List.length_cons, List.length_nil, eqvs_dgs, convA, h0, l0, c1, c2, c3, c4, c5]
  rfl
theorem l50 (M : List (List Rat)) (p : List Rat) (n : Nat) (h1 : 1 ≤ n) (hn : n ≤ 6) (hpl : p.length = n) (hp : ∀ x ∈ p, Bd 60 x) (hM : M.length = n) (hr : ∀ r ∈ M, r.length = n ∧ ∀ x ∈ r, Bd 60 x) (s : Nat) (hs : s ≤ 3) (hf : ∀ x ∈ iterL M p s, fits x = true) (σ : St) : ∀ (m i : Nat), i + m = s →
    exI TT (FI.of Try.f50 (TT.an 50)) K50_0 [(8, RSS M), (9, RS (iterL M p i)), (35, .int .i64 s), (36, .int .i64 i)] σ = some (.tup [FS (frL (iterL M p s)), .bool true], σ) := by
  intro m
  induction m with
  | zero =>
    intro i hi
    obtain rfl : i = s := by omega
    exact e50 _ _ i _ i _ _ _ true σ rfl ((r122 _ hf (by rw [iterL_len]; omega)).pure σ rfl rfl)
  | succ m ih =>
    intro i hi
    have h := ih (i + 1) (by omega)
    have hi1 : ((i + 1 : Nat) : Int) = (i : Int) + 1 := by omega
    rw [hi1] at h
    rw [← h]
    have hl : (iterL M p i).length = n := by rw [iterL_len, hpl]
    have c1 := (r121 M (iterL M p i) n (Kb i) h1 hn (Kb_le i (by omega)) hl (iterL_bd hp hpl hn hM hr i) hM hr).pure σ rfl rfl
    have e1 : RS (iterL M p i) = .lst n (flat RC (iterL M p i)) := by rw [RS, hl]
    have e2 : RS (iterL M p (i + 1)) = .lst n (flat RC (iterL M p (i + 1))) := by rw [RS, iterL_len, hpl]
    rw [show stepL M (iterL M p i) = iterL M p (i + 1) from rfl, e1, e2] at c1
    rw [e1, e2]
    exact s50 _ n i s _ _ _ σ (by omega) c1 (wrapA_id (by omega) (by omega))
theorem r50 (ls : List (List (Int × Int))) (l : List (Int × Int)) (hw : isWk ls = true) (hc : isCh l = true) (hl : l.length = ls.length) (s : Nat) (hs : s ≤ 3) (hf : ∀ x ∈ iterL (rqs ls) (l.map rq) s, fits x = true) : FnF TT 50 [.agg [FSS ls], FS l, .int .i64 s] (.tup [FS (frL (iterL (rqs ls) (l.map rq) s)), .bool true]) := by
  obtain ⟨h1, h2, h3⟩ := isWk_b hw
  obtain ⟨a1, a2, a3, _, _⟩ := isCh_b hc
  have hr6 := rqs_rows hw
  have hM : (rqs ls).length = ls.length := by simp [rqs]
  have hx : Bx ((⟨[], 0⟩ : St).push ⟨[FSS ls], 1, false⟩) 0 [FSS ls] := Bx.push
  have hrl : ∀ r ∈ ls, r.length ≤ 10000000 := fun r hr => by have := (h3 r hr).1; omega
  have c1 := r22 ls hrl ((⟨[], 0⟩ : St).push ⟨[FSS ls], 1, false⟩) [.agg [FSS ls]] rfl
  have c2 := r67 l (by omega) ((⟨[], 0⟩ : St).push ⟨[FSS ls], 1, false⟩) [FS l] rfl
  rw [hw] at c1
  rw [hc] at c2
  have c3 := v63 s 0 30 ((⟨[], 0⟩ : St).push ⟨[FSS ls], 1, false⟩) [.int .i64 s, .int .i64 0, .int .i64 30] rfl
  have e3 : (decide ((0 : Int) ≤ (s : Int)) && decide ((s : Int) ≤ 30)) = true := by rw [decide_eq_true (by omega), decide_eq_true (by omega)]; rfl
  rw [e3] at c3
  have c4 := (r90 ls (fun r hr => ⟨(isCh_b (h3 r hr).2).2.2.1, by have := (h3 r hr).1; omega⟩) (by omega)).pure ((⟨[], 0⟩ : St).push ⟨[FSS ls], 1, false⟩) rfl rfl
  have c5 := (r79 l a3 (by omega)).pure ((⟨[], 0⟩ : St).push ⟨[FSS ls], 1, false⟩) rfl rfl
  have k1 := l50 (rqs ls) (l.map rq) ls.length h1 h2 (by simp [hl]) (rq_bds a3) hM (fun r hr => ⟨by rw [(hr6.2 r hr).1, hM], (hr6.2 r hr).2⟩) s hs hf ((⟨[], 0⟩ : St).push ⟨[FSS ls], 1, false⟩) s 0 (by omega)
  have e4 : FS l = .lst ls.length (flat FC l) := by rw [FS, hl]
  have e5 : RSS (rqs ls) = .lst ls.length (flat R1 (rqs ls)) := by rw [RSS, hM]
  have e6 : RS (l.map rq) = .lst ls.length (flat RC (l.map rq)) := by simp [RS, hl]
  rw [e4] at c2 c5 ⊢
  rw [e5] at c4 k1
  rw [e6] at c5
  rw [show iterL (rqs ls) (l.map rq) 0 = l.map rq from rfl, e6] at k1
  exact FnF.mkv (c := b50) fn50 rfl md50 ⟨_, (b50e _ _ _ _ _ _ _ rfl (hx.rd rfl) c1 c2 c3 c4 c5).trans k1⟩ (fun _ => rfl)

set_option maxHeartbeats 4000000 in
theorem k49 (n m k : Nat) (c d e : List AV) (z : Bool) (c1 : ∀ σ, callI TT 50 [.agg [.lst n c], .lst m d, .int .i64 1] σ = some (.tup [.lst k e, .bool z], σ)) :
    ∃ σ', exI TT (FI.of Try.f49 (TT.an 49)) [.code (Try.f49.body.getD .skip)] (paramsE 0 [.agg [.lst n c], .lst m d]) ⟨[], 0⟩ = some (.tup [.lst k e, .bool z], σ') := by
  refine ex1 ?_
  rw [fi49]
  simp only [Try.f49, Option.getD]
  simp (maxSteps := 1000000) (disch := omega) [cellsAt, getCells, takeN, dropN, fieldAddrA, allOne, AV.one, n_push, storeCellsA, putN, overN, St.push, St.get, St.set, hget, hset, blt_dec, buildA, sizesOf, fillA, putCells, List.take_succ_cons, List.take_zero, List.drop_succ_cons, List.drop_zero, List.nil_append, List.cons_append, List.length_cons, List.length_nil, eqvs_dgs, convA, c1]
theorem r49 (ls : List (List (Int × Int))) (l : List (Int × Int)) (hw : isWk ls = true) (hc : isCh l = true) (hl : l.length = ls.length) (hf : ∀ x ∈ stepL (rqs ls) (l.map rq), fits x = true) : FnF TT 49 [.agg [FSS ls], FS l] (.tup [FS (frL (stepL (rqs ls) (l.map rq))), .bool true]) := by
  have c1 := r50 ls l hw hc hl 1 (by decide) hf
  exact FnF.mkv fn49 rfl md49 (k49 _ _ _ _ _ _ _ (fun σ => c1.pure σ rfl rfl)) (fun _ => rfl)

noncomputable def b124 : Code := Try.f124.body.getD .skip
noncomputable def B124_0 : Code := (bodyC (bodyC (sndC (fstC (sndC (sndC b124))))))
noncomputable def K124_0 : List It := .lp B124_0 :: .blk 0 :: .code (sndC (sndC (sndC b124))) :: []
theorem xl124_0 {fi : FI} {env : Env} {σ : St} : exI TT fi K124_0 env σ = exI TT fi (.code B124_0 :: K124_0) env σ := by unfold K124_0; exact xI_lp
noncomputable def R124_0_0 : List It := .code (sndC (sndC (sndC b124))) :: []
theorem eK124_0_0 : exitA 0 K124_0 = some R124_0_0 := rfl
set_option maxHeartbeats 4000000 in
theorem s124 (n i : Nat) (cells : List AV) (v1 v2 x1 x2 t1 t2 : Int) (σ σ1 σ2 : St) (hi : i < n) (l4 : cellsAt σ (.ptr 1 0) 2 = some [.int .i64 v1, .int .i64 v2]) (g1 : cellsAt σ (.lp cells (i * 2)) 2 = some [.int .i64 x1, .int .i64 x2]) (c1 : ∀ σ, callI TT 103 [.agg [.int .i64 v1, .int .i64 v2], .agg [.int .i64 x1, .int .i64 x2]] σ = some (.tup [.agg [.int .i64 t1, .int .i64 t2], .bool true], σ)) (s1 : storeCellsA (σ.push ⟨[.int .i64 0, .int .i64 0], 2, false⟩) σ.n 0 [.int .i64 t1, .int .i64 t2] = some σ1) (l6 : cellsAt σ1 (.ptr σ.n 0) 2 = some [.int .i64 t1, .int .i64 t2]) (s2 : storeCellsA σ1 1 0 [.int .i64 t1, .int .i64 t2] = some σ2) (hw : wrapA .i64 ((i : Int) + 1) = (i : Int) + 1) :
    exI TT (FI.of Try.f124 (TT.an 124)) K124_0 [(0, .lst n cells), (2, .ptr 0 0), (4, .ptr 1 0), (5, .int .i64 i)] σ = exI TT (FI.of Try.f124 (TT.an 124)) K124_0 [(0, .lst n cells), (2, .ptr 0 0), (4, .ptr 1 0), (5, .int .i64 ((i : Int) + 1))] σ2 := by
  rw [fi124]
  conv => lhs; rw [xl124_0]
  simp only [B124_0, b124, Try.f124, Option.getD, fstC, sndC, bodyC, thnC, elsC]
  simp (maxSteps := 1000000) (disch := omega) [eK124_0_0, getCells, takeN, dropN, fieldAddrA, allOne, AV.one, n_push, putN, overN, blt_dec, buildA, sizesOf, fillA, putCells, List.take_succ_cons, List.take_zero, List.drop_succ_cons, List.drop_zero, List.nil_append, List.cons_append, List.length_cons, List.length_nil, eqvs_dgs, convA, hi, l4, g1, c1, s1, l6, s2, hw]
set_option maxHeartbeats 4000000 in
theorem e124 (n : Nat) (cells : List AV) (v1 v2 : Int) (σ σ1 : St) (l4 : cellsAt σ (.ptr 1 0) 2 = some [.int .i64 v1, .int .i64 v2]) (s1 : storeCellsA σ 0 0 [.int .i64 v1, .int .i64 v2] = some σ1) (l2 : cellsAt σ1 (.ptr 0 0) 2 = some [.int .i64 v1, .int .i64 v2]) :
    exI TT (FI.of Try.f124 (TT.an 124)) K124_0 [(0, .lst n cells), (2, .ptr 0 0), (4, .ptr 1 0), (5, .int .i64 n)] σ = some (.tup [.agg [.int .i64 v1, .int .i64 v2], .bool true], σ1) := by
  rw [fi124]
  conv => lhs; rw [xl124_0]
  simp only [B124_0, b124, Try.f124, Option.getD, fstC, sndC, bodyC, thnC, elsC]
  simp (maxSteps := 1000000) (disch := omega) [eK124_0_0, getCells, takeN, dropN, fieldAddrA, allOne, AV.one, n_push, putN, overN, blt_dec, buildA, sizesOf, fillA, putCells, List.take_succ_cons, List.take_zero, List.drop_succ_cons, List.drop_zero, List.nil_append, List.cons_append, List.length_cons, List.length_nil, eqvs_dgs, convA, l4, s1, l2]
  simp only [R124_0_0, b124, Try.f124, Option.getD, fstC, sndC, bodyC, thnC, elsC]
  simp (maxSteps := 1000000) (disch := omega) [eK124_0_0, getCells, takeN, dropN, fieldAddrA, allOne, AV.one, n_push, putN, overN, blt_dec, buildA, sizesOf, fillA, putCells, List.take_succ_cons, List.take_zero, List.drop_succ_cons, List.drop_zero, List.nil_append, List.cons_append, List.length_cons, List.length_nil, eqvs_dgs, convA, l4, s1, l2]
set_option maxHeartbeats 4000000 in
theorem b124e (n : Nat) (cells : List AV) (σ0 σ1 : St) (h0 : (⟨[], 0⟩ : St).push ⟨[.int .i64 0, .int .i64 0], 2, false⟩ = σ0) (hn : σ0.n = 1) (s1 : storeCellsA (σ0.push ⟨[.int .i64 0, .int .i64 0], 2, false⟩) 1 0 [.int .i64 0, .int .i64 1] = some σ1) :
    exI TT (FI.of Try.f124 (TT.an 124)) [.code b124] (paramsE 0 [.lst n cells]) ⟨[], 0⟩ = exI TT (FI.of Try.f124 (TT.an 124)) K124_0 [(0, .lst n cells), (2, .ptr 0 0), (4, .ptr 1 0), (5, .int .i64 0)] σ1 := by
  rw [fi124]
  simp only [b124, Try.f124, Option.getD, fstC, sndC, bodyC, thnC, elsC]
  simp (maxSteps := 1000000) (disch := omega) [eK124_0_0, getCells, takeN, dropN, fieldAddrA, allOne, AV.one, n_push, putN, overN, blt_dec, buildA, sizesOf, fillA, putCells, List.take_succ_cons, List.take_zero, List.drop_succ_cons, List.drop_zero, List.nil_append, List.cons_append, List.length_cons, List.length_nil, eqvs_dgs, convA, h0, hn, s1]
  rfl
theorem l124 (ps : List Rat) (hf : ∀ x ∈ ps, fits x = true) (hs : ps.length ≤ 1000) (hp : ∀ i, i ≤ ps.length → fits (sumI (atL ps) i) = true) : ∀ (m i : Nat) (σ : St), i + m = ps.length → Bx σ 1 (QC (sumI (atL ps) i)) → (∃ z, Bx σ 0 z ∧ z.length = 2) →
    ∃ σ', exI TT (FI.of Try.f124 (TT.an 124)) K124_0 [(0, FS (frL ps)), (2, .ptr 0 0), (4, .ptr 1 0), (5, .int .i64 i)] σ = some (.tup [.agg (QC (sumI (atL ps) ps.length)), .bool true], σ') := by
  intro m
  have e1 : FS (frL ps) = .lst ps.length (flat FC (frL ps)) := by rw [FS, frL_len]
  induction m with
  | zero =>
    intro i σ hi hb hz
    obtain rfl : i = ps.length := by omega
    obtain ⟨z, hz, hzl⟩ := hz
    obtain ⟨σ1, a1, a2, a3⟩ := hz.st (ws := QC (sumI (atL ps) ps.length)) (by rw [hzl]; rfl) rfl
    rw [e1]
    exact ⟨σ1, e124 ps.length _ _ _ σ σ1 (hb.rd rfl) a1 (a2.rd rfl)⟩
  | succ m ih =>
    intro i σ hi hb hz
    have hil : i < ps.length := by omega
    have hx := hf _ (List.getElem_mem hil)
    have hi1 : ((i + 1 : Nat) : Int) = (i : Int) + 1 := by omega
    have hat : atL ps i = ps[i] := getD_of hil
    have hs1 : sumI (atL ps) i + ps[i] = sumI (atL ps) (i + 1) := by rw [sumI, hat]
    have c1 := fun σ => add_c (hp i (by omega)) hx (by rw [hs1]; exact hp (i + 1) hil) σ
    rw [hs1] at c1
    obtain ⟨σ1, a1, a2, a3, a4⟩ := new_box (σ := σ) (z := [.int .i64 0, .int .i64 0]) (x := QC (sumI (atL ps) (i + 1))) (m := 2) rfl rfl
    have p1 := hb.lt
    obtain ⟨σ2, d1, d2, d3⟩ := (hb.old a3).st (ws := QC (sumI (atL ps) (i + 1))) rfl rfl
    obtain ⟨z, hz, hzl⟩ := hz
    obtain ⟨σ', k1⟩ := ih (i + 1) σ2 (by omega) d2 ⟨z, (hz.old a3).but (by decide) d3, hzl⟩
    rw [hi1] at k1
    refine ⟨σ', ?_⟩
    rw [← k1, e1]
    have hfi : i < (frL ps).length := by rw [frL_len]; exact hil
    have g1 := FS_get hfi σ
    have hge : (frL ps)[i] = ((ps[i]).num, ((ps[i]).den : Int)) := by simp [frL]
    rw [hge] at g1
    exact s124 ps.length i _ _ _ _ _ _ _ σ σ1 σ2 hil (hb.rd rfl) g1 c1 a1 (a2.rd rfl) d1 (wrapA_id (by omega) (by omega))
theorem r124 (ps : List Rat) (hf : ∀ x ∈ ps, fits x = true) (hs : ps.length ≤ 1000) (hp : ∀ i, i ≤ ps.length → fits (sumI (atL ps) i) = true) : FnV TT 124 [FS (frL ps)] (.tup [.agg (QC (sumI (atL ps) ps.length)), .bool true]) := by
  have hx0 : Bx ((⟨[], 0⟩ : St).push ⟨[.int .i64 0, .int .i64 0], 2, false⟩) 0 [.int .i64 0, .int .i64 0] := Bx.push
  obtain ⟨σ1, a1, a2, a3, a4⟩ := new_box (σ := (⟨[], 0⟩ : St).push ⟨[.int .i64 0, .int .i64 0], 2, false⟩) (z := [.int .i64 0, .int .i64 0]) (x := QC 0) (m := 2) rfl rfl
  obtain ⟨σ', k1⟩ := l124 ps hf hs hp ps.length 0 σ1 (by omega) a2 ⟨_, hx0.old a3, rfl⟩
  exact FnV.mk (c := b124) fn124 rfl md124 ⟨σ', (b124e _ _ _ σ1 rfl rfl a1).trans k1⟩ (fun _ => rfl) rfl
theorem frL_vfl {ps : List Rat} (hf : ∀ x ∈ ps, fits x = true) : vfl (frL ps) = true := by
  simp only [vfl, List.all_eq_true]
  intro x hx
  obtain ⟨y, hy, rfl⟩ := List.mem_map.1 hx
  exact vfr_of (hf y hy)

set_option maxHeartbeats 4000000 in
theorem k51 (n : Nat) (c : List AV) (t1 t2 : Int) (hn : n ≤ 64) (c1 : ∀ σ, callI TT 123 [.lst n c] σ = some (.bool true, σ)) (c2 : ∀ σ, callI TT 124 [.lst n c] σ = some (.tup [.agg [.int .i64 t1, .int .i64 t2], .bool true], σ)) :
    ∃ σ', exI TT (FI.of Try.f51 (TT.an 51)) [.code (Try.f51.body.getD .skip)] (paramsE 0 [.lst n c]) ⟨[], 0⟩ = some (.tup [.agg [.int .i64 t1, .int .i64 t2], .bool true], σ') := by
  refine ex1 ?_
  rw [fi51]
  simp only [Try.f51, Option.getD]
  simp (maxSteps := 1000000) (disch := omega) [cellsAt, getCells, takeN, dropN, fieldAddrA, allOne, AV.one, n_push, storeCellsA, putN, overN, St.push, St.get, St.set, hget, hset, blt_dec, buildA, sizesOf, fillA, putCells, List.take_succ_cons, List.take_zero, List.drop_succ_cons, List.drop_zero, List.nil_append, List.cons_append, List.length_cons, List.length_nil, eqvs_dgs, convA, hn, c1, c2]
theorem r51 (ps : List Rat) (hf : ∀ x ∈ ps, fits x = true) (hs : ps.length ≤ 64) (hp : ∀ i, i ≤ ps.length → fits (sumI (atL ps) i) = true) : FnV TT 51 [FS (frL ps)] (.tup [.agg (QC (sumI (atL ps) ps.length)), .bool true]) := by
  have c1 := fun σ => r123 (frL ps) (by rw [frL_len]; omega) σ [FS (frL ps)] rfl
  rw [frL_vfl hf] at c1
  have c2 := fun σ => r124 ps hf (by omega) hp σ [FS (frL ps)] rfl
  exact FnV.mk fn51 rfl md51 (k51 _ _ _ _ (by rw [frL_len]; exact hs) c1 c2) (fun _ => rfl) rfl

noncomputable def b52 : Code := Try.f52.body.getD .skip
noncomputable def B52_0 : Code := (bodyC (bodyC (sndC (fstC (sndC (sndC b52))))))
noncomputable def K52_0 : List It := .lp B52_0 :: .blk 0 :: .code (sndC (sndC (sndC b52))) :: []
theorem xl52_0 {fi : FI} {env : Env} {σ : St} : exI TT fi K52_0 env σ = exI TT fi (.code B52_0 :: K52_0) env σ := by unfold K52_0; exact xI_lp
noncomputable def R52_0_0 : List It := .code (sndC (sndC (sndC b52))) :: []
theorem eK52_0_0 : exitA 0 K52_0 = some R52_0_0 := rfl
set_option maxHeartbeats 4000000 in
theorem s52 (n i : Nat) (cells : List AV) (x1 x2 : Int) (σ : St) (hi : i < n) (g1 : cellsAt σ (.lp cells (i * 2)) 2 = some [.int .i64 x1, .int .i64 x2]) (hw : wrapA .i64 ((i : Int) + 1) = (i : Int) + 1) :
    exI TT (FI.of Try.f52 (TT.an 52)) K52_0 [(0, .lst n cells), (1, .lst n cells), (5, .int .i64 i)] σ = exI TT (FI.of Try.f52 (TT.an 52)) K52_0 [(0, .lst n cells), (1, .lst n cells), (5, .int .i64 ((i : Int) + 1))] σ := by
  rw [fi52]
  conv => lhs; rw [xl52_0]
  simp only [B52_0, b52, Try.f52, Option.getD, fstC, sndC, bodyC, thnC, elsC]
  simp (maxSteps := 1000000) (disch := omega) [eK52_0_0, getCells, takeN, dropN, fieldAddrA, allOne, AV.one, n_push, putN, overN, blt_dec, buildA, sizesOf, fillA, putCells, List.take_succ_cons, List.take_zero, List.drop_succ_cons, List.drop_zero, List.nil_append, List.cons_append, List.length_cons, List.length_nil, eqvs_dgs, convA, binNil, eqNil, eqStr, eqFs, Bool.and_self, Bool.and_true, hi, g1, hw]
set_option maxHeartbeats 4000000 in
theorem e52 (n : Nat) (cells : List AV) (σ : St)  :
    exI TT (FI.of Try.f52 (TT.an 52)) K52_0 [(0, .lst n cells), (1, .lst n cells), (5, .int .i64 n)] σ = some (.bool true, σ) := by
  rw [fi52]
  conv => lhs; rw [xl52_0]
  simp only [B52_0, b52, Try.f52, Option.getD, fstC, sndC, bodyC, thnC, elsC]
  simp (maxSteps := 1000000) (disch := omega) [eK52_0_0, getCells, takeN, dropN, fieldAddrA, allOne, AV.one, n_push, putN, overN, blt_dec, buildA, sizesOf, fillA, putCells, List.take_succ_cons, List.take_zero, List.drop_succ_cons, List.drop_zero, List.nil_append, List.cons_append, List.length_cons, List.length_nil, eqvs_dgs, convA]
  simp only [R52_0_0, b52, Try.f52, Option.getD, fstC, sndC, bodyC, thnC, elsC]
  simp (maxSteps := 1000000) (disch := omega) [eK52_0_0, getCells, takeN, dropN, fieldAddrA, allOne, AV.one, n_push, putN, overN, blt_dec, buildA, sizesOf, fillA, putCells, List.take_succ_cons, List.take_zero, List.drop_succ_cons, List.drop_zero, List.nil_append, List.cons_append, List.length_cons, List.length_nil, eqvs_dgs, convA]
set_option maxHeartbeats 4000000 in
theorem b52e (n : Nat) (cells : List AV) (σ : St)  :
    exI TT (FI.of Try.f52 (TT.an 52)) [.code b52] (paramsE 0 [.lst n cells, .lst n cells]) σ = exI TT (FI.of Try.f52 (TT.an 52)) K52_0 [(0, .lst n cells), (1, .lst n cells), (5, .int .i64 0)] σ := by
  rw [fi52]
  simp only [b52, Try.f52, Option.getD, fstC, sndC, bodyC, thnC, elsC]
  simp (maxSteps := 1000000) (disch := omega) [eK52_0_0, getCells, takeN, dropN, fieldAddrA, allOne, AV.one, n_push, putN, overN, blt_dec, buildA, sizesOf, fillA, putCells, List.take_succ_cons, List.take_zero, List.drop_succ_cons, List.drop_zero, List.nil_append, List.cons_append, List.length_cons, List.length_nil, eqvs_dgs, convA]
  rfl
theorem l52 (l : List (Int × Int)) (hs : l.length ≤ 1000) (σ : St) : ∀ (m i : Nat), i + m = l.length → exI TT (FI.of Try.f52 (TT.an 52)) K52_0 [(0, FS l), (1, FS l), (5, .int .i64 i)] σ = some (.bool true, σ) := by
  intro m
  induction m with
  | zero =>
    intro i hi
    obtain rfl : i = l.length := by omega
    exact e52 _ _ σ
  | succ m ih =>
    intro i hi
    have hil : i < l.length := by omega
    have h := ih (i + 1) (by omega)
    have hi1 : ((i + 1 : Nat) : Int) = (i : Int) + 1 := by omega
    rw [hi1] at h
    rw [← h]
    exact s52 l.length i (flat FC l) _ _ σ hil (FS_get hil σ) (wrapA_id (by omega) (by omega))
theorem r52 (l : List (Int × Int)) (hs : l.length ≤ 1000) : FnV TT 52 [FS l, FS l] (.bool true) :=
  FnV.mk (c := b52) fn52 rfl md52 ⟨⟨[], 0⟩, (b52e _ _ _).trans (l52 l hs ⟨[], 0⟩ l.length 0 (by omega))⟩ (fun _ => rfl) rfl

theorem sumI_congr {f g : Nat → Rat} : ∀ {n : Nat}, (∀ i, i < n → f i = g i) → sumI f n = sumI g n
  | 0, _ => rfl
  | n + 1, h => by rw [sumI, sumI, sumI_congr fun i hi => h i (by omega), h n (by omega)]
theorem sumI_add {f g : Nat → Rat} : ∀ n : Nat, sumI (fun i => f i + g i) n = sumI f n + sumI g n
  | 0 => by show (0 : Rat) = 0 + 0; grind
  | n + 1 => by rw [sumI, sumI, sumI, sumI_add n]; grind
theorem sumI_sub {f g : Nat → Rat} : ∀ n : Nat, sumI (fun i => f i - g i) n = sumI f n - sumI g n
  | 0 => by simp [sumI]; grind
  | n + 1 => by rw [sumI, sumI, sumI, sumI_sub n]; grind
theorem sumI_mul {f : Nat → Rat} {c : Rat} : ∀ n : Nat, sumI (fun i => c * f i) n = c * sumI f n
  | 0 => by simp [sumI]
  | n + 1 => by rw [sumI, sumI, sumI_mul n]; grind
theorem sumI_mulr {f : Nat → Rat} {c : Rat} (n : Nat) : sumI (fun i => f i * c) n = sumI f n * c := by
  rw [sumI_congr (g := fun i => c * f i) fun i _ => Rat.mul_comm _ _, sumI_mul, Rat.mul_comm]
theorem sumI_le {f g : Nat → Rat} : ∀ {n : Nat}, (∀ i, i < n → f i ≤ g i) → sumI f n ≤ sumI g n
  | 0, _ => Rat.le_refl
  | n + 1, h => by
    have h1 := sumI_le (n := n) fun i hi => h i (by omega)
    have h2 := h n (by omega)
    rw [sumI, sumI]; grind
theorem sumI_zero {f : Nat → Rat} {n : Nat} (h : ∀ i, i < n → f i = 0) : sumI f n = 0 := by
  rw [sumI_congr (g := fun _ => 0) h]
  induction n with
  | zero => rfl
  | succ n ih => rw [sumI, ih fun i hi => h i (by omega)]; grind
theorem sumI_nonneg {f : Nat → Rat} {n : Nat} (h : ∀ i, i < n → 0 ≤ f i) : 0 ≤ sumI f n := by
  have := sumI_le (f := fun _ => 0) (g := f) (n := n) h
  rw [sumI_zero fun _ _ => rfl] at this
  exact this
theorem sumI_one_le {f : Nat → Rat} {n : Nat} (h : ∀ i, i < n → 0 ≤ f i) {i : Nat} (hi : i < n) : f i ≤ sumI f n := by
  induction n with
  | zero => omega
  | succ n ih =>
    rw [sumI]
    have h1 := sumI_nonneg (f := f) (n := n) fun i hi => h i (by omega)
    have h2 := h n (by omega)
    rcases Nat.lt_or_ge i n with h3 | h3
    · have := ih (fun i hi => h i (by omega)) h3; grind
    · have : i = n := by omega
      subst this; grind
theorem sumI_comm {f : Nat → Nat → Rat} {m : Nat} : ∀ n : Nat, sumI (fun i => sumI (fun k => f i k) m) n = sumI (fun k => sumI (fun i => f i k) n) m
  | 0 => by rw [sumI_zero (f := fun k => sumI (fun i => f i k) 0) fun _ _ => rfl]; rfl
  | n + 1 => by
    rw [sumI, sumI_comm n, ← sumI_add]
    exact sumI_congr fun k _ => rfl
theorem abs_le {a b : Rat} (h1 : a ≤ b) (h2 : -a ≤ b) : a.abs ≤ b := by
  rcases Rat.le_total (a := 0) (b := a) with h | h
  · rw [Rat.abs_of_nonneg h]; exact h1
  · rw [Rat.abs_of_nonpos h]; exact h2
theorem le_abs (a : Rat) : a ≤ a.abs ∧ -a ≤ a.abs := by
  rcases Rat.le_total (a := 0) (b := a) with h | h
  · rw [Rat.abs_of_nonneg h]; grind
  · rw [Rat.abs_of_nonpos h]; grind
theorem sumI_abs {f : Nat → Rat} (n : Nat) : (sumI f n).abs ≤ sumI (fun i => (f i).abs) n := by
  refine abs_le (sumI_le fun i _ => (le_abs _).1) ?_
  have : -sumI f n = sumI (fun i => -1 * f i) n := by rw [sumI_mul]; grind
  rw [this]
  exact sumI_le fun i _ => by have := (le_abs (f i)).2; grind
theorem abs_mul_pos {c a : Rat} (hc : 0 ≤ c) : (c * a).abs = c * a.abs := by
  rcases Rat.le_total (a := 0) (b := a) with h | h
  · rw [Rat.abs_of_nonneg h, Rat.abs_of_nonneg (Rat.mul_nonneg hc h)]
  · rw [Rat.abs_of_nonpos h]
    have : 0 ≤ c * -a := Rat.mul_nonneg hc (by grind)
    rw [Rat.abs_of_nonpos (by grind)]; grind
/-- Dobrushin: no step makes a distance greater than the contraction allows. -/
theorem dobrushin (n : Nat) (d : Nat → Rat) (M : Nat → Nat → Rat) (c : Rat) (hc : 0 ≤ c) (h0 : sumI d n = 0) (hM : ∀ i j, i < n → j < n → sumI (fun k => (M i k - M j k).abs) n ≤ 2 * c) :
    sumI (fun k => (sumI (fun i => d i * M i k) n).abs) n ≤ c * sumI (fun i => (d i).abs) n := by
  let P : Nat → Rat := fun i => (d i + (d i).abs) / 2
  let Q : Nat → Rat := fun i => ((d i).abs - d i) / 2
  have hP : ∀ i, 0 ≤ P i := fun i => by have := (le_abs (d i)).2; show 0 ≤ (d i + (d i).abs) / 2; grind
  have hQ : ∀ i, 0 ≤ Q i := fun i => by have := (le_abs (d i)).1; show 0 ≤ ((d i).abs - d i) / 2; grind
  have hd : ∀ i, d i = P i - Q i := fun i => by show d i = (d i + (d i).abs) / 2 - ((d i).abs - d i) / 2; grind
  have ha : ∀ i, (d i).abs = P i + Q i := fun i => by show (d i).abs = (d i + (d i).abs) / 2 + ((d i).abs - d i) / 2; grind
  have hS : sumI P n = sumI Q n := by
    have := sumI_congr (n := n) (f := d) (g := fun i => P i - Q i) fun i _ => hd i
    rw [sumI_sub, h0] at this; grind
  have hA : sumI (fun i => (d i).abs) n = 2 * sumI P n := by
    rw [sumI_congr (g := fun i => P i + Q i) fun i _ => ha i, sumI_add, ← hS]; grind
  have hS0 : 0 ≤ sumI P n := sumI_nonneg fun i _ => hP i
  generalize hs : sumI P n = S at *
  -- one column
  have col : ∀ k, S * (sumI (fun i => d i * M i k) n).abs ≤ sumI (fun i => sumI (fun j => P i * (Q j * (M i k - M j k).abs)) n) n := by
    intro k
    rw [← abs_mul_pos hS0]
    have e : S * sumI (fun i => d i * M i k) n = sumI (fun i => sumI (fun j => P i * (Q j * (M i k - M j k))) n) n := by
      have e1 : sumI (fun i => sumI (fun j => P i * (Q j * (M i k - M j k))) n) n = sumI (fun i => P i * M i k * S - P i * sumI (fun j => Q j * M j k) n) n := by
        refine sumI_congr fun i _ => ?_
        rw [sumI_mul, sumI_congr (g := fun j => Q j * M i k - Q j * M j k) fun j _ => by grind, sumI_sub, sumI_mulr, ← hS]
        grind
      rw [e1, sumI_sub, sumI_mulr, sumI_mulr, hs, sumI_congr (f := fun i => d i * M i k) (g := fun i => P i * M i k - Q i * M i k) fun i _ => by rw [hd i]; grind, sumI_sub]
      grind
    rw [e]
    refine Rat.le_trans (sumI_abs n) (sumI_le fun i _ => ?_)
    refine Rat.le_trans (sumI_abs n) (sumI_le fun j _ => ?_)
    rw [abs_mul_pos (hP i), abs_mul_pos (hQ j)]
    exact Rat.le_refl
  have all : S * sumI (fun k => (sumI (fun i => d i * M i k) n).abs) n ≤ 2 * c * (S * S) := by
    rw [← sumI_mul]
    refine Rat.le_trans (sumI_le fun k _ => col k) ?_
    rw [← sumI_comm]
    have : ∀ i, i < n → sumI (fun k => sumI (fun j => P i * (Q j * (M i k - M j k).abs)) n) n ≤ P i * (S * (2 * c)) := by
      intro i hi
      rw [← sumI_comm]
      have h2 : sumI (fun j => sumI (fun k => P i * (Q j * (M i k - M j k).abs)) n) n ≤ sumI (fun j => P i * (Q j * (2 * c))) n := by
        refine sumI_le fun j hj => ?_
        rw [sumI_mul, sumI_mul]
        exact Rat.mul_le_mul_of_nonneg_left (Rat.mul_le_mul_of_nonneg_left (hM i j hi hj) (hQ j)) (hP i)
      refine Rat.le_trans h2 ?_
      rw [sumI_mul, sumI_mulr, ← hS]
      exact Rat.le_refl
    refine Rat.le_trans (sumI_le this) ?_
    rw [sumI_mulr, hs]
    grind
  rw [hA]
  rcases Rat.le_iff_lt_or_eq.1 hS0 with h | h
  · generalize sumI (fun k => (sumI (fun i => d i * M i k) n).abs) n = T at *
    have : S * T ≤ S * (c * (2 * S)) := by grind
    exact Rat.le_of_mul_le_mul_left this h
  · have hz : ∀ i, i < n → d i = 0 := fun i hi => by
      have h1 := sumI_one_le (f := P) (fun i _ => hP i) hi
      have h2 := sumI_one_le (f := Q) (fun i _ => hQ i) hi
      have h3 := hP i
      have h4 := hQ i
      have h5 := hd i
      grind
    have : sumI (fun k => (sumI (fun i => d i * M i k) n).abs) n = 0 := sumI_zero fun k _ => by
      rw [sumI_zero fun i hi => by rw [hz i hi]; grind]; rfl
    rw [this, ← h]; grind

/-- A number of at least 0 over a denominator. -/
def Ov (D : Nat) (x : Rat) : Prop := ∃ m : Nat, x = (m : Rat) / (D : Rat)
theorem natCast_pos {D : Nat} (h : 0 < D) : (0 : Rat) < (D : Rat) := by
  have := Rat.natCast_lt_natCast.2 h
  simpa using this
theorem Ov.nonneg {D : Nat} {x : Rat} (hD : 0 < D) (h : Ov D x) : 0 ≤ x := by
  obtain ⟨m, rfl⟩ := h
  have h1 : (0 : Rat) ≤ (m : Rat) := Rat.natCast_nonneg
  have h2 := natCast_pos hD
  rw [Rat.div_def]
  exact Rat.mul_nonneg h1 (Rat.le_of_lt (Rat.inv_pos.2 h2))
theorem Ov.add {D : Nat} {x y : Rat} (h1 : Ov D x) (h2 : Ov D y) : Ov D (x + y) := by
  obtain ⟨a, rfl⟩ := h1
  obtain ⟨b, rfl⟩ := h2
  exact ⟨a + b, by rw [Rat.natCast_add, Rat.div_def, Rat.div_def, Rat.div_def]; grind⟩
theorem Ov.mul {D E : Nat} {x y : Rat} (h1 : Ov D x) (h2 : Ov E y) : Ov (D * E) (x * y) := by
  obtain ⟨a, rfl⟩ := h1
  obtain ⟨b, rfl⟩ := h2
  exact ⟨a * b, by rw [Rat.natCast_mul, Rat.natCast_mul, Rat.div_def, Rat.div_def, Rat.div_def, Rat.inv_mul_rev]; grind⟩
theorem Ov.scale {D E : Nat} {x : Rat} (h : Ov D x) (hE : 0 < E) : Ov (D * E) x := by
  obtain ⟨a, rfl⟩ := h
  have := natCast_pos hE
  refine ⟨a * E, ?_⟩
  rw [Rat.natCast_mul, Rat.natCast_mul, Rat.div_def, Rat.div_def, Rat.inv_mul_rev]
  have h2 : (E : Rat) * (E : Rat)⁻¹ = 1 := Rat.mul_inv_cancel _ (by grind)
  grind
theorem Ov.zero (D : Nat) : Ov D 0 := ⟨0, by rw [Rat.div_def, show ((0 : Nat) : Rat) = 0 from rfl, Rat.zero_mul]⟩
theorem Ov.sumI {D : Nat} {f : Nat → Rat} : ∀ n : Nat, (∀ i, i < n → Ov D (f i)) → Ov D (sumI f n)
  | 0, _ => Ov.zero D
  | n + 1, h => (Ov.sumI n fun i hi => h i (by omega)).add (h n (by omega))
theorem Ov.dist {D : Nat} {x y : Rat} (h1 : Ov D x) (h2 : Ov D y) : Ov D (x - y).abs := by
  obtain ⟨a, rfl⟩ := h1
  obtain ⟨b, rfl⟩ := h2
  rcases Nat.eq_zero_or_pos D with rfl | hD
  · refine ⟨0, ?_⟩
    have : ((0 : Nat) : Rat) = 0 := rfl
    rw [this, Rat.div_def, Rat.div_def, Rat.div_def, Rat.inv_zero]
    have : ((a : Rat) * 0 - (b : Rat) * 0) = 0 := by grind
    rw [this]; simp
  have hp := natCast_pos hD
  rcases Nat.le_total a b with h | h
  · refine ⟨b - a, ?_⟩
    have e : ((b - a : Nat) : Rat) = (b : Rat) - (a : Rat) := by
      have : (((b - a) + a : Nat) : Rat) = (b : Rat) := by rw [Nat.sub_add_cancel h]
      rw [Rat.natCast_add] at this; grind
    have hn : (a : Rat) ≤ (b : Rat) := Rat.natCast_le_natCast.2 h
    have hi := Rat.inv_pos.2 hp
    rw [e, Rat.div_def, Rat.div_def, Rat.div_def]
    have : 0 ≤ ((b : Rat) - a) * (D : Rat)⁻¹ := Rat.mul_nonneg (by grind) (Rat.le_of_lt hi)
    rw [Rat.abs_of_nonpos (by grind)]; grind
  · refine ⟨a - b, ?_⟩
    have e : ((a - b : Nat) : Rat) = (a : Rat) - (b : Rat) := by
      have : (((a - b) + b : Nat) : Rat) = (a : Rat) := by rw [Nat.sub_add_cancel h]
      rw [Rat.natCast_add] at this; grind
    have hn : (b : Rat) ≤ (a : Rat) := Rat.natCast_le_natCast.2 h
    have hi := Rat.inv_pos.2 hp
    rw [e, Rat.div_def, Rat.div_def, Rat.div_def]
    have : 0 ≤ ((a : Rat) - b) * (D : Rat)⁻¹ := Rat.mul_nonneg (by grind) (Rat.le_of_lt hi)
    rw [Rat.abs_of_nonneg (by grind)]; grind
theorem Ov.mk (m D : Nat) : Ov D (mkRat (m : Int) D) := by
  refine ⟨m, ?_⟩
  rw [Rat.mkRat_eq_div]; rfl
theorem Ov.as {D : Nat} {x : Rat} (h : Ov D x) : ∃ m : Nat, x = mkRat (m : Int) D := by
  obtain ⟨m, rfl⟩ := h
  refine ⟨m, ?_⟩
  rw [Rat.mkRat_eq_div]; rfl
theorem Ov.half {D : Nat} {x : Rat} (h : Ov D x) : Ov (D * 2) (x / 2) := by
  have h2 : Ov 2 (mkRat 1 2) := Ov.mk 1 2
  have := h.mul h2
  have e : x / 2 = x * mkRat 1 2 := by rw [Rat.div_def, show (2 : Rat)⁻¹ = mkRat 1 2 by decide +kernel]
  rw [e]; exact this
theorem Ov.fits {D : Nat} {x : Rat} (h : Ov D x) (hD : 0 < D) (h1 : x ≤ 1) (hb : D ≤ 1000000000000000000) : fits x = true := by
  have hx := h
  obtain ⟨m, e⟩ := h.as
  obtain ⟨m', e'⟩ := hx
  have hm : m ≤ D := by
    have hp := natCast_pos hD
    have e2 : mkRat (m : Int) D = (m : Rat) / (D : Rat) := by rw [Rat.mkRat_eq_div]; rfl
    rw [e2] at e
    rw [e, Rat.div_def] at h1
    have : (m : Rat) ≤ (D : Rat) := by
      have h3 : (m : Rat) * (D : Rat)⁻¹ * (D : Rat) ≤ 1 * (D : Rat) := Rat.mul_le_mul_of_nonneg_right h1 (Rat.le_of_lt hp)
      have h4 : (D : Rat)⁻¹ * (D : Rat) = 1 := Rat.inv_mul_cancel _ (by grind)
      rw [Rat.mul_assoc, h4, Rat.mul_one, Rat.one_mul] at h3
      exact h3
    exact Rat.natCast_le_natCast.1 this
  have := low_num false m D (by omega)
  obtain ⟨e1, e2, _⟩ := this
  rw [e]
  refine fits_iff.2 ⟨?_, ?_⟩
  · show nm (mkRat (sg false m) D) ≤ _
    rw [nm, e1]; exact Nat.le_trans (Nat.div_le_self _ _) (by omega)
  · show (mkRat (sg false m) D).den ≤ _
    rw [e2]; exact Nat.le_trans (Nat.div_le_self _ _) hb

theorem sumI_head {f : Nat → Rat} : ∀ n : Nat, sumI f (n + 1) = f 0 + sumI (fun i => f (i + 1)) n
  | 0 => by show 0 + f 0 = f 0 + 0; grind
  | n + 1 => by rw [sumI, sumI_head n, sumI]; grind
/-- The chances of weights. -/
def wq (T : Nat) (ws : List Nat) : List Rat := ws.map fun (x : Nat) => mkRat x T
theorem chsL_frL (ws : List Nat) : chsL ws = frL (wq ws.sum ws) := by simp [chsL, frL, wq]
/-- Chances over a denominator. -/
structure ChL (n D : Nat) (p : List Rat) : Prop where
  len : p.length = n
  ov : ∀ x ∈ p, Ov D x
  sum : sumI (atL p) n = 1
theorem atL_of {p : List Rat} {i : Nat} (h : i < p.length) : atL p i = p[i] := getD_of h
theorem wq_sum (T : Nat) : ∀ ws : List Nat, sumI (atL (wq T ws)) ws.length = mkRat (ws.sum : Nat) T
  | [] => by show (0 : Rat) = mkRat 0 T; rw [Rat.zero_mkRat]
  | x :: r => by
    rw [List.length_cons, sumI_head, List.sum_cons]
    have h1 : (fun i => atL (wq T (x :: r)) (i + 1)) = atL (wq T r) := funext fun i => by simp [atL, wq]
    have h2 : atL (wq T (x :: r)) 0 = mkRat x T := by simp [atL, wq]
    rw [h1, h2, wq_sum T r]
    rcases Nat.eq_zero_or_pos T with rfl | hT
    · rw [Rat.mkRat_zero, Rat.mkRat_zero, Rat.mkRat_zero]; grind
    · rw [Rat.mkRat_eq_div, Rat.mkRat_eq_div, Rat.mkRat_eq_div, Rat.div_def, Rat.div_def, Rat.div_def]
      simp only [Int.natCast_add, Rat.intCast_add]
      grind
theorem wq_ch {n : Nat} {ws : List Nat} (h : Wts n ws) : ChL n ws.sum (wq ws.sum ws) := by
  obtain ⟨h1, h2, h3⟩ := h
  refine ⟨by simp [wq, h1], fun x hx => ?_, ?_⟩
  · obtain ⟨y, _, rfl⟩ := List.mem_map.1 hx
    exact Ov.mk y _
  · rw [← h1, wq_sum, Rat.mkRat_eq_div, Rat.div_def]
    have : ((ws.sum : Nat) : Rat) ≠ 0 := by
      have := natCast_pos h3
      grind
    exact Rat.mul_inv_cancel _ this
theorem ChL.at {n D : Nat} {p : List Rat} (h : ChL n D p) (hD : 0 < D) (i : Nat) : Ov D (atL p i) ∧ 0 ≤ atL p i := by
  by_cases hi : i < p.length
  · rw [atL_of hi]
    have := h.ov _ (List.getElem_mem hi)
    exact ⟨this, this.nonneg hD⟩
  · have : atL p i = 0 := by simp [atL, List.getD_eq_getElem?_getD, List.getElem?_eq_none (Nat.not_lt.1 hi)]
    rw [this]; exact ⟨Ov.zero D, Rat.le_refl⟩
theorem ChL.le1 {n D : Nat} {p : List Rat} (h : ChL n D p) (hD : 0 < D) : ∀ x ∈ p, x ≤ 1 := by
  intro x hx
  obtain ⟨i, hi, rfl⟩ := List.getElem_of_mem hx
  have := sumI_one_le (f := atL p) (n := n) (fun i _ => (h.at hD i).2) (show i < n by rw [← h.len]; exact hi)
  rw [h.sum, atL_of hi] at this
  exact this
theorem ChL.fits {n D : Nat} {p : List Rat} (h : ChL n D p) (hD : 0 < D) (hb : D ≤ 1000000000000000000) : ∀ x ∈ p, fits x = true := fun x hx => (h.ov x hx).fits hD (h.le1 hD x hx) hb
theorem sumI_mono {f : Nat → Rat} (h : ∀ i, 0 ≤ f i) : ∀ {a b : Nat}, a ≤ b → sumI f a ≤ sumI f b := by
  intro a b hab
  induction b with
  | zero => rw [show a = 0 by omega]; exact Rat.le_refl
  | succ b ih =>
    rcases Nat.lt_or_ge a (b + 1) with h1 | h1
    · have := ih (by omega)
      have := h b
      rw [sumI]; grind
    · rw [show a = b + 1 by omega]; exact Rat.le_refl
theorem ChL.part {n D : Nat} {p : List Rat} (h : ChL n D p) (hD : 0 < D) (hb : D ≤ 1000000000000000000) : ∀ i, i ≤ n → Go.Nm.fits (sumI (atL p) i) = true := fun i hi => by
  have h1 := sumI_mono (f := atL p) (fun i => (h.at hD i).2) hi
  rw [h.sum] at h1
  exact (Ov.sumI i fun j _ => (h.at hD j).1).fits hD h1 hb
theorem sumQ_sumI (l : List (Int × Int)) : ∀ i, i ≤ l.length → sumQ (l.take i) = sumI (atL (l.map rq)) i
  | 0, _ => by rw [List.take_zero]; rfl
  | i + 1, h => by
    rw [sumQ_succ l i h, sumQ_sumI l i (by omega), sumI, atL_of (by rw [List.length_map]; exact h)]
    simp
theorem ChL.isCh {n D : Nat} {p : List Rat} (h : ChL n D p) (h1 : 1 ≤ n) (h2 : n ≤ 16) (hD : 0 < D) (hb : D ≤ 1000000000000000000) : isCh (frL p) = true := by
  have hs := sumQ_sumI (frL p) (frL p).length (Nat.le_refl _)
  rw [List.take_of_length_le (Nat.le_refl _), frL_rq, frL_len, h.len, h.sum] at hs
  have hn : (frL p).all (fun x => decide (0 ≤ x.1)) = true := by
    rw [List.all_eq_true]
    intro x hx
    obtain ⟨y, hy, rfl⟩ := List.mem_map.1 hx
    exact decide_eq_true (Rat.num_nonneg.2 ((h.ov y hy).nonneg hD))
  unfold Go.Proofs.Ytihoeimlkbjgmaa.isCh
  rw [frL_len, h.len, decide_eq_true h1, decide_eq_true h2, frL_vfl (h.fits hD hb), hn, hs]
  rfl
/-! ### Steps -/
def prodT : List (List Nat) → Nat
  | [] => 1
  | w :: r => w.sum * prodT r
theorem prodT_dvd : ∀ {wss : List (List Nat)} {w : List Nat}, w ∈ wss → w.sum ∣ prodT wss
  | [], w, h => by cases h
  | v :: r, w, h => by
    rcases List.mem_cons.1 h with rfl | h
    · exact Nat.dvd_mul_right _ _
    · exact Nat.dvd_trans (prodT_dvd h) (Nat.dvd_mul_left _ _)
theorem prodT_b {n : Nat} (hn : n ≤ 4) : ∀ {wss : List (List Nat)}, (∀ w ∈ wss, Wts n w) → 0 < prodT wss ∧ prodT wss ≤ 16 ^ wss.length
  | [], _ => by simp [prodT]
  | w :: r, h => by
    obtain ⟨h1, h2⟩ := prodT_b hn (wss := r) fun x hx => h x (by simp [hx])
    obtain ⟨a, b, c⟩ := h w (by simp)
    have hs := b.sum
    rw [prodT, List.length_cons, Nat.pow_succ, Nat.mul_comm]
    exact ⟨Nat.mul_pos h1 c, Nat.mul_le_mul h2 (by omega)⟩
/-- Rows over one denominator. -/
structure RwL (n E : Nat) (M : List (List Rat)) : Prop where
  len : M.length = n
  row : ∀ r ∈ M, ChL n E r
theorem ChL.to {n D E : Nat} {p : List Rat} (h : ChL n D p) (hd : D ∣ E) (hE : 0 < E) : ChL n E p := by
  obtain ⟨c, rfl⟩ := hd
  exact ⟨h.len, fun x hx => (h.ov x hx).scale (Nat.pos_of_mul_pos_left hE), h.sum⟩
theorem rows_of {n : Nat} (hn : n ≤ 4) {wss : List (List Nat)} (hl : wss.length = n) (h : ∀ w ∈ wss, Wts n w) : RwL n (prodT wss) (wss.map fun w => wq w.sum w) := by
  refine ⟨by simp [hl], fun r hr => ?_⟩
  obtain ⟨w, hw, rfl⟩ := List.mem_map.1 hr
  exact (wq_ch (h w hw)).to (prodT_dvd hw) (prodT_b hn h).1
theorem RwL.at {n E : Nat} {M : List (List Rat)} (h : RwL n E M) (hE : 0 < E) {i : Nat} (hi : i < n) : (∀ k, Ov E (atM M i k) ∧ 0 ≤ atM M i k) ∧ sumI (fun k => atM M i k) n = 1 := by
  have hil : i < M.length := by rw [h.len]; exact hi
  have hr := h.row _ (List.getElem_mem hil)
  have e : ∀ k, atM M i k = atL M[i] k := fun k => by rw [atM, getD_of hil]; rfl
  refine ⟨fun k => by rw [e]; exact hr.at hE k, ?_⟩
  rw [sumI_congr (g := atL M[i]) fun k _ => e k, hr.sum]
theorem stepL_at {M : List (List Rat)} {p : List Rat} {k : Nat} (h : k < p.length) : atL (stepL M p) k = stT M p k p.length := by
  rw [atL, getD_of (by simp [stepL]; exact h)]
  simp [stepL]
theorem step_ch {n D E : Nat} {M : List (List Rat)} {p : List Rat} (hp : ChL n D p) (hM : RwL n E M) (hD : 0 < D) (hE : 0 < E) : ChL n (D * E) (stepL M p) := by
  have hl := hp.len
  refine ⟨by simp [stepL, hl], fun x hx => ?_, ?_⟩
  · unfold stepL at hx
    obtain ⟨k, hk, rfl⟩ := List.mem_map.1 hx
    rw [hl]
    exact Ov.sumI n fun i hi => (hp.at hD i).1.mul ((hM.at hE hi).1 k).1
  · rw [sumI_congr (g := fun k => sumI (fun i => atL p i * atM M i k) n) fun k hk => by rw [stepL_at (by omega), hl]; rfl, ← sumI_comm]
    rw [sumI_congr (g := atL p) fun i hi => by rw [sumI_mul, (hM.at hE hi).2]; grind]
    exact hp.sum
theorem iter_ch {n D E : Nat} {M : List (List Rat)} {p : List Rat} (hp : ChL n D p) (hM : RwL n E M) (hD : 0 < D) (hE : 0 < E) : ∀ j, ChL n (D * E ^ j) (iterL M p j)
  | 0 => by rw [Nat.pow_zero, Nat.mul_one]; exact hp
  | j + 1 => by
    have := step_ch (iter_ch hp hM hD hE j) hM (Nat.mul_pos hD (Nat.pow_pos hE)) hE
    rw [Nat.mul_assoc, ← Nat.pow_succ] at this
    exact this
/-! ### Distances -/
theorem dist_ov {n D E : Nat} {p r : List Rat} (hp : ChL n D p) (hr : ChL n E r) (hD : 0 < D) (hE : 0 < E) : Ov (D * E * 2) (distQ p r) ∧ distQ p r ≤ 1 ∧ 0 ≤ distQ p r := by
  have hl := hp.len
  have ho : Ov (D * E) (sumI (adQ p r) p.length) := Ov.sumI _ fun i _ => by
    have h1 := (hp.at hD i).1.scale hE
    have h2 := (hr.at hE i).1.scale hD
    rw [Nat.mul_comm] at h2
    exact h1.dist h2
  have hle : sumI (adQ p r) n ≤ 2 := by
    have h1 : sumI (adQ p r) n ≤ sumI (fun i => atL p i + atL r i) n := sumI_le fun i _ => by
      have a := (hp.at hD i).2
      have b := (hr.at hE i).2
      show (atL p i - atL r i).abs ≤ _
      exact abs_le (by grind) (by grind)
    rw [sumI_add, hp.sum, hr.sum] at h1
    grind
  refine ⟨ho.half, ?_, ho.half.nonneg (by have := Nat.mul_pos hD hE; omega)⟩
  rw [distQ, hl]; grind
theorem dist_fits {n D E : Nat} {p r : List Rat} (hp : ChL n D p) (hr : ChL n E r) (hD : 0 < D) (hE : 0 < E) (hb : D * E * 2 ≤ 1000000000000000000) : fits (distQ p r) = true := by
  obtain ⟨h1, h2, _⟩ := dist_ov hp hr hD hE
  exact h1.fits (by have := Nat.mul_pos hD hE; omega) h2 hb
/-! ### The contraction -/
def SpOk (E : Nat) (s : Rat) : Prop := Ov (E * E * 2) s ∧ s ≤ 1 ∧ 0 ≤ s
theorem spIn_ok {n E : Nat} {M : List (List Rat)} (hM : RwL n E M) (hE : 0 < E) {i : Nat} (hi : i < n) : ∀ {k : Nat} {s : Rat}, k ≤ n → SpOk E s → SpOk E (spIn M i k s) ∧ s ≤ spIn M i k s ∧ ∀ j, j < k → distQ (M.getD i []) (M.getD j []) ≤ spIn M i k s
  | 0, s, _, hs => ⟨hs, Rat.le_refl, fun j hj => by omega⟩
  | k + 1, s, hk, hs => by
    obtain ⟨h1, h2, h3⟩ := spIn_ok hM hE hi (k := k) (s := s) (by omega) hs
    have hil : i < M.length := by rw [hM.len]; exact hi
    have hkl : k < M.length := by rw [hM.len]; omega
    rw [spIn]
    split
    · rename_i hc
      have hlt := cmpR_pos.1 hc
      refine ⟨?_, by grind, fun j hj => ?_⟩
      · rw [getD_of hil, getD_of hkl]
        exact dist_ov (hM.row _ (List.getElem_mem hil)) (hM.row _ (List.getElem_mem hkl)) hE hE
      · rcases Nat.lt_or_ge j k with h | h
        · have := h3 j h; grind
        · have : j = k := by omega
          subst this; exact Rat.le_refl
    · rename_i hc
      refine ⟨h1, h2, fun j hj => ?_⟩
      rcases Nat.lt_or_ge j k with h | h
      · exact h3 j h
      · have : j = k := by omega
        subst this
        exact Rat.not_lt.1 fun h => hc (cmpR_pos.2 h)
theorem spOut_ok {n E : Nat} {M : List (List Rat)} (hM : RwL n E M) (hE : 0 < E) : ∀ {i : Nat}, i ≤ n → SpOk E (spOut M i) ∧ ∀ a b, b < a → a < i → distQ (M.getD a []) (M.getD b []) ≤ spOut M i
  | 0, _ => ⟨⟨Ov.zero _, by show (0 : Rat) ≤ 1; decide +kernel, Rat.le_refl⟩, fun a b _ h => by omega⟩
  | i + 1, hi => by
    obtain ⟨h1, h2⟩ := spOut_ok hM hE (i := i) (by omega)
    obtain ⟨h3, h4, h5⟩ := spIn_ok hM hE (i := i) (by omega) (k := i) (s := spOut M i) (by omega) h1
    refine ⟨h3, fun a b hb ha => ?_⟩
    show _ ≤ spIn M i i (spOut M i)
    rcases Nat.lt_or_ge a i with h | h
    · have := h2 a b hb h; grind
    · have : a = i := by omega
      subst this; exact h5 b hb
theorem dist_sym (p r : List Rat) (h : p.length = r.length) : distQ p r = distQ r p := by
  rw [distQ, distQ, h]
  congr 1
  exact sumI_congr fun i _ => by rw [adQ, adQ, Rat.abs_sub_comm]
theorem rows_le {n E : Nat} {M : List (List Rat)} (hM : RwL n E M) (hE : 0 < E) {a b : Nat} (ha : a < n) (hb : b < n) : sumI (fun k => (atM M a k - atM M b k).abs) n ≤ 2 * spOut M n := by
  have hal : a < M.length := by rw [hM.len]; exact ha
  have hbl : b < M.length := by rw [hM.len]; exact hb
  have la := (hM.row _ (List.getElem_mem hal)).len
  have lb := (hM.row _ (List.getElem_mem hbl)).len
  obtain ⟨h1, h2⟩ := spOut_ok hM hE (i := n) (Nat.le_refl _)
  have key : distQ (M.getD a []) (M.getD b []) ≤ spOut M n := by
    rcases Nat.lt_trichotomy a b with h | h | h
    · have := h2 b a h hb
      rw [dist_sym _ _ (by rw [getD_of hal, getD_of hbl, la, lb])]; exact this
    · subst h
      have : distQ (M.getD a []) (M.getD a []) = 0 := by
        rw [distQ, sumI_zero fun i _ => by rw [adQ]; rw [show (M.getD a []).getD i 0 - (M.getD a []).getD i 0 = 0 by grind]; rfl]
        show (0 : Rat) / 2 = 0
        decide +kernel
      rw [this]; exact h1.2.2
    · exact h2 a b h ha
  have e : distQ (M.getD a []) (M.getD b []) = sumI (fun k => (atM M a k - atM M b k).abs) n / 2 := by
    rw [distQ, getD_of hal, la]
    congr 1
    exact sumI_congr fun i _ => by rw [adQ, atM, atM, getD_of hal]
  rw [e] at key
  grind
theorem contracts {n D D' E : Nat} {M : List (List Rat)} {p r : List Rat} (hp : ChL n D p) (hr : ChL n D' r) (hM : RwL n E M) (hD : 0 < D) (hD' : 0 < D') (hE : 0 < E) : distQ (stepL M p) (stepL M r) ≤ spOut M n * distQ p r := by
  have hpl := hp.len
  have hrl := hr.len
  obtain ⟨h1, _⟩ := spOut_ok hM hE (i := n) (Nat.le_refl _)
  have := dobrushin n (fun i => atL p i - atL r i) (fun i k => atM M i k) (spOut M n) h1.2.2 (by rw [sumI_sub, hp.sum, hr.sum]; grind) (fun i j hi hj => rows_le hM hE hi hj)
  have e1 : distQ (stepL M p) (stepL M r) = sumI (fun k => (sumI (fun i => (atL p i - atL r i) * atM M i k) n).abs) n / 2 := by
    rw [distQ, show (stepL M p).length = n by simp [stepL, hpl]]
    congr 1
    refine sumI_congr fun k hk => ?_
    show (atL (stepL M p) k - atL (stepL M r) k).abs = _
    rw [stepL_at (by omega), stepL_at (by omega), hpl, hrl]
    congr 1
    rw [sumI_congr (f := fun i => (atL p i - atL r i) * atM M i k) (g := fun i => atL p i * atM M i k - atL r i * atM M i k) fun i _ => by grind, sumI_sub]
    rfl
  have e2 : distQ p r = sumI (fun i => (atL p i - atL r i).abs) n / 2 := by
    rw [distQ, hpl]; rfl
  rw [e1, e2]
  grind

noncomputable def b12 : Code := Try.f12.body.getD .skip
noncomputable def B12_0 : Code := (bodyC (bodyC (sndC (fstC (sndC (sndC (sndC (sndC (sndC (sndC (sndC (sndC b12))))))))))))
noncomputable def K12_0 : List It := .lp B12_0 :: .blk 0 :: .code (sndC (sndC (sndC (sndC (sndC (sndC (sndC (sndC (sndC b12))))))))) :: []
theorem xl12_0 {fi : FI} {env : Env} {σ : St} : exI TT fi K12_0 env σ = exI TT fi (.code B12_0 :: K12_0) env σ := by unfold K12_0; exact xI_lp
noncomputable def R12_0_0 : List It := .code (sndC (sndC (sndC (sndC (sndC (sndC (sndC (sndC (sndC b12))))))))) :: []
theorem eK12_0_0 : exitA 0 K12_0 = some R12_0_0 := rfl
set_option maxHeartbeats 4000000 in
theorem s12 (n i : Nat) (s : Int) (c pc qc now nx : List AV) (σ : St) (hi : (i : Int) < s) (l5 : cellsAt σ (.ptr 0 0) 1 = some [.lst n c]) (c1 : ∀ σ, callI TT 49 [.agg [.lst n c], .lst n now] σ = some (.tup [.lst n nx, .bool true], σ)) (hw : wrapA .i64 ((i : Int) + 1) = (i : Int) + 1) :
    exI TT (FI.of Try.f12 (TT.an 12)) K12_0 [(5, .ptr 0 0), (7, .lst n pc), (8, .lst n qc), (9, .int .i64 s), (10, .lst n now), (11, .int .i64 i)] σ = exI TT (FI.of Try.f12 (TT.an 12)) K12_0 [(5, .ptr 0 0), (7, .lst n pc), (8, .lst n qc), (9, .int .i64 s), (10, .lst n nx), (11, .int .i64 ((i : Int) + 1))] σ := by
  rw [fi12]
  conv => lhs; rw [xl12_0]
  simp only [B12_0, b12, Try.f12, Option.getD, fstC, sndC, bodyC, thnC, elsC]
  simp (maxSteps := 1000000) (disch := omega) [eK12_0_0, getCells, takeN, dropN, fieldAddrA, allOne, AV.one, n_push, putN, overN, blt_dec, buildA, sizesOf, fillA, putCells, List.take_succ_cons, List.take_zero, List.drop_succ_cons, List.drop_zero, List.nil_append, List.cons_append, List.length_cons, List.length_nil, eqvs_dgs, convA, hi, l5, c1, hw]
set_option maxHeartbeats 4000000 in
theorem e12 (n i : Nat) (s : Int) (c pc qc now a1 b1 : List AV) (d1 d2 e1 e2 k1 k2 m1 m2 : Int) (σ σ1 σ2 σ3 σ4 : St) (hi : s = i) (l5 : cellsAt σ (.ptr 0 0) 1 = some [.lst n c]) (c1 : ∀ σ, callI TT 50 [.agg [.lst n c], .lst n pc, .int .i64 i] σ = some (.tup [.lst n now, .bool true], σ)) (c2 : ∀ σ, callI TT 51 [.lst n now] σ = some (.tup [.agg [.int .i64 1, .int .i64 1], .bool true], σ)) (s1 : storeCellsA (σ.push ⟨[.int .i64 0, .int .i64 0], 2, false⟩) σ.n 0 [.int .i64 1, .int .i64 1] = some σ1) (l16 : cellsAt σ1 (.ptr σ.n 0) 2 = some [.int .i64 1, .int .i64 1]) (c3 : ∀ σ, callI TT 52 [.lst n now, .lst n now] σ = some (.bool true, σ)) (l51 : cellsAt σ1 (.ptr 0 0) 1 = some [.lst n c]) (c4 : ∀ σ, callI TT 49 [.agg [.lst n c], .lst n pc] σ = some (.tup [.lst n a1, .bool true], σ)) (c5 : ∀ σ, callI TT 49 [.agg [.lst n c], .lst n qc] σ = some (.tup [.lst n b1, .bool true], σ)) (c6 : ∀ σ, callI TT 28 [.lst n pc, .lst n qc] σ = some (.tup [.agg [.int .i64 d1, .int .i64 d2], .bool true], σ)) (s2 : storeCellsA (σ1.push ⟨[.int .i64 0, .int .i64 0], 2, false⟩) σ1.n 0 [.int .i64 d1, .int .i64 d2] = some σ2) (c7 : ∀ σ, callI TT 28 [.lst n a1, .lst n b1] σ = some (.tup [.agg [.int .i64 e1, .int .i64 e2], .bool true], σ)) (s3 : storeCellsA (σ2.push ⟨[.int .i64 0, .int .i64 0], 2, false⟩) σ2.n 0 [.int .i64 e1, .int .i64 e2] = some σ3) (l53 : cellsAt σ3 (.ptr 0 0) 1 = some [.lst n c]) (c8 : ∀ σ, callI TT 32 [.agg [.lst n c]] σ = some (.tup [.agg [.int .i64 k1, .int .i64 k2], .bool true], σ)) (s4 : storeCellsA (σ3.push ⟨[.int .i64 0, .int .i64 0], 2, false⟩) σ3.n 0 [.int .i64 k1, .int .i64 k2] = some σ4) (l54 : cellsAt σ4 (.ptr 0 0) 1 = some [.lst n c]) (c9 : ∀ σ, callI TT 22 [.agg [.lst n c]] σ = some (.bool true, σ)) (l26 : cellsAt σ4 (.ptr σ3.n 0) 2 = some [.int .i64 k1, .int .i64 k2]) (l22 : cellsAt σ4 (.ptr σ1.n 0) 2 = some [.int .i64 d1, .int .i64 d2]) (c10 : ∀ σ, callI TT 53 [.agg [.int .i64 k1, .int .i64 k2], .agg [.int .i64 d1, .int .i64 d2]] σ = some (.agg [.int .i64 m1, .int .i64 m2], σ)) (l24 : cellsAt σ4 (.ptr σ2.n 0) 2 = some [.int .i64 e1, .int .i64 e2]) (c11 : ∀ σ, callI TT 46 [.agg [.int .i64 m1, .int .i64 m2], .agg [.int .i64 e1, .int .i64 e2]] σ = some (.bool false, σ)) (c12 : ∀ σ, callI TT 46 [.agg [.int .i64 1, .int .i64 1], .agg [.int .i64 k1, .int .i64 k2]] σ = some (.bool false, σ)) :
    exI TT (FI.of Try.f12 (TT.an 12)) K12_0 [(5, .ptr 0 0), (7, .lst n pc), (8, .lst n qc), (9, .int .i64 s), (10, .lst n now), (11, .int .i64 i)] σ = some (.bool true, σ4) := by
  rw [fi12]
  conv => lhs; rw [xl12_0]
  simp only [B12_0, b12, Try.f12, Option.getD, fstC, sndC, bodyC, thnC, elsC]
  simp (maxSteps := 1000000) (disch := omega) [eK12_0_0, getCells, takeN, dropN, fieldAddrA, allOne, AV.one, n_push, putN, overN, blt_dec, buildA, sizesOf, fillA, putCells, List.take_succ_cons, List.take_zero, List.drop_succ_cons, List.drop_zero, List.nil_append, List.cons_append, List.length_cons, List.length_nil, eqvs_dgs, convA, binNil, eqNil, eqStr, eqFs, Bool.and_self, Bool.and_true, hi, l5, c1, c2, s1, l16, c3, l51, c4, c5, c6, s2, c7, s3, l53, c8, s4, l54, c9, l26, l22, c10, l24, c11, c12]
  simp only [R12_0_0, b12, Try.f12, Option.getD, fstC, sndC, bodyC, thnC, elsC]
  simp (maxSteps := 1000000) (disch := omega) [eK12_0_0, getCells, takeN, dropN, fieldAddrA, allOne, AV.one, n_push, putN, overN, blt_dec, buildA, sizesOf, fillA, putCells, List.take_succ_cons, List.take_zero, List.drop_succ_cons, List.drop_zero, List.nil_append, List.cons_append, List.length_cons, List.length_nil, eqvs_dgs, convA, binNil, eqNil, eqStr, eqFs, Bool.and_self, Bool.and_true, hi, l5, c1, c2, s1, l16, c3, l51, c4, c5, c6, s2, c7, s3, l53, c8, s4, l54, c9, l26, l22, c10, l24, c11, c12]
set_option maxHeartbeats 4000000 in
theorem b12e (n1_ m1 n : Nat) (s : Int) (xs ys c pc qc : List AV) (σ1 : St) (c1 : ∀ σ, callI TT 39 [.lst n1_ xs, .lst m1 ys] σ = some (.bool false, σ)) (c2 : ∀ σ, callI TT 47 [.lst n1_ xs] σ = some (.agg [.lst n c], σ)) (s1 : storeCellsA ((⟨[], 0⟩ : St).push ⟨[.nilS], 1, false⟩) 0 0 [.lst n c] = some σ1) (l5 : cellsAt σ1 (.ptr 0 0) 1 = some [.lst n c]) (c3 : ∀ σ, callI TT 48 [.lst m1 ys, .int .i64 n] σ = some (.lst n pc, σ)) (c4 : ∀ σ, callI TT 48 [.lst n1_ xs, .int .i64 n] σ = some (.lst n qc, σ)) (c5 : ∀ σ, callI TT 41 [.lst m1 ys, .int .i64 0, .int .i64 4] σ = some (.int .i64 s, σ)) (hwn : wrapA .i64 (n : Int) = (n : Int)) :
    exI TT (FI.of Try.f12 (TT.an 12)) [.code b12] (paramsE 0 [.lst n1_ xs, .lst m1 ys]) ⟨[], 0⟩ = exI TT (FI.of Try.f12 (TT.an 12)) K12_0 [(5, .ptr 0 0), (7, .lst n pc), (8, .lst n qc), (9, .int .i64 s), (10, .lst n pc), (11, .int .i64 0)] σ1 := by
  rw [fi12]
  simp only [b12, Try.f12, Option.getD, fstC, sndC, bodyC, thnC, elsC]
  simp (maxSteps := 1000000) (disch := omega) [eK12_0_0, getCells, takeN, dropN, fieldAddrA, allOne, AV.one, n_push, putN, overN, blt_dec, buildA, sizesOf, fillA, putCells, List.take_succ_cons, List.take_zero, List.drop_succ_cons, List.drop_zero, List.nil_append, List.cons_append, List.length_cons, List.length_nil, eqvs_dgs, convA, c1, c2, s1, l5, c3, c4, c5, hwn]
  rfl
set_option maxHeartbeats 4000000 in
theorem z12 (n m : Nat) (xs ys : List AV) (c1 : ∀ σ, callI TT 39 [.lst n xs, .lst m ys] σ = some (.bool true, σ)) :
    ∃ σ', exI TT (FI.of Try.f12 (TT.an 12)) [.code (Try.f12.body.getD .skip)] (paramsE 0 [.lst n xs, .lst m ys]) ⟨[], 0⟩ = some (.bool true, σ') := by
  refine ex1 ?_
  rw [fi12]
  simp only [Try.f12, Option.getD]
  simp (maxSteps := 1000000) (disch := omega) [eK12_0_0, cellsAt, getCells, takeN, dropN, fieldAddrA, allOne, AV.one, n_push, storeCellsA, putN, overN, St.push, St.get, St.set, hget, hset, blt_dec, buildA, sizesOf, fillA, putCells, List.take_succ_cons, List.take_zero, List.drop_succ_cons, List.drop_zero, List.nil_append, List.cons_append, List.length_cons, List.length_nil, eqvs_dgs, convA, c1]
theorem rqs_chs (wss : List (List Nat)) : rqs (wss.map chsL) = wss.map fun w => wq w.sum w := by
  rw [rqs, List.map_map]
  exact List.map_congr_left fun w _ => by show (chsL w).map rq = _; rw [chsL_frL, frL_rq]
theorem isWk_chs {n : Nat} (h1 : 1 ≤ n) (h4 : n ≤ 4) {wss : List (List Nat)} (hl : wss.length = n) (h : ∀ w ∈ wss, Wts n w) : isWk (wss.map chsL) = true := by
  unfold isWk
  rw [List.length_map, hl, decide_eq_true h1, decide_eq_true (show n ≤ 6 by omega), Bool.true_and, Bool.true_and, List.all_eq_true]
  intro r hr
  obtain ⟨w, hw, rfl⟩ := List.mem_map.1 hr
  have hw := h w hw
  have hs := hw.2.1.sum
  have hc := (wq_ch hw).isCh h1 (by omega) hw.2.2 (by have := hw.1; omega)
  rw [rowOk, chsL_len, hw.1, decide_eq_true rfl, chsL_frL, hc]
  rfl
theorem FS_n {n D : Nat} {p : List Rat} (h : ChL n D p) : FS (frL p) = .lst n (flat FC (frL p)) := by rw [FS, frL_len, h.len]
theorem l12 (ls : List (List (Int × Int))) (n D E : Nat) (M : List (List Rat)) (p : List Rat) (Qv : AV) (hQ : ∃ qc, Qv = .lst n qc) (h1 : 1 ≤ n) (h4 : n ≤ 4) (hls : ls.length = n) (hw : isWk ls = true) (hMq : rqs ls = M) (hM : RwL n E M) (hp : ChL n D p) (hD : 0 < D) (hE : 0 < E) (s : Nat) (hs : s ≤ 3) (hb : ∀ j, j ≤ 3 → D * E ^ j ≤ 1000000000000000000) (σ : St) (hx : Bx σ 0 [FSS ls]) : ∀ (m i : Nat), i + m = s →
    exI TT (FI.of Try.f12 (TT.an 12)) K12_0 [(5, .ptr 0 0), (7, FS (frL p)), (8, Qv), (9, .int .i64 s), (10, FS (frL (iterL M p i))), (11, .int .i64 i)] σ = exI TT (FI.of Try.f12 (TT.an 12)) K12_0 [(5, .ptr 0 0), (7, FS (frL p)), (8, Qv), (9, .int .i64 s), (10, FS (frL (iterL M p s))), (11, .int .i64 s)] σ := by
  intro m
  obtain ⟨qc, rfl⟩ := hQ
  induction m with
  | zero =>
    intro i hi
    obtain rfl : i = s := by omega
    rfl
  | succ m ih =>
    intro i hi
    have h := ih (i + 1) (by omega)
    have hi1 : ((i + 1 : Nat) : Int) = (i : Int) + 1 := by omega
    rw [hi1] at h
    rw [← h]
    have hci := iter_ch hp hM hD hE i
    have hcn := iter_ch hp hM hD hE (i + 1)
    have hpos : ∀ j, 0 < D * E ^ j := fun j => Nat.mul_pos hD (Nat.pow_pos hE)
    have hst : stepL (rqs ls) ((frL (iterL M p i)).map rq) = iterL M p (i + 1) := by rw [frL_rq, hMq]; rfl
    have c1 := r49 ls (frL (iterL M p i)) hw (hci.isCh h1 (by omega) (hpos i) (hb i (by omega))) (by rw [frL_len, hci.len, hls]) (by rw [hst]; exact hcn.fits (hpos (i + 1)) (hb (i + 1) (by omega)))
    rw [hst, FS_n hcn, FS_n hci] at c1
    rw [FS_n hcn, FS_n hci, FS_n hp]
    have e : FSS ls = .lst n (flat F1 ls) := by rw [FSS, hls]
    rw [e] at c1 hx
    exact s12 n i s _ _ _ _ _ σ (by omega) (hx.rd rfl) (fun σ => c1.pure σ rfl rfl) (wrapA_id (by omega) (by omega))
theorem bounds {n D E : Nat} (hD : D ≤ 16) (hE : E ≤ 65536) : (∀ j, j ≤ 3 → D * E ^ j ≤ 1000000000000000000) ∧ E * E * 2 ≤ 8589934592 := by
  have h2 : E * E ≤ 65536 * 65536 := Nat.mul_le_mul hE hE
  refine ⟨fun j hj => ?_, by omega⟩
  have h1 : E ^ j ≤ 65536 ^ j := Nat.pow_le_pow_left hE j
  have h3 : 65536 ^ j ≤ 65536 ^ 3 := Nat.pow_le_pow_right (by decide) hj
  have : D * E ^ j ≤ 16 * 65536 ^ 3 := Nat.mul_le_mul hD (Nat.le_trans h1 h3)
  exact Nat.le_trans this (by decide)
theorem w12 (l : List Nat) (hl : ∀ x ∈ l, x < 256) (l2 : List Nat) (hl2 : ∀ x ∈ l2, x < 256) : FnV TT 12 [.lst l.length (byts l), .lst l2.length (byts l2)] (.bool true) := by
  have c1 := fun σ => v39 l.length l2.length (byts l) (byts l2) σ [.lst l.length (byts l), .lst l2.length (byts l2)] rfl
  cases hb : (decide (1048576 < l.length) || decide (1048576 < l2.length)) with
  | true =>
    rw [hb] at c1
    exact FnV.mk fn12 rfl md12 (z12 _ _ _ _ c1) (fun _ => rfl) rfl
  | false =>
    rw [hb] at c1
    simp only [Bool.or_eq_false_iff, decide_eq_false_iff_not] at hb
    obtain ⟨n, wss, h1, h4, hwl, hws, cW⟩ := r47 l hl (by omega)
    obtain ⟨ws, hw, cP⟩ := r48 l2 hl2 (by omega) n h1 (by omega)
    obtain ⟨us, hu, cQ⟩ := r48 l hl (by omega) n h1 (by omega)
    obtain ⟨s, hs, cS⟩ := v41 l2 hl2 0 4 (by decide) (by decide)
    have hs3 : s ≤ 3 := by omega
    have hM := rows_of h4 hwl hws
    obtain ⟨hE, hE2⟩ := prodT_b h4 hws
    rw [hwl] at hE2
    have hE3 : prodT wss ≤ 65536 := Nat.le_trans hE2 (Nat.pow_le_pow_right (by decide) h4)
    have hMq := rqs_chs wss
    have hwk := isWk_chs h1 h4 hwl hws
    have hls : (wss.map chsL).length = n := by simp [hwl]
    have hp := wq_ch hw
    have hr := wq_ch hu
    have hD := hw.2.2
    have hD' := hu.2.2
    have hDb : ws.sum ≤ 16 := by have := hw.2.1.sum; have := hw.1; omega
    have hDb' : us.sum ≤ 16 := by have := hu.2.1.sum; have := hu.1; omega
    rw [chsL_frL] at cP cQ
    generalize hMM : (wss.map fun w => wq w.sum w) = M at hM hMq
    generalize wq ws.sum ws = p at *
    generalize wq us.sum us = r at *
    generalize ws.sum = D at *
    generalize us.sum = D' at *
    generalize prodT wss = E at *
    generalize wss.map chsL = ls at *
    obtain ⟨hB, hB2⟩ := bounds (n := n) hDb hE3
    obtain ⟨hB', _⟩ := bounds (n := n) hDb' hE3
    have hpos : ∀ j, 0 < D * E ^ j := fun j => Nat.mul_pos hD (Nat.pow_pos hE)
    have hpos' : ∀ j, 0 < D' * E ^ j := fun j => Nat.mul_pos hD' (Nat.pow_pos hE)
    have eW : FSS ls = .lst n (flat F1 ls) := by rw [FSS, hls]
    have hit := iter_ch hp hM hD hE s
    have ha := iter_ch hp hM hD hE 1
    have hbb := iter_ch hr hM hD' hE 1
    have fit := hit.fits (hpos s) (hB s hs3)
    have fa := ha.fits (hpos 1) (hB 1 (by decide))
    have fb := hbb.fits (hpos' 1) (hB' 1 (by decide))
    have hcp := hp.isCh h1 (by omega) hD (by omega)
    have hcr := hr.isCh h1 (by omega) hD' (by omega)
    have hca := ha.isCh h1 (by omega) (hpos 1) (hB 1 (by decide))
    have hcb := hbb.isCh h1 (by omega) (hpos' 1) (hB' 1 (by decide))
    obtain ⟨σ1, a1, a2, a3, a4⟩ := new_box (σ := (⟨[], 0⟩ : St)) (z := [.nilS]) (x := [FSS ls]) (m := 1) rfl rfl
    have hbeg := b12e l.length l2.length n s (byts l) (byts l2) (flat F1 ls) (flat FC (frL p)) (flat FC (frL r)) σ1 c1 (fun σ => by rw [← eW]; exact cW.pure σ rfl rfl) (by rw [← eW]; exact a1) (by rw [← eW]; exact a2.rd rfl) (fun σ => by rw [← FS_n hp]; exact cP.pure σ rfl rfl) (fun σ => by rw [← FS_n hr]; exact cQ.pure σ rfl rfl) (fun σ => cS σ _ rfl) (wrapA_id (by omega) (by omega))
    have hloop := l12 ls n D E M p (FS (frL r)) ⟨_, FS_n hr⟩ h1 h4 hls hwk hMq hM hp hD hE s hs3 hB σ1 a2 s 0 (by omega)
    rw [← FS_n hp, ← FS_n hr] at hbeg
    -- the calls behind the loop
    have k1 := r50 ls (frL p) hwk hcp (by rw [frL_len, hp.len, hls]) s hs3 (by rw [frL_rq, hMq]; exact fit)
    rw [frL_rq, hMq] at k1
    have k2 := r51 (iterL M p s) fit (by rw [hit.len]; omega) (fun i hi => hit.part (hpos s) (hB s hs3) i (by rw [← hit.len]; exact hi))
    rw [hit.len, hit.sum] at k2
    have k3 := r52 (frL (iterL M p s)) (by rw [frL_len, hit.len]; omega)
    have k4 := r49 ls (frL p) hwk hcp (by rw [frL_len, hp.len, hls]) (by rw [frL_rq, hMq]; exact fa)
    have k5 := r49 ls (frL r) hwk hcr (by rw [frL_len, hr.len, hls]) (by rw [frL_rq, hMq]; exact fb)
    rw [frL_rq, hMq] at k4 k5
    have e1 : stepL M p = iterL M p 1 := rfl
    have e2 : stepL M r = iterL M r 1 := rfl
    rw [e1] at k4
    rw [e2] at k5
    have d1 := dist_ov hp hr hD hD'
    have hdd : D * D' ≤ 16 * 16 := Nat.mul_le_mul hDb hDb'
    have fd1 := dist_fits hp hr hD hD' (by omega)
    have hde : D * E ^ 1 * (D' * E ^ 1) ≤ 16 * 65536 * (16 * 65536) := Nat.mul_le_mul (Nat.mul_le_mul hDb (by rw [Nat.pow_one]; exact hE3)) (Nat.mul_le_mul hDb' (by rw [Nat.pow_one]; exact hE3))
    have fd2 := dist_fits ha hbb (hpos 1) (hpos' 1) (by omega)
    have k6 := r28 (frL p) (frL r) (by rw [frL_len, hp.len]; omega) (by rw [frL_len, hr.len]; omega)
    have k7 := r28 (frL (iterL M p 1)) (frL (iterL M r 1)) (by rw [frL_len, ha.len]; omega) (by rw [frL_len, hbb.len]; omega)
    have v6 : valDist (frL p) (frL r) = .tup [.agg (QC (distQ p r)), .bool true] := by
      rw [valDist, hcp, hcr, frL_len, frL_len, hp.len, hr.len, decide_eq_true rfl]
      simp only [Bool.and_self, if_true]
      rw [frL_rq, frL_rq, frA_yes fd1]; rfl
    have v7 : valDist (frL (iterL M p 1)) (frL (iterL M r 1)) = .tup [.agg (QC (distQ (iterL M p 1) (iterL M r 1))), .bool true] := by
      rw [valDist, hca, hcb, frL_len, frL_len, ha.len, hbb.len, decide_eq_true rfl]
      simp only [Bool.and_self, if_true]
      rw [frL_rq, frL_rq, frA_yes fd2]; rfl
    rw [v6] at k6
    rw [v7] at k7
    have hrl : ∀ r ∈ ls, r.length ≤ 10000000 := fun r hr => by have := ((isWk_b hwk).2.2 r hr).1; omega
    obtain ⟨⟨o1, o2, o3⟩, _⟩ := spOut_ok hM hE (i := n) (Nat.le_refl _)
    have hEE := Nat.mul_pos hE hE
    have fc := o1.fits (by omega) o2 (by omega)
    have k8 := r32 ls hrl
    have v8 : valCon ls = .tup [.agg (QC (spOut M n)), .bool true] := by
      rw [valCon, if_pos hwk, hMq, hls, frA_yes fc]; rfl
    rw [v8] at k8
    have k9 := r22 ls hrl
    rw [hwk] at k9
    have fm : fits (spOut M n * distQ p r) = true := by
      have hov := o1.mul d1.1
      have hbm : E * E * 2 * (D * D' * 2) ≤ 8589934592 * 512 := Nat.mul_le_mul hB2 (by omega)
      refine hov.fits (Nat.mul_pos (by omega) (by have := Nat.mul_pos hD hD'; omega)) ?_ (by omega)
      have h5 : spOut M n * distQ p r ≤ 1 * distQ p r := Rat.mul_le_mul_of_nonneg_right o2 d1.2.2
      have h6 := d1.2.1
      grind
    have k10 := fun σ => r53 fc fd1 fm σ
    have k11 := fun σ => r46 fm fd2 σ
    have hcon := contracts hp hr hM hD hD' hE
    rw [e1, e2] at hcon
    rw [decide_eq_false (Rat.not_lt.2 hcon)] at k11
    have f1 : fits (1 : Rat) = true := by decide +kernel
    have k12 := fun σ => r46 f1 fc σ
    rw [decide_eq_false (Rat.not_lt.2 o2)] at k12
    -- the boxes
    obtain ⟨σ2, b1, b2, b3, b4⟩ := new_box (σ := σ1) (z := [.int .i64 0, .int .i64 0]) (x := QC 1) (m := 2) rfl rfl
    obtain ⟨σ3, g1, g2, g3, g4⟩ := new_box (σ := σ2) (z := [.int .i64 0, .int .i64 0]) (x := QC (distQ p r)) (m := 2) rfl rfl
    obtain ⟨σ4, j1, j2, j3, j4⟩ := new_box (σ := σ3) (z := [.int .i64 0, .int .i64 0]) (x := QC (distQ (iterL M p 1) (iterL M r 1))) (m := 2) rfl rfl
    obtain ⟨σ5, t1, t2, t3, t4⟩ := new_box (σ := σ4) (z := [.int .i64 0, .int .i64 0]) (x := QC (spOut M n)) (m := 2) rfl rfl
    have x2 := a2.old b3
    have x4 := (x2.old g3).old j3
    have x5 := x4.old t3
    rw [eW] at a2 x2 x4 x5 k1 k4 k5 k8 k9
    rw [FS_n hp, FS_n hit] at k1
    rw [FS_n hit] at k2 k3
    rw [FS_n hp, FS_n ha] at k4
    rw [FS_n hr, FS_n hbb] at k5
    rw [FS_n hp, FS_n hr] at k6
    rw [FS_n ha, FS_n hbb] at k7
    have hex := e12 n s s (flat F1 ls) (flat FC (frL p)) (flat FC (frL r)) (flat FC (frL (iterL M p s))) (flat FC (frL (iterL M p 1))) (flat FC (frL (iterL M r 1))) _ _ _ _ _ _ _ _ σ1 σ2 σ3 σ4 σ5 rfl (a2.rd rfl) (fun σ => k1.pure σ rfl rfl) (fun σ => k2 σ _ rfl) b1 (b2.rd rfl) (fun σ => k3 σ _ rfl) (x2.rd rfl) (fun σ => k4.pure σ rfl rfl) (fun σ => k5.pure σ rfl rfl) (fun σ => k6 σ _ rfl) g1 (fun σ => k7 σ _ rfl) j1 (x4.rd rfl) (fun σ => k8 σ _ rfl) t1 (x5.rd rfl) (fun σ => k9 σ _ rfl) (t2.rd rfl) (((g2.old j3).old t3).rd rfl) k10 ((j2.old t3).rd rfl) k11 k12
    rw [FS_n hp, FS_n hr, FS_n hit] at hloop
    rw [FS_n hp, FS_n hr] at hbeg
    rw [show FS (frL (iterL M p 0)) = .lst n (flat FC (frL p)) from FS_n hp] at hloop
    exact FnV.mk (c := b12) fn12 rfl md12 ⟨σ5, hbeg.trans (hloop.trans hex)⟩ (fun _ => rfl) rfl

end Go.Proofs.Ytihoeimlkbjgmaa
