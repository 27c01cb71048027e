/- Contracts of the seat, laid out of the texts of the same hand for a seat with other numbers. Nothing is claimed here; no condition. -/
import Derived.Test.YtkglajdhlmmlfaaGreatZa
set_option linter.unusedSimpArgs false
set_option linter.unusedVariables false
namespace Go.Proofs.YtkglajdhlmmlfaaGreat
open Go Go.Abs Go.Nm
attribute [local simp] xI_seq xI_region xI_ret regA regOps runOps opStep wantedA opA evo evos calleeA lk nif_eq putE paramsE valS val2 keepE restrict finA resA binA binInt ofConst ofConst1 loadA TK.isAgg asVar unA builtinA lenOpA lenA indexAddrA evPairs storeA AV.cellsOf pairsOf xI_nil binBool gcE evOpt runTr pairsOk pairOk sameVal AV.eqv lastOf lstAt eqvs boundA indexA regF twoOf prsOf memI runTrF selF runTr2 freshOp scals AV.scal xI_block xI_loopH xI_condM xI_exitM xI_skip xI_blk exitA List.getElem?_cons_zero List.getElem?_cons_succ List.getElem?_toArray List.getElem?_nil ileb_t ileb_f ieqb_t ieqb_f inB_t wrapA_id lp_read ieqb_self Nat.blt_eq cond_true cond_false ty2 ty3 ty4 ty9 ty24 ty26 ty28 ty33 ty51 ty55 ty57
/-! ### Contracts -/
/-! ### Sums -/
/-- A box with some cells. -/
def Bx (σ : St) (b : Nat) (vs : List AV) : Prop := (∃ n, σ.get b = some ⟨vs, n, false⟩) ∧ b < σ.n
theorem Bx.rd {σ : St} {b n : Nat} {vs : List AV} (h : Bx σ b vs) (hn : vs.length = n) : cellsAt σ (.ptr b 0) n = some vs := by
  obtain ⟨⟨m, h⟩, _⟩ := h
  simp only [cellsAt, h, getCells_eq]
  rw [if_pos (by omega), List.drop_zero, List.take_of_length_le (by omega)]
theorem Bx.st {σ : St} {b : Nat} {vs ws : List AV} (h : Bx σ b vs) (hl : ws.length = vs.length) (ho : allOne ws = true) : ∃ σ', storeCellsA σ b 0 ws = some σ' ∧ Bx σ' b ws ∧ But b σ σ' := by
  obtain ⟨⟨m, hg⟩, hlt⟩ := h
  refine ⟨σ.set b ⟨ws, m, false⟩, ?_, ⟨⟨m, get_set_eq hg⟩, hlt⟩, rfl, fun c hc => get_set_ne (fun e => hc e.symm)⟩
  rw [storeCellsA_eq, hg]
  simp only [putCells]
  rw [if_pos ⟨by omega, ho⟩, List.take_zero, List.nil_append, Nat.zero_add, List.drop_of_length_le (by omega), List.append_nil]
theorem Bx.old {σ σ' : St} {b : Nat} {vs : List AV} (h : Bx σ b vs) (k : Old σ σ') : Bx σ' b vs := by
  obtain ⟨⟨m, hg⟩, hlt⟩ := h
  exact ⟨⟨m, by rw [k.2 b hlt]; exact hg⟩, Nat.lt_of_lt_of_le hlt k.1⟩
theorem Bx.but {σ σ' : St} {b c : Nat} {vs : List AV} (h : Bx σ c vs) (hc : c ≠ b) (k : But b σ σ') : Bx σ' c vs := by
  obtain ⟨⟨m, hg⟩, hlt⟩ := h
  exact ⟨⟨m, by rw [k.2 c hc]; exact hg⟩, by rw [k.1]; exact hlt⟩
theorem Bx.push {σ : St} {vs : List AV} {m : Nat} : Bx (σ.push ⟨vs, m, false⟩) σ.n vs := ⟨⟨m, get_push_same⟩, Nat.lt_succ_self _⟩
theorem Bx.lt {σ : St} {b : Nat} {vs : List AV} (h : Bx σ b vs) : b < σ.n := h.2
/-- Rows of aggregates. -/
def flat {α : Type} (f : α → List AV) (l : List α) : List AV := l.flatMap f
theorem flat_len {α : Type} {f : α → List AV} {w : Nat} (hf : ∀ x, (f x).length = w) : ∀ l : List α, (flat f l).length = l.length * w
  | [] => by simp [flat]
  | x :: r => by
    have := flat_len hf r
    simp only [flat, List.flatMap_cons, List.length_append, List.length_cons] at this ⊢
    rw [this, hf, Nat.add_mul]; omega
theorem flat_get {α : Type} {f : α → List AV} {w : Nat} (hf : ∀ x, (f x).length = w) : ∀ (l : List α) (i : Nat) (x : α), l[i]? = some x → getCells (flat f l) (i * w) w = some (f x)
  | [], i, x, h => by simp at h
  | y :: r, 0, x, h => by
    simp at h; subst h
    rw [getCells_eq, flat, List.flatMap_cons, if_pos (by simp [hf]), Nat.zero_mul, List.drop_zero, List.take_left' (hf y)]
  | y :: r, i + 1, x, h => by
    have ih := flat_get hf r i x (by simpa using h)
    rw [getCells_eq] at ih ⊢
    split at ih
    · rename_i hl
      have e : (i + 1) * w = (f y).length + i * w := by rw [hf, Nat.add_mul]; omega
      simp only [flat, List.flatMap_cons, List.length_append] at hl ⊢
      rw [if_pos (by rw [e]; omega), e, ← List.drop_drop, List.drop_left]
      exact ih
    · cases ih
theorem flat_one {α : Type} {f : α → List AV} (hf : ∀ x, allOne (f x) = true) : ∀ l : List α, allOne (flat f l) = true
  | [] => rfl
  | x :: r => by
    have h2 := flat_one hf r
    have : ∀ (a b : List AV), allOne a = true → allOne b = true → allOne (a ++ b) = true := by
      intro a; induction a with
      | nil => intro b _ h; exact h
      | cons y t ih => intro b h1 h2; simp only [allOne, Bool.and_eq_true, List.cons_append] at h1 ⊢; exact ⟨h1.1, ih b h1.2 h2⟩
    exact this _ _ (hf x) h2
theorem mapO_app {α β : Type} {f : α → Option β} : ∀ {a : List α} {b : List α} {x y : List β}, mapO f a = some x → mapO f b = some y → mapO f (a ++ b) = some (x ++ y)
  | [], b, x, y, h1, h2 => by simp only [mapO] at h1; cases h1; exact h2
  | z :: r, b, x, y, h1, h2 => by
    simp only [mapO] at h1
    split at h1
    · rename_i u v hu hv
      cases h1
      exact mapO_cons hu (mapO_app hv h2)
    · cases h1
theorem flat_frz {α : Type} {f : α → List AV} {σ : St} {d : Nat} (hf : ∀ x, mapO (frzV σ d) (f x) = some (f x)) : ∀ l : List α, mapO (frzV σ d) (flat f l) = some (flat f l)
  | [] => rfl
  | x :: r => mapO_app (hf x) (flat_frz hf r)
theorem flat_app {α : Type} (f : α → List AV) (a b : List α) : flat f (a ++ b) = flat f a ++ flat f b := by simp [flat]
/-- Rows whose cells are told, whatever their elements' size. -/
def RowE (σ : St) (b e : Nat) (cs : List AV) : Prop := ∃ o, σ.get b = some ⟨cs, e, o⟩ ∧ b < σ.n
theorem RowE.lt {σ : St} {b e : Nat} {cs : List AV} (h : RowE σ b e cs) : b < σ.n := by obtain ⟨_, _, h⟩ := h; exact h
theorem RowE.old {σ σ' : St} {b e : Nat} {cs : List AV} (h : RowE σ b e cs) (k : Old σ σ') : RowE σ' b e cs := by
  obtain ⟨o, hg, hlt⟩ := h; exact ⟨o, by rw [k.2 b hlt]; exact hg, Nat.lt_of_lt_of_le hlt k.1⟩
theorem RowE.but {σ σ' : St} {b c e : Nat} {cs : List AV} (h : RowE σ c e cs) (hc : c ≠ b) (k : But b σ σ') : RowE σ' c e cs := by
  obtain ⟨o, hg, hlt⟩ := h; exact ⟨o, by rw [k.2 c hc]; exact hg, by rw [k.1]; exact hlt⟩
theorem RowE.push {σ : St} {cs : List AV} {e : Nat} {o : Bool} : RowE (σ.push ⟨cs, e, o⟩) σ.n e cs := ⟨o, get_push_same, Nat.lt_succ_self _⟩
theorem RowE.pushed {σ : St} {b e : Nat} {cs : List AV} {x : Blk} (h : RowE σ b e cs) : RowE (σ.push x) b e cs := h.old Old.push
theorem RowE.frz {σ : St} {b e n c d : Nat} {cs : List AV} (h : RowE σ b e cs) (hl : cs.length = n * e) (hf : mapO (frzV σ (d + 1)) cs = some cs) (hc : n ≤ c) : frzV σ (d + 2) (.sl b 0 n c) = some (.lst n cs) := by
  obtain ⟨o, hg, _⟩ := h
  unfold frzV
  simp only [hg]
  rw [getCells_eq, if_pos (by omega), List.drop_zero, List.take_of_length_le (by omega)]
  simp only [hf, hc, if_true]
theorem RowE.rd {σ : St} {b e i w : Nat} {cs v : List AV} (h : RowE σ b e cs) (hv : getCells cs i w = some v) : cellsAt σ (.ptr b i) w = some v := by
  obtain ⟨o, h, _⟩ := h
  simp only [cellsAt, h]; exact hv
theorem RowE.st {σ : St} {b e i : Nat} {cs ws : List AV} (h : RowE σ b e cs) (hi : i + ws.length ≤ cs.length) (ho : allOne ws = true) : ∃ σ', storeCellsA σ b i ws = some σ' ∧ RowE σ' b e (putCells cs i ws) ∧ But b σ σ' := by
  obtain ⟨o, hg, hlt⟩ := h
  refine ⟨σ.set b ⟨putCells cs i ws, e, o⟩, ?_, ⟨o, get_set_eq hg, hlt⟩, rfl, fun c hc => get_set_ne (fun e => hc e.symm)⟩
  rw [storeCellsA_eq, hg]
  simp only []
  rw [if_pos ⟨hi, ho⟩]
theorem build_el {T : Tab} {σ : St} {st e : TypeId} {k : TK} {es y : Nat} {z w : List AV} (ht : T.ty st = some ⟨.slice e, 1, 24, [.nilS]⟩) (he : T.ty e = some ⟨k, es, y, z⟩) (hes : es ≤ 1000) (hw : w.length = es) (hz : z.length = es) (h1 : allOne w = true) : buildSliceA T σ st 1 [(0, .agg w)] = some (.sl σ.n 0 1 1, σ.push ⟨w, es, false⟩) := by
  have hp : putCells (z ++ []) (0 * es) w = w := by
    rw [List.append_nil, Nat.zero_mul, putCells, List.take_zero, List.nil_append, Nat.zero_add, List.drop_of_length_le (by omega), List.append_nil]
  simp only [buildSliceA, ht, he, repeatCells, fillA, AV.cellsOf]
  rw [if_pos (by omega)]
  rw [List.append_nil, Nat.zero_mul] at hp
  simp [hw, h1, hz, hp]
theorem build_e0 {T : Tab} {σ : St} {st e : TypeId} {k : TK} {es y : Nat} {z : List AV} (ht : T.ty st = some ⟨.slice e, 1, 24, [.nilS]⟩) (he : T.ty e = some ⟨k, es, y, z⟩) : buildSliceA T σ st 0 [] = some (.sl σ.n 0 0 0, σ.push ⟨[], es, false⟩) := by
  simp [buildSliceA, ht, he, fillA, repeatCells]
theorem append_el {T : Tab} {σ : St} {b n : Nat} {cs w : List AV} {st e : TypeId} {k : TK} {es y : Nat} {z : List AV} (ht : T.ty st = some ⟨.slice e, 1, 24, [.nilS]⟩) (he : T.ty e = some ⟨k, es, y, z⟩) (hk : ∀ j, k ≠ .int j → True) (hy : 0 < y ∧ y ≤ 100)
    (hw : w.length = es) (h1 : allOne w = true) (hcs : cs.length = n * es) (hb : RowE σ b es cs) (hs : n < 100000000000) :
    ∃ σ', appendA T (σ.push ⟨w, es, false⟩) st st (.sl b 0 n n) (.sl σ.n 0 1 1) = some (.sl (σ.n + 1) 0 (n + 1) (n + 1), σ') ∧ RowE σ' (σ.n + 1) es (cs ++ w) ∧ ∀ c, c ≠ b → c < σ.n → σ'.get c = σ.get c := by
  obtain ⟨o, hg, hlt⟩ := hb
  have hf : firstA (σ.push ⟨w, es, false⟩) es 1 (.sl σ.n 0 1 1) = some w := by
    simp only [firstA, get_push_same]
    rw [getCells_eq, if_pos (by omega), List.drop_zero, List.take_of_length_le (by omega)]
  have hg2 : (σ.push ⟨w, es, false⟩).get b = some ⟨cs, es, o⟩ := by rw [get_push_lt hlt]; exact hg
  have hc : getCells cs 0 (n * es) = some cs := by rw [getCells_eq, if_pos (by omega), List.drop_zero, List.take_of_length_le (by omega)]
  have hyb : (n + 1) * y ≤ 140737488355328 := by
    have : (n + 1) * y ≤ 100000000000 * 100 := Nat.mul_le_mul (by omega) hy.2
    omega
  refine ⟨(if o then (σ.push ⟨w, es, false⟩).del b else σ.push ⟨w, es, false⟩).push ⟨cs ++ w, es, true⟩, ?_, ⟨true, ?_, ?_⟩, ?_⟩
  · unfold appendA
    simp only [ht, he, lenA, hf, h1, hg2, hc]
    rw [if_neg (by simp), if_neg (by omega), if_pos ⟨hyb, by omega, trivial, by omega, hy.1⟩]
    cases o <;> simp [n_push]
  · cases o <;> exact get_push_same
  · cases o <;> simp [n_push, n_del]
  · intro c hc hcn
    cases o
    · simp only [Bool.false_eq_true, if_false]
      rw [get_push_lt (by show c < σ.n + 1; omega), get_push_lt hcn]
    · simp only [if_true]
      rw [get_push_lt (by show c < σ.n + 1; omega), get_del_ne (fun e => hc e.symm), get_push_lt hcn]
/-- Fractions as they come in. -/
def FC (x : Int × Int) : List AV := [.int .i64 x.1, .int .i64 x.2]
theorem FC_len (x : Int × Int) : (FC x).length = 2 := rfl
theorem FC_one (x : Int × Int) : allOne (FC x) = true := rfl
def FS (l : List (Int × Int)) : AV := .lst l.length (flat FC l)
theorem FS_get {l : List (Int × Int)} {i : Nat} (h : i < l.length) (σ : St) : cellsAt σ (.lp (flat FC l) (i * 2)) 2 = some (FC l[i]) := flat_get FC_len l i _ (List.getElem?_eq_getElem h)
def vfl (l : List (Int × Int)) : Bool := l.all fun x => vfr x.1 x.2
def rq (x : Int × Int) : Rat := mkRat x.1 x.2.toNat
def sumQ (l : List (Int × Int)) : Rat := l.foldl (fun s x => s + rq x) 0
/-- Chances. -/
def isCh (l : List (Int × Int)) : Bool := (decide (1 ≤ l.length) && decide (l.length ≤ 16)) && (vfl l && ((l.all fun x => decide (0 ≤ x.1)) && decide (sumQ l = 1)))

theorem v67 (l : List (Int × Int)) : FnV TT 67 [FS l] (.int .i64 l.length) := by
  refine FnV.mk (c := Tryz.f67.body.getD .skip) fn67 rfl md67 (ex1 ?_) (fun _ => rfl) rfl
  rw [fi67]
  simp only [Tryz.f67, Option.getD]
  unfold FS
  simp (maxSteps := 1000000) (disch := omega) [cellsAt, getCells, takeN, dropN, fieldAddrA, allOne, AV.one, n_push, storeCellsA, putN, overN, St.push, St.get, St.set, hget, hset, blt_dec, buildA, sizesOf, fillA, putCells, List.take_succ_cons, List.take_zero, List.drop_succ_cons, List.drop_zero, List.nil_append, List.cons_append, List.length_cons, List.length_nil, eqvs_dgs]



theorem pow_sh (i : Nat) (hi : i ≤ 60) : wrapA .i64 (shlA (1 : Int) (min i IntKind.i64.bits)) = ((2 ^ i : Nat) : Int) := by
  rw [Nat.min_eq_left (by simp [IntKind.bits]; omega)]
  have e : shlA (1 : Int) i = ((1 * 2 ^ i : Nat) : Int) := rfl
  have h : 2 ^ i ≤ 2 ^ 60 := Nat.pow_le_pow_right (by decide) hi
  rw [e, Nat.one_mul]
  exact wi64 (Nat.le_trans h (by decide))
/-- The number of bits of a source, from i on; 0 for none. -/
def bitsF (l : List (Int × Int)) : Nat → Nat → Nat
  | 0, _ => 0
  | m + 1, i => if l.length = 2 ^ i ∧ isCh l = true then i else bitsF l m (i + 1)
def srcBits (l : List (Int × Int)) : Nat := bitsF l 4 1
/-- A source. -/
def isSrc (l : List (Int × Int)) : Bool := decide (0 < srcBits l)

theorem r93 (n d : Int) : FnV TT 93 [.agg [.int .i64 n, .int .i64 d]] (.bool (!vfr n d)) := by
  refine FnV.mk (c := Tryz.f93.body.getD .skip) fn93 rfl md93 (ex1 ?_) (fun _ => rfl) rfl
  have c1 := fun σ : St => v94 n d σ [.agg [.int .i64 n, .int .i64 d]] rfl
  rw [fi93]
  simp only [Tryz.f93, Option.getD]
  simp (maxSteps := 1000000) (disch := omega) [cellsAt, getCells, takeN, dropN, fieldAddrA, allOne, AV.one, n_push, storeCellsA, putN, overN, St.push, St.get, St.set, hget, hset, blt_dec, buildA, sizesOf, fillA, putCells, List.take_succ_cons, List.take_zero, List.drop_succ_cons, List.drop_zero, List.nil_append, List.cons_append, List.length_cons, List.length_nil, eqvs_dgs, c1]

noncomputable def b103 : Code := Tryz.f103.body.getD .skip
noncomputable def B103_0 : Code := (bodyC (bodyC (sndC (fstC (sndC b103)))))
noncomputable def K103_0 : List It := .lp B103_0 :: .blk 0 :: .code (sndC (sndC b103)) :: []
theorem xl103_0 {fi : FI} {env : Env} {σ : St} : exI TT fi K103_0 env σ = exI TT fi (.code B103_0 :: K103_0) env σ := by unfold K103_0; exact xI_lp
noncomputable def R103_0_0 : List It := .code (sndC (sndC b103)) :: []
theorem eK103_0_0 : exitA 0 K103_0 = some R103_0_0 := rfl
theorem s103t (n i : Nat) (cells x : List AV) (σ : St) (hi : i < n) (r1 : cellsAt σ (.lp cells (i * 2)) 2 = some x) (c1 : callI TT 93 [.agg x] σ = some (.bool true, σ)) :
    exI TT (FI.of Tryz.f103 (TT.an 103)) K103_0 [(0, .lst n cells), (1, .fn 93 [] []), (7, .int .i64 n), (8, .int .i64 i)] σ = some (.int .i64 i, σ) := by
  rw [fi103, xl103_0]
  simp only [B103_0, b103, Tryz.f103, Option.getD, fstC, sndC, bodyC, thnC, elsC]
  simp (maxSteps := 1000000) (disch := omega) [eK103_0_0, r1, c1, List.append_nil, List.nil_append]
theorem s103f (n i : Nat) (cells x : List AV) (σ : St) (hi : i < n) (r1 : cellsAt σ (.lp cells (i * 2)) 2 = some x) (c1 : callI TT 93 [.agg x] σ = some (.bool false, σ)) (hw : wrapA .i64 ((i : Int) + 1) = (i : Int) + 1) :
    exI TT (FI.of Tryz.f103 (TT.an 103)) K103_0 [(0, .lst n cells), (1, .fn 93 [] []), (7, .int .i64 n), (8, .int .i64 i)] σ = exI TT (FI.of Tryz.f103 (TT.an 103)) K103_0 [(0, .lst n cells), (1, .fn 93 [] []), (7, .int .i64 n), (8, .int .i64 ((i : Int) + 1))] σ := by
  rw [fi103]
  conv => lhs; rw [xl103_0]
  simp only [B103_0, b103, Tryz.f103, Option.getD, fstC, sndC, bodyC, thnC, elsC]
  simp (maxSteps := 1000000) (disch := omega) [eK103_0_0, r1, c1, hw, List.append_nil, List.nil_append]
theorem e103 (n : Nat) (cells : List AV) (σ : St) : exI TT (FI.of Tryz.f103 (TT.an 103)) K103_0 [(0, .lst n cells), (1, .fn 93 [] []), (7, .int .i64 n), (8, .int .i64 n)] σ = some (.int .i64 (-1), σ) := by
  rw [fi103, xl103_0]
  simp only [B103_0, b103, Tryz.f103, Option.getD, fstC, sndC, bodyC, thnC, elsC]
  simp (maxSteps := 1000000) (disch := omega) [eK103_0_0]
  simp only [R103_0_0, b103, Tryz.f103, Option.getD, fstC, sndC, bodyC, thnC, elsC]
  simp (maxSteps := 1000000) (disch := omega) [eK103_0_0]
theorem l103 (l : List (Int × Int)) (hs : l.length ≤ 10000000) (σ : St) : ∀ (m i : Nat), i + m = l.length → ∃ z : Int, exI TT (FI.of Tryz.f103 (TT.an 103)) K103_0 [(0, FS l), (1, .fn 93 [] []), (7, .int .i64 l.length), (8, .int .i64 i)] σ = some (.int .i64 z, σ) ∧ (0 ≤ z ↔ vfl (l.drop i) = false) := by
  intro m
  induction m with
  | zero =>
    intro i hi
    obtain rfl : i = l.length := by omega
    rw [List.drop_of_length_le (Nat.le_refl _)]
    exact ⟨-1, e103 l.length (flat FC l) σ, by simp [vfl]⟩
  | succ m ih =>
    intro i hi
    have hil : i < l.length := by omega
    have c1 := r93 l[i].1 l[i].2 σ [.agg (FC l[i])] rfl
    rw [List.drop_eq_getElem_cons hil]
    have hi1 : ((i + 1 : Nat) : Int) = (i : Int) + 1 := by omega
    cases hv : vfr l[i].1 l[i].2 with
    | true =>
      rw [hv] at c1
      obtain ⟨z, h1, h2⟩ := ih (i + 1) (by omega)
      rw [hi1] at h1
      have e : vfl (l[i] :: l.drop (i + 1)) = vfl (l.drop (i + 1)) := by unfold vfl; rw [List.all_cons, hv, Bool.true_and]
      refine ⟨z, ?_, by rw [e]; exact h2⟩
      rw [← h1]
      exact s103f l.length i (flat FC l) _ σ hil (FS_get hil σ) c1 (wrapA_id (by omega) (by omega))
    | false =>
      rw [hv] at c1
      have e : vfl (l[i] :: l.drop (i + 1)) = false := by unfold vfl; rw [List.all_cons, hv, Bool.false_and]
      exact ⟨i, s103t l.length i (flat FC l) _ σ hil (FS_get hil σ) c1, by rw [e]; simp⟩
theorem r103 (l : List (Int × Int)) (hs : l.length ≤ 10000000) (σ : St) : ∃ z : Int, callI TT 103 [FS l, .fn 93 [] []] σ = some (.int .i64 z, σ) ∧ (0 ≤ z ↔ vfl l = false) := by
  obtain ⟨z, h1, h2⟩ := l103 l hs σ l.length 0 (by omega)
  rw [List.drop_zero] at h2
  refine ⟨z, ?_, h2⟩
  rw [← h1, cI_0 fn103 rfl md103, fi103]
  unfold FS
  simp (maxSteps := 1000000) (disch := omega) [eK103_0_0]
  rfl

theorem r92 (l : List (Int × Int)) (hs : l.length ≤ 10000000) (σ : St) : callI TT 92 [FS l, .fn 93 [] []] σ = some (.bool (!vfl l), σ) := by
  obtain ⟨z, h1, h2⟩ := r103 l hs σ
  rw [cI_0 fn92 rfl md92, fi92]
  unfold FS at *
  cases hv : vfl l with
  | true =>
    have : z < 0 := by
      rw [hv] at h2
      refine Int.not_le.1 fun h => ?_
      have := h2.1 h
      cases this
    simp (maxSteps := 1000000) (disch := omega) [h1]
  | false =>
    have : 0 ≤ z := h2.2 hv
    simp (maxSteps := 1000000) (disch := omega) [h1]

theorem r71 (l : List (Int × Int)) (hs : l.length ≤ 10000000) : FnV TT 71 [FS l] (.bool (vfl l)) := by
  have c1 := r92 l hs
  refine FnV.mk (c := Tryz.f71.body.getD .skip) fn71 rfl md71 ⟨⟨[], 0⟩, ?_⟩ (fun _ => rfl) rfl
  rw [fi71]
  simp only [Tryz.f71, Option.getD]
  unfold FS at *
  simp (maxSteps := 1000000) (disch := omega) [c1]

noncomputable def b43 : Code := Tryz.f43.body.getD .skip
noncomputable def B43_0 : Code := (bodyC (bodyC (sndC (fstC (sndC (sndC (sndC b43)))))))
noncomputable def K43_0 : List It := .lp B43_0 :: .blk 0 :: .code (sndC (sndC (sndC (sndC b43)))) :: []
theorem xl43_0 {fi : FI} {env : Env} {σ : St} : exI TT fi K43_0 env σ = exI TT fi (.code B43_0 :: K43_0) env σ := by unfold K43_0; exact xI_lp
noncomputable def R43_0_0 : List It := .code (sndC (sndC (sndC (sndC b43)))) :: []
theorem eK43_0_0 : exitA 0 K43_0 = some R43_0_0 := rfl
def RC (q : Rat) : List AV := [.bool (ng q), NA (nm q), NA q.den]
theorem RC_one (q : Rat) : allOne (RC q) = true := rfl
theorem RC_eqv (q : Rat) : eqvs (RC q) (RC q) = true := by simp [RC, eqvs, AV.eqv, NA, eqvs_dgs]
set_option maxHeartbeats 1000000 in
theorem s43t (n i : Nat) (cells x s r t : List AV) (a : Int) (σ σ1 σ2 σ3 : St) (hi : i < n) (l1 : cellsAt σ (.lp cells (i * 2)) 2 = some x) (h2 : σ.push ⟨[.int .i64 0, .int .i64 0], 2, false⟩ = σ1) (hx : x.length = 2) (s1 : storeCellsA σ1 σ.n 0 x = some σ2) (l2 : cellsAt σ2 (.ptr σ.n 0) 1 = some [.int .i64 a]) (ha : 0 ≤ a) (l3 : cellsAt σ2 (.ptr 0 0) 3 = some s) (l4 : cellsAt σ2 (.ptr σ.n 0) 2 = some x)
    (c1 : callI TT 37 [.agg x] σ2 = some (.agg r, σ2)) (c2 : callI TT 32 [.agg s, .agg r] σ2 = some (.agg t, σ2)) (ht : t.length = 3) (s2 : storeCellsA σ2 0 0 t = some σ3) (hes : eqvs s s = true) (hw : wrapA .i64 ((i : Int) + 1) = (i : Int) + 1) :
    exI TT (FI.of Tryz.f43 (TT.an 43)) K43_0 [(3, .ptr 0 0), (16, .lst n cells), (17, .int .i64 n), (18, .int .i64 i)] σ = exI TT (FI.of Tryz.f43 (TT.an 43)) K43_0 [(3, .ptr 0 0), (16, .lst n cells), (17, .int .i64 n), (18, .int .i64 ((i : Int) + 1))] σ3 := by
  rw [fi43]
  conv => lhs; rw [xl43_0]
  simp only [B43_0, b43, Tryz.f43, Option.getD, fstC, sndC, bodyC, thnC, elsC]
  simp (maxSteps := 1000000) (disch := omega) [eK43_0_0, fieldAddrA, blt_dec, l1, h2, hx, s1, l2, l3, l4, c1, c2, ht, s2, hes, hw]
theorem s43f (n i : Nat) (cells x : List AV) (a : Int) (σ σ1 σ2 : St) (hi : i < n) (l1 : cellsAt σ (.lp cells (i * 2)) 2 = some x) (h2 : σ.push ⟨[.int .i64 0, .int .i64 0], 2, false⟩ = σ1) (hx : x.length = 2) (s1 : storeCellsA σ1 σ.n 0 x = some σ2) (l2 : cellsAt σ2 (.ptr σ.n 0) 1 = some [.int .i64 a]) (ha : a < 0) :
    exI TT (FI.of Tryz.f43 (TT.an 43)) K43_0 [(3, .ptr 0 0), (16, .lst n cells), (17, .int .i64 n), (18, .int .i64 i)] σ = some (.bool false, σ2) := by
  rw [fi43, xl43_0]
  simp only [B43_0, b43, Tryz.f43, Option.getD, fstC, sndC, bodyC, thnC, elsC]
  simp (maxSteps := 1000000) (disch := omega) [eK43_0_0, fieldAddrA, l1, h2, hx, s1, l2]
theorem e43 (n : Nat) (cells s o : List AV) (z : Int) (q : Bool) (σ : St) (l3 : cellsAt σ (.ptr 0 0) 3 = some s) (c1 : callI TT 29 [.int .i64 1] σ = some (.agg o, σ)) (c2 : callI TT 38 [.agg s, .agg o] σ = some (.int .i64 z, σ)) (hes : eqvs s s = true) (hq : decide (z = 0) = q) : exI TT (FI.of Tryz.f43 (TT.an 43)) K43_0 [(3, .ptr 0 0), (16, .lst n cells), (17, .int .i64 n), (18, .int .i64 n)] σ = some (.bool q, σ) := by
  subst hq
  rw [fi43, xl43_0]
  simp only [B43_0, b43, Tryz.f43, Option.getD, fstC, sndC, bodyC, thnC, elsC]
  simp (maxSteps := 1000000) (disch := omega) [eK43_0_0]
  simp only [R43_0_0, b43, Tryz.f43, Option.getD, fstC, sndC, bodyC, thnC, elsC]
  simp (maxSteps := 1000000) [-ieqb_t, -ieqb_f, -ieqb_self, eK43_0_0, takeN, dropN, fieldAddrA, allOne, AV.one, n_push, putN, overN, blt_dec, buildA, sizesOf, fillA, putCells, List.take_succ_cons, List.take_zero, List.drop_succ_cons, List.drop_zero, List.nil_append, List.cons_append, List.length_cons, List.length_nil, eqvs_dgs, l3, c1, c2, hes, ieqb_dec]
theorem b43f (n : Nat) (cells : List AV) (q1 q2 : Bool) (σ : St) (c0 : callI TT 67 [.lst n cells] σ = some (.int .i64 n, σ)) (c1 : callI TT 49 [.int .i64 n, .int .i64 1, .int .i64 16] σ = some (.bool q1, σ)) (c2 : callI TT 71 [.lst n cells] σ = some (.bool q2, σ)) (h : (q1 && q2) = false) : exI TT (FI.of Tryz.f43 (TT.an 43)) [.code b43] (paramsE 0 [.lst n cells]) σ = some (.bool false, σ) := by
  rw [fi43]
  simp only [b43, Tryz.f43, Option.getD, fstC, sndC, bodyC, thnC, elsC]
  cases q1 with
  | false =>
    simp (maxSteps := 1000000) (disch := omega) [eK43_0_0, c0, c1]
  | true => cases q2 with
    | true => exact absurd h (by decide)
    | false =>
      simp (maxSteps := 1000000) (disch := omega) [eK43_0_0, c0, c1, c2]
theorem b43t (n : Nat) (cells o : List AV) (σ1 : St) (c0 : callI TT 67 [.lst n cells] ⟨[], 0⟩ = some (.int .i64 n, ⟨[], 0⟩)) (c1 : callI TT 49 [.int .i64 n, .int .i64 1, .int .i64 16] ⟨[], 0⟩ = some (.bool true, ⟨[], 0⟩)) (c2 : callI TT 71 [.lst n cells] ⟨[], 0⟩ = some (.bool true, ⟨[], 0⟩)) (c3 : callI TT 29 [.int .i64 0] ⟨[], 0⟩ = some (.agg o, ⟨[], 0⟩)) (ho : o.length = 3) (s1 : storeCellsA ((⟨[], 0⟩ : St).push ⟨[.bool false, .nilS, .nilS], 3, false⟩) 0 0 o = some σ1) : exI TT (FI.of Tryz.f43 (TT.an 43)) [.code b43] (paramsE 0 [.lst n cells]) ⟨[], 0⟩ = exI TT (FI.of Tryz.f43 (TT.an 43)) K43_0 [(3, .ptr 0 0), (16, .lst n cells), (17, .int .i64 n), (18, .int .i64 0)] σ1 := by
  rw [fi43]
  simp only [b43, Tryz.f43, Option.getD, fstC, sndC, bodyC, thnC, elsC]
  simp (maxSteps := 1000000) (disch := omega) [eK43_0_0, c0, c1, c2, c3, ho, s1]
  rfl
theorem sumQ_succ (l : List (Int × Int)) (i : Nat) (h : i < l.length) : sumQ (l.take (i + 1)) = sumQ (l.take i) + rq l[i] := by
  rw [List.take_succ_eq_append_getElem h, sumQ, List.foldl_append]; rfl
theorem rq_bd {x : Int × Int} (h : vfr x.1 x.2 = true) : Bd 60 (rq x) := fits_bd (vfr_rat h).2.2
theorem l43 (l : List (Int × Int)) (hv : vfl l = true) (hs : l.length ≤ 16) : ∀ (m i : Nat) (σ : St), i + m = l.length → Bx σ 0 (RC (sumQ (l.take i))) → Bd (1 + i * 61) (sumQ (l.take i)) →
    ∃ σ', exI TT (FI.of Tryz.f43 (TT.an 43)) K43_0 [(3, .ptr 0 0), (16, FS l), (17, .int .i64 l.length), (18, .int .i64 i)] σ = some (.bool (((l.drop i).all fun x => decide (0 ≤ x.1)) && decide (sumQ l = 1)), σ') := by
  intro m
  induction m with
  | zero =>
    intro i σ hi hb hbd
    obtain rfl : i = l.length := by omega
    rw [List.take_of_length_le (Nat.le_refl _)] at hb hbd
    rw [List.drop_of_length_le (Nat.le_refl _)]
    have co := (r29 (n := 1) (by decide) (by decide)).pure σ rfl rfl
    have b1 : Bd (1 + l.length * 61) (mkRat 1 1) := (show Bd 1 (mkRat 1 1) from ⟨by decide, by decide⟩).mono (by omega)
    have cc := r38 hbd b1 (by omega) σ [RT (sumQ l), RT (mkRat 1 1)] rfl
    have e1 : decide (cmpR (sumQ l) (mkRat 1 1) = 0) = decide (sumQ l = 1) := by
      by_cases hh : sumQ l = 1
      · rw [decide_eq_true hh, decide_eq_true (show cmpR (sumQ l) (mkRat 1 1) = 0 from cmpR_zero.2 (by rw [hh]; rfl))]
      · rw [decide_eq_false hh, decide_eq_false (show ¬ cmpR (sumQ l) (mkRat 1 1) = 0 from fun h => hh ((cmpR_zero.1 h).trans rfl))]
    exact ⟨σ, e43 l.length (flat FC l) (RC (sumQ l)) _ _ _ σ (hb.rd rfl) co cc (RC_eqv _) e1⟩
  | succ m ih =>
    intro i σ hi hb hbd
    have hil : i < l.length := by omega
    have hvi : vfr l[i].1 l[i].2 = true := by
      simp only [vfl, List.all_eq_true] at hv
      exact hv _ (List.getElem_mem hil)
    have hx1 : Bx (σ.push ⟨[.int .i64 0, .int .i64 0], 2, false⟩) σ.n [.int .i64 0, .int .i64 0] := Bx.push
    obtain ⟨σ2, a1, a2, a3⟩ := hx1.st (ws := FC l[i]) rfl rfl
    have hlt := hb.lt
    have hb2 : Bx σ2 0 (RC (sumQ (l.take i))) := (hb.old Old.push).but (by omega) a3
    have l4 := a2.rd (n := 2) rfl
    have l2 : cellsAt σ2 (.ptr σ.n 0) 1 = some [.int .i64 l[i].1] := by
      obtain ⟨⟨mm, hg⟩, _⟩ := a2
      simp [cellsAt, hg, getCells, dropN, takeN, FC]
    rw [List.drop_eq_getElem_cons hil, List.all_cons]
    by_cases ha : 0 ≤ l[i].1
    · have c1 := (r37 hvi).pure σ2 rfl rfl
      have hrb := rq_bd hvi
      have c2 := (r32 (hbd.mono (show 1 + i * 61 ≤ 1 + i * 61 + 60 by omega)) (hrb.mono (show 60 ≤ 1 + i * 61 + 60 by omega)) (by omega)).pure σ2 rfl rfl
      have hsum : RT (sumQ (l.take i) + rq l[i]) = .agg (RC (sumQ (l.take (i + 1)))) := by rw [sumQ_succ l i hil]; rfl
      obtain ⟨σ3, d1, d2, d3⟩ := hb2.st (ws := RC (sumQ (l.take (i + 1)))) rfl (RC_one _)
      have hbd2 : Bd (1 + (i + 1) * 61) (sumQ (l.take (i + 1))) := by
        rw [sumQ_succ l i hil]
        exact (hbd.add hrb).mono (by omega)
      obtain ⟨σ', k1⟩ := ih (i + 1) σ3 (by omega) d2 hbd2
      have hi1 : ((i + 1 : Nat) : Int) = (i : Int) + 1 := by omega
      rw [hi1] at k1
      refine ⟨σ', ?_⟩
      rw [decide_eq_true ha, Bool.true_and, ← k1]
      exact s43t l.length i (flat FC l) (FC l[i]) _ _ _ _ σ _ σ2 σ3 hil (FS_get hil σ) rfl rfl a1 l2 ha (hb2.rd rfl) l4 c1 (c2.trans (by rw [hsum])) rfl d1 (RC_eqv _) (wrapA_id (by omega) (by omega))
    · rw [decide_eq_false ha]
      exact ⟨σ2, s43f l.length i (flat FC l) (FC l[i]) _ σ _ σ2 hil (FS_get hil σ) rfl rfl a1 l2 (by omega)⟩
theorem r43 (l : List (Int × Int)) (hs : l.length ≤ 10000000) : FnV TT 43 [FS l] (.bool (isCh l)) := by
  have c0 := v67 l ⟨[], 0⟩ [FS l] rfl
  have c1 := v49 l.length 1 16 ⟨[], 0⟩ [.int .i64 l.length, .int .i64 1, .int .i64 16] rfl
  have c2 := r71 l hs ⟨[], 0⟩ [FS l] rfl
  by_cases h : 1 ≤ l.length ∧ l.length ≤ 16 ∧ vfl l = true
  · obtain ⟨h1, h2, h3⟩ := h
    rw [decide_eq_true (by omega), decide_eq_true (by omega)] at c1
    rw [h3] at c2
    have c3 := (r29 (n := 0) (by decide) (by decide)).pure ⟨[], 0⟩ rfl rfl
    have hb0 : Bx ((⟨[], 0⟩ : St).push ⟨[.bool false, .nilS, .nilS], 3, false⟩) 0 [.bool false, .nilS, .nilS] := Bx.push
    obtain ⟨σ1, a1, a2, a3⟩ := hb0.st (ws := RC 0) rfl (RC_one _)
    obtain ⟨σ', k1⟩ := l43 l h3 h2 l.length 0 σ1 (by omega) (by rw [List.take_zero]; exact a2) (by rw [List.take_zero]; exact ⟨by decide, by decide⟩)
    rw [List.drop_zero] at k1
    have e2 : isCh l = ((l.all fun x => decide (0 ≤ x.1)) && decide (sumQ l = 1)) := by
      unfold isCh; rw [decide_eq_true h1, decide_eq_true h2, h3]; rfl
    rw [e2]
    exact FnV.mk (c := b43) fn43 rfl md43 ⟨σ', (b43t l.length (flat FC l) (RC 0) σ1 c0 c1 c2 c3 rfl a1).trans k1⟩ (fun _ => rfl) rfl
  · have e2 : isCh l = false := by
      cases hx : isCh l with
      | false => rfl
      | true =>
        simp only [isCh, Bool.and_eq_true, decide_eq_true_eq] at hx
        exact absurd ⟨hx.1.1, hx.1.2, hx.2.1⟩ h
    rw [e2]
    refine FnV.mk (c := b43) fn43 rfl md43 ⟨⟨[], 0⟩, b43f l.length (flat FC l) _ _ _ c0 c1 c2 ?_⟩ (fun _ => rfl) rfl
    cases hq : (decide (1 ≤ (l.length : Int)) && decide ((l.length : Int) ≤ 16)) with
    | false => rfl
    | true =>
      cases hv : vfl l with
      | false => rfl
      | true =>
        simp only [Bool.and_eq_true, decide_eq_true_eq] at hq
        exact absurd ⟨by omega, by omega, hv⟩ h

set_option maxHeartbeats 2000000 in
theorem k39 (n : Nat) (cells : List AV) (d : Int) (q : Bool) (P : Int) (res : Bool) (c0 : ∀ σ, callI TT 67 [.lst n cells] σ = some (.int .i64 n, σ)) (c1 : ∀ σ, callI TT 66 [.int .i64 n] σ = some (.int .i64 d, σ)) (c2 : ∀ σ, callI TT 43 [.lst n cells] σ = some (.bool q, σ)) (hP : q = true → 1 ≤ d → wrapA .i64 (shlA 1 (min d.toNat IntKind.i64.bits)) = P) (hr : (q && (decide (1 ≤ d) && decide ((n : Int) = P))) = res) :
    ∃ σ1, exI TT (FI.of Tryz.f39 (TT.an 39)) [.code (Tryz.f39.body.getD .skip)] (paramsE 0 [.lst n cells]) ⟨[], 0⟩ = some (.tup [.int .i64 d, .bool res], σ1) := by
  refine ex1 ?_
  rw [fi39]
  simp only [Tryz.f39, Option.getD]
  cases q with
  | false =>
    subst hr
    simp (maxSteps := 1000000) (disch := omega) [cellsAt, getCells, takeN, dropN, fieldAddrA, allOne, AV.one, n_push, storeCellsA, putN, overN, St.push, St.get, St.set, hget, hset, blt_dec, buildA, sizesOf, fillA, putCells, List.take_succ_cons, List.take_zero, List.drop_succ_cons, List.drop_zero, List.nil_append, List.cons_append, List.length_cons, List.length_nil, eqvs_dgs, c0, c1, c2]
  | true =>
    by_cases h1 : 1 ≤ d
    · have hP := hP rfl h1
      have h0 : 0 ≤ d := by omega
      rw [decide_eq_true h1] at hr
      by_cases h2 : (n : Int) = P
      · rw [decide_eq_true h2] at hr
        subst hr
        subst h2
        simp (maxSteps := 1000000) (disch := omega) [cellsAt, getCells, takeN, dropN, fieldAddrA, allOne, AV.one, n_push, storeCellsA, putN, overN, St.push, St.get, St.set, hget, hset, blt_dec, buildA, sizesOf, fillA, putCells, List.take_succ_cons, List.take_zero, List.drop_succ_cons, List.drop_zero, List.nil_append, List.cons_append, List.length_cons, List.length_nil, eqvs_dgs, c0, c1, c2, hP]
      · rw [decide_eq_false h2] at hr
        subst hr
        simp (maxSteps := 1000000) (disch := omega) [cellsAt, getCells, takeN, dropN, fieldAddrA, allOne, AV.one, n_push, storeCellsA, putN, overN, St.push, St.get, St.set, hget, hset, blt_dec, buildA, sizesOf, fillA, putCells, List.take_succ_cons, List.take_zero, List.drop_succ_cons, List.drop_zero, List.nil_append, List.cons_append, List.length_cons, List.length_nil, eqvs_dgs, c0, c1, c2, hP, h2]
    · rw [decide_eq_false h1] at hr
      subst hr
      simp (maxSteps := 1000000) (disch := omega) [cellsAt, getCells, takeN, dropN, fieldAddrA, allOne, AV.one, n_push, storeCellsA, putN, overN, St.push, St.get, St.set, hget, hset, blt_dec, buildA, sizesOf, fillA, putCells, List.take_succ_cons, List.take_zero, List.drop_succ_cons, List.drop_zero, List.nil_append, List.cons_append, List.length_cons, List.length_nil, eqvs_dgs, c0, c1, c2]
theorem src_tab : ((List.range 17).all fun n => (n == 0) || ((decide (n = 2) || decide (n = 4) || decide (n = 8) || decide (n = 16)) == (decide (1 ≤ ((bl n : Nat) : Int) - 1) && decide (n = 2 ^ (bl n - 1)))) && decide (bl n ≤ 5)) = true := by decide +kernel
theorem isSrc_eq (l : List (Int × Int)) : isSrc l = (isCh l && (decide (l.length = 2) || decide (l.length = 4) || decide (l.length = 8) || decide (l.length = 16))) := by
  unfold isSrc srcBits
  cases hc : isCh l with
  | false => simp [bitsF, hc]
  | true =>
    simp only [bitsF, hc, and_true, Bool.true_and]
    by_cases h2 : l.length = 2 <;> by_cases h4 : l.length = 4 <;> by_cases h8 : l.length = 8 <;> by_cases h16 : l.length = 16 <;> simp [h2, h4, h8, h16] <;> omega
theorem r39 (l : List (Int × Int)) (hs : l.length ≤ 10000000) : FnV TT 39 [FS l] (.tup [.int .i64 ((bl l.length : Int) - 1), .bool (isSrc l)]) := by
  refine FnV.mk fn39 rfl md39 (k39 l.length (flat FC l) ((bl l.length : Int) - 1) (isCh l) ((2 ^ (bl l.length - 1) : Nat) : Int) (isSrc l) (fun σ => v67 l σ [FS l] rfl) (fun σ => v66 l.length (by omega) σ _ rfl) (fun σ => r43 l hs σ [FS l] rfl) (fun h1 h2 => ?_) ?_) (fun _ => rfl) rfl
  · have hb := bl_le (x := l.length) (k := 30) (by omega)
    rw [show ((bl l.length : Int) - 1).toNat = bl l.length - 1 by omega]
    exact pow_sh _ (by omega)
  · rw [isSrc_eq]
    cases hc : isCh l with
    | false => rfl
    | true =>
      have h12 : 1 ≤ l.length ∧ l.length ≤ 16 := by
        simp only [isCh, Bool.and_eq_true, decide_eq_true_eq] at hc; exact hc.1
      have ht := src_tab
      rw [List.all_eq_true] at ht
      have ht := ht l.length (List.mem_range.2 (by omega))
      have h0 : (l.length == 0) = false := by simp; intro h; rw [h] at h12; simp at h12
      rw [h0, Bool.false_or, Bool.and_eq_true, beq_iff_eq] at ht
      rw [ht.1]
      have hcast : decide ((l.length : Int) = ((2 ^ (bl l.length - 1) : Nat) : Int)) = decide (l.length = 2 ^ (bl l.length - 1)) := by
        generalize 2 ^ (bl l.length - 1) = P
        by_cases h : l.length = P
        · rw [decide_eq_true h, decide_eq_true (by omega)]
        · rw [decide_eq_false h, decide_eq_false (by omega)]
      rw [hcast]

theorem r13 (l : List (Int × Int)) (hs : l.length ≤ 10000000) : FnV TT 13 [FS l] (.bool (isSrc l)) := by
  refine FnV.mk (c := Tryz.f13.body.getD .skip) fn13 rfl md13 (ex1 ?_) (fun _ => rfl) rfl
  have c1 := fun σ : St => r39 l hs σ [FS l] rfl
  generalize isSrc l = b at *
  generalize (bl l.length : Int) - 1 = d at *
  rw [fi13]
  simp only [Tryz.f13, Option.getD]
  unfold FS at *
  simp (maxSteps := 1000000) (disch := omega) [cellsAt, getCells, takeN, dropN, fieldAddrA, allOne, AV.one, n_push, storeCellsA, putN, overN, St.push, St.get, St.set, hget, hset, blt_dec, buildA, sizesOf, fillA, putCells, List.take_succ_cons, List.take_zero, List.drop_succ_cons, List.drop_zero, List.nil_append, List.cons_append, List.length_cons, List.length_nil, eqvs_dgs, c1]

theorem put_el {pre z w suf : List AV} (hz : z.length = w.length) : putCells (pre ++ (z ++ suf)) pre.length w = pre ++ (w ++ suf) := by
  unfold putCells
  rw [List.take_left' rfl, ← List.drop_drop, List.drop_left, ← hz, List.drop_left, List.append_assoc]
theorem make_el {T : Tab} {σ : St} {st e : TypeId} {k : TK} {es y n : Nat} {z : List AV} (ht : T.ty st = some ⟨.slice e, 1, 24, [.nilS]⟩) (he : T.ty e = some ⟨k, es, y, z⟩) (hy : y ≤ 100) (hn : n ≤ 100000000000) :
    makeSliceA T σ st (.int .i64 n) (.int .i64 n) = some (.sl σ.n 0 n n, σ.push ⟨repeatCells z n, es, false⟩) := by
  unfold makeSliceA
  simp only [ht, he]
  have h1 : (n : Int) * (y : Int) ≤ 140737488355328 := by
    have : n * y ≤ 100000000000 * 100 := Nat.mul_le_mul hn hy
    rw [← Int.natCast_mul]; omega
  rw [if_pos ⟨by omega, by omega, h1, by omega⟩]
  simp
theorem FC_frz (σ : St) (d : Nat) (x : Int × Int) : mapO (frzV σ (d + 1)) (FC x) = some (FC x) := rfl
theorem RC_len (q : Rat) : (RC q).length = 3 := rfl
theorem RC_frz (σ : St) (d : Nat) (q : Rat) : mapO (frzV σ (d + 1)) (RC q) = some (RC q) := rfl
/-- A list of ratios. -/
def RS (l : List Rat) : AV := .lst l.length (flat RC l)
theorem RS_get {l : List Rat} {i : Nat} (h : i < l.length) (σ : St) : cellsAt σ (.lp (flat RC l) (i * 3)) 3 = some (RC l[i]) := flat_get RC_len l i _ (List.getElem?_eq_getElem h)
/-- A variable of a loop: a new box. -/
theorem new_box {σ : St} {z x : List AV} {m : Nat} (hz : z.length = x.length) (hx : allOne x = true) : ∃ σ2, storeCellsA (σ.push ⟨z, m, false⟩) σ.n 0 x = some σ2 ∧ Bx σ2 σ.n x ∧ Old σ σ2 ∧ σ2.n = σ.n + 1 := by
  have h1 : Bx (σ.push ⟨z, m, false⟩) σ.n z := Bx.push
  obtain ⟨σ2, a1, a2, a3⟩ := h1.st (ws := x) hz.symm hx
  exact ⟨σ2, a1, a2, ⟨by rw [a3.1]; exact Nat.le_succ _, fun c hc => by rw [a3.2 c (by omega)]; exact get_push_lt hc⟩, a3.1⟩
/-- A row of aggregates that is given away. -/
theorem _root_.Go.Abs.FnF.rowE {T : Tab} {f : FuncId} {v : AV} {cs : List AV} {e n c : Nat} (h : FnF T f [.lst n cs] v) {σ : St} {b : Nat} (hr : RowE σ b e cs) (hl : cs.length = n * e) (hf : mapO (frzV σ 5) cs = some cs) (h0 : cs.flatMap (rowsV σ 5) = []) (hc : n ≤ c) : ∃ σ', callI T f [.sl b 0 n c] σ = some (v, σ') ∧ But b σ σ' := by
  refine ⟨_, h σ [.sl b 0 n c] (mapO_cons (hr.frz (d := 4) hl hf hc) rfl), ?_⟩
  split
  · exact ⟨rfl, fun _ _ => rfl⟩
  · have : [AV.sl b 0 n c].flatMap (rowsV σ frzDepth) = [b] := by
      show rowsV σ frzDepth (.sl b 0 n c) ++ [] = [b]
      rw [List.append_nil, show frzDepth = 5 + 1 from rfl]
      obtain ⟨o, hg, _⟩ := hr
      have : getCells cs 0 (n * e) = some cs := by rw [getCells_eq, if_pos (by omega), List.drop_zero, List.take_of_length_le (by omega)]
      unfold rowsV
      simp only [hg, this, h0]
    rw [this]
    exact ⟨rfl, fun x hx => get_del_ne (fun e => hx e.symm)⟩
theorem flat_rows {α : Type} {f : α → List AV} {σ : St} {d : Nat} (hf : ∀ x, (f x).flatMap (rowsV σ d) = []) (l : List α) : (flat f l).flatMap (rowsV σ d) = [] := by
  induction l with
  | nil => rfl
  | cons x r ih => rw [flat, List.flatMap_cons, List.flatMap_append, hf]; exact ih
theorem mkRat_pos {n : Int} {d : Nat} (h : 0 ≤ n) : 0 ≤ mkRat n d := by rw [← Rat.divInt_ofNat]; exact Rat.divInt_nonneg h (Int.natCast_nonneg d)
/-- Sums. -/
def sumI (f : Nat → Rat) : Nat → Rat
  | 0 => 0
  | n + 1 => sumI f n + f n
def adQ (p q : List Rat) (i : Nat) : Rat := (p.getD i 0 - q.getD i 0).abs
def distQ (p q : List Rat) : Rat := sumI (adQ p q) p.length / 2
theorem getD_of {α : Type} {l : List α} {i : Nat} {d : α} (h : i < l.length) : l.getD i d = l[i] := by simp [List.getD_eq_getElem?_getD, h]
theorem adQ_of {p q : List Rat} {i : Nat} (h : i < p.length) (k : i < q.length) : adQ p q i = (p[i] - q[i]).abs := by rw [adQ, getD_of h, getD_of k]

noncomputable def b26 : Code := Tryz.f26.body.getD .skip
noncomputable def B26_0 : Code := (bodyC (bodyC (sndC (fstC (sndC (sndC b26))))))
noncomputable def K26_0 : List It := .lp B26_0 :: .blk 0 :: .code (sndC (sndC (sndC b26))) :: []
theorem xl26_0 {fi : FI} {env : Env} {σ : St} : exI TT fi K26_0 env σ = exI TT fi (.code B26_0 :: K26_0) env σ := by unfold K26_0; exact xI_lp
noncomputable def R26_0_0 : List It := .code (sndC (sndC (sndC b26))) :: []
theorem eK26_0_0 : exitA 0 K26_0 = some R26_0_0 := rfl
set_option maxHeartbeats 4000000 in
theorem s26 (n i b m b2 m2 : Nat) (cells x r : List AV) (σ σ2 σ3 σ4 : St) (hi : i < n) (l1 : cellsAt σ (.lp cells (i * 2)) 2 = some x) (hx : x.length = 2) (s1 : storeCellsA (σ.push ⟨[.int .i64 0, .int .i64 0], 2, false⟩) σ.n 0 x = some σ2) (l4 : cellsAt σ2 (.ptr σ.n 0) 2 = some x) (c1 : callI TT 37 [.agg x] σ2 = some (.agg r, σ2)) (c2 : buildSliceA TT σ2 51 1 [(0, .agg r)] = some (.sl σ2.n 0 1 1, σ3)) (c3 : appendA TT σ3 51 51 (.sl b 0 m m) (.sl σ2.n 0 1 1) = some (.sl b2 0 m2 m2, σ4)) (hw : wrapA .i64 ((i : Int) + 1) = (i : Int) + 1) :
    exI TT (FI.of Tryz.f26 (TT.an 26)) K26_0 [(3, .sl b 0 m m), (7, .lst n cells), (8, .int .i64 n), (9, .int .i64 i)] σ = exI TT (FI.of Tryz.f26 (TT.an 26)) K26_0 [(3, .sl b2 0 m2 m2), (7, .lst n cells), (8, .int .i64 n), (9, .int .i64 ((i : Int) + 1))] σ4 := by
  rw [fi26]
  conv => lhs; rw [xl26_0]
  simp only [B26_0, b26, Tryz.f26, Option.getD, fstC, sndC, bodyC, thnC, elsC]
  simp (maxSteps := 1000000) (disch := omega) [eK26_0_0, getCells, takeN, dropN, fieldAddrA, allOne, AV.one, n_push, putN, overN, blt_dec, buildA, sizesOf, fillA, putCells, List.take_succ_cons, List.take_zero, List.drop_succ_cons, List.drop_zero, List.nil_append, List.cons_append, List.length_cons, List.length_nil, eqvs_dgs, hi, l1, hx, s1, l4, c1, c2, c3, hw]
set_option maxHeartbeats 4000000 in
theorem e26 (n b m : Nat) (cells : List AV) (σ : St)  :
    exI TT (FI.of Tryz.f26 (TT.an 26)) K26_0 [(3, .sl b 0 m m), (7, .lst n cells), (8, .int .i64 n), (9, .int .i64 n)] σ = some (.sl b 0 m m, σ) := by
  rw [fi26]
  conv => lhs; rw [xl26_0]
  simp only [B26_0, b26, Tryz.f26, Option.getD, fstC, sndC, bodyC, thnC, elsC]
  simp (maxSteps := 1000000) (disch := omega) [eK26_0_0, cellsAt, getCells, takeN, dropN, fieldAddrA, allOne, AV.one, n_push, storeCellsA, putN, overN, St.push, St.get, St.set, hget, hset, blt_dec, buildA, sizesOf, fillA, putCells, List.take_succ_cons, List.take_zero, List.drop_succ_cons, List.drop_zero, List.nil_append, List.cons_append, List.length_cons, List.length_nil, eqvs_dgs]
  simp only [R26_0_0, b26, Tryz.f26, Option.getD, fstC, sndC, bodyC, thnC, elsC]
  simp (maxSteps := 1000000) (disch := omega) [eK26_0_0, cellsAt, getCells, takeN, dropN, fieldAddrA, allOne, AV.one, n_push, storeCellsA, putN, overN, St.push, St.get, St.set, hget, hset, blt_dec, buildA, sizesOf, fillA, putCells, List.take_succ_cons, List.take_zero, List.drop_succ_cons, List.drop_zero, List.nil_append, List.cons_append, List.length_cons, List.length_nil, eqvs_dgs]
set_option maxHeartbeats 4000000 in
theorem b26e (n : Nat) (cells : List AV) (σ1 : St) (c1 : buildSliceA TT ⟨[], 0⟩ 51 0 [] = some (.sl 0 0 0 0, σ1)) :
    exI TT (FI.of Tryz.f26 (TT.an 26)) [.code b26] (paramsE 0 [.lst n cells]) ⟨[], 0⟩ = exI TT (FI.of Tryz.f26 (TT.an 26)) K26_0 [(3, .sl 0 0 0 0), (7, .lst n cells), (8, .int .i64 n), (9, .int .i64 0)] σ1 := by
  rw [fi26]
  simp only [b26, Tryz.f26, Option.getD, fstC, sndC, bodyC, thnC, elsC]
  simp (maxSteps := 1000000) (disch := omega) [eK26_0_0, cellsAt, getCells, takeN, dropN, fieldAddrA, allOne, AV.one, n_push, storeCellsA, putN, overN, St.push, St.get, St.set, hget, hset, blt_dec, buildA, sizesOf, fillA, putCells, List.take_succ_cons, List.take_zero, List.drop_succ_cons, List.drop_zero, List.nil_append, List.cons_append, List.length_cons, List.length_nil, eqvs_dgs, c1]
  rfl
theorem l26 (l : List (Int × Int)) (hv : vfl l = true) (hs : l.length ≤ 1000000) : ∀ (m i b : Nat) (σ : St), i + m = l.length → RowE σ b 3 (flat RC ((l.take i).map rq)) →
    ∃ b' σ', exI TT (FI.of Tryz.f26 (TT.an 26)) K26_0 [(3, .sl b 0 i i), (7, FS l), (8, .int .i64 l.length), (9, .int .i64 i)] σ = some (.sl b' 0 l.length l.length, σ') ∧ RowE σ' b' 3 (flat RC (l.map rq)) := by
  intro m
  induction m with
  | zero =>
    intro i b σ hi hr
    obtain rfl : i = l.length := by omega
    rw [List.take_of_length_le (Nat.le_refl _)] at hr
    exact ⟨b, σ, e26 l.length b l.length (flat FC l) σ, hr⟩
  | succ m ih =>
    intro i b σ hi hr
    have hil : i < l.length := by omega
    have hvi : vfr l[i].1 l[i].2 = true := by
      simp only [vfl, List.all_eq_true] at hv
      exact hv _ (List.getElem_mem hil)
    obtain ⟨σ2, a1, a2, a3, a4⟩ := new_box (σ := σ) (z := [.int .i64 0, .int .i64 0]) (x := FC l[i]) (m := 2) rfl rfl
    have c1 := (r37 hvi).pure σ2 rfl rfl
    have c2 := build_el (T := TT) (σ := σ2) (st := 51) (w := RC (rq l[i])) ty51 ty57 (by decide) rfl rfl rfl
    have hr2 := hr.old a3
    obtain ⟨σ4, d1, d2, _⟩ := append_el (T := TT) (st := 51) (n := i) ty51 ty57 (fun _ _ => trivial) (by decide) (RC_len (rq l[i])) (RC_one _) (by rw [flat_len RC_len]; simp; omega) hr2 (by omega)
    have e : flat RC ((l.take i).map rq) ++ RC (rq l[i]) = flat RC ((l.take (i + 1)).map rq) := by
      rw [List.take_succ_eq_append_getElem hil, List.map_append, flat_app]; simp [flat]
    rw [e] at d2
    obtain ⟨b', σ', k1, k2⟩ := ih (i + 1) (σ2.n + 1) σ4 (by omega) d2
    refine ⟨b', σ', ?_, k2⟩
    rw [← k1]
    have hi1 : ((i + 1 : Nat) : Int) = (i : Int) + 1 := by omega
    rw [hi1]
    exact s26 l.length i b i (σ2.n + 1) (i + 1) (flat FC l) (FC l[i]) (RC (rq l[i])) σ σ2 _ σ4 hil (FS_get hil σ) rfl a1 (a2.rd rfl) c1 c2 d1 (wrapA_id (by omega) (by omega))
theorem r26 (l : List (Int × Int)) (hv : vfl l = true) (hs : l.length ≤ 1000000) : FnF TT 26 [FS l] (RS (l.map rq)) := by
  have hb := build_e0 (T := TT) (σ := ⟨[], 0⟩) (st := 51) ty51 ty57
  obtain ⟨b', σ', k1, k2⟩ := l26 l hv hs l.length 0 0 _ (by omega) (RowE.push (σ := ⟨[], 0⟩) (cs := []) (e := 3) (o := false))
  refine FnF.mk (c := b26) fn26 rfl md26 ⟨σ', _, (b26e _ _ _ hb).trans k1, ?_⟩
  have := k2.frz (d := 4) (n := l.length) (c := l.length) (by rw [flat_len RC_len]; simp) (flat_frz (fun v => RC_frz σ' 4 v) _) (Nat.le_refl _)
  rw [show RS (l.map rq) = .lst l.length (flat RC (l.map rq)) by simp [RS]]
  exact this

noncomputable def b44 : Code := Tryz.f44.body.getD .skip
noncomputable def B44_0 : Code := (bodyC (bodyC (sndC (fstC (sndC (sndC b44))))))
noncomputable def K44_0 : List It := .lp B44_0 :: .blk 0 :: .code (sndC (sndC (sndC b44))) :: []
theorem xl44_0 {fi : FI} {env : Env} {σ : St} : exI TT fi K44_0 env σ = exI TT fi (.code B44_0 :: K44_0) env σ := by unfold K44_0; exact xI_lp
noncomputable def R44_0_0 : List It := .code (sndC (sndC (sndC b44))) :: []
theorem eK44_0_0 : exitA 0 K44_0 = some R44_0_0 := rfl
set_option maxHeartbeats 4000000 in
theorem s44 (n i n2 : Nat) (cells cells2 x y s u v t : List AV) (σ σ2 σ3 : St) (hi : i < n) (hi2 : i < n2) (l1 : cellsAt σ (.lp cells (i * 3)) 3 = some x) (hx : x.length = 3) (s1 : storeCellsA (σ.push ⟨[.bool false, .nilS, .nilS], 3, false⟩) σ.n 0 x = some σ2) (l3 : cellsAt σ2 (.ptr 1 0) 3 = some s) (l4 : cellsAt σ2 (.ptr σ.n 0) 3 = some x) (l5 : cellsAt σ2 (.lp cells2 (i * 3)) 3 = some y) (c1 : callI TT 64 [.agg x, .agg y] σ2 = some (.agg u, σ2)) (c2 : callI TT 72 [.agg u] σ2 = some (.agg v, σ2)) (c3 : callI TT 32 [.agg s, .agg v] σ2 = some (.agg t, σ2)) (ht : t.length = 3) (s2 : storeCellsA σ2 1 0 t = some σ3) (hes : eqvs s s = true) (hw : wrapA .i64 ((i : Int) + 1) = (i : Int) + 1) :
    exI TT (FI.of Tryz.f44 (TT.an 44)) K44_0 [(1, .lst n2 cells2), (4, .ptr 0 0), (5, .ptr 1 0), (9, .lst n cells), (10, .int .i64 n), (11, .int .i64 i)] σ = exI TT (FI.of Tryz.f44 (TT.an 44)) K44_0 [(1, .lst n2 cells2), (4, .ptr 0 0), (5, .ptr 1 0), (9, .lst n cells), (10, .int .i64 n), (11, .int .i64 ((i : Int) + 1))] σ3 := by
  rw [fi44]
  conv => lhs; rw [xl44_0]
  simp only [B44_0, b44, Tryz.f44, Option.getD, fstC, sndC, bodyC, thnC, elsC]
  simp (maxSteps := 1000000) (disch := omega) [eK44_0_0, getCells, takeN, dropN, fieldAddrA, allOne, AV.one, n_push, putN, overN, blt_dec, buildA, sizesOf, fillA, putCells, List.take_succ_cons, List.take_zero, List.drop_succ_cons, List.drop_zero, List.nil_append, List.cons_append, List.length_cons, List.length_nil, eqvs_dgs, hi, hi2, l1, hx, s1, l3, l4, l5, c1, c2, c3, ht, s2, hes, hw]
set_option maxHeartbeats 4000000 in
theorem e44 (n n2 : Nat) (cells cells2 s o t : List AV) (σ σ1 : St) (l3 : cellsAt σ (.ptr 1 0) 3 = some s) (c1 : callI TT 29 [.int .i64 2] σ = some (.agg o, σ)) (c2 : callI TT 33 [.agg s, .agg o] σ = some (.agg t, σ)) (ht : t.length = 3) (s1 : storeCellsA σ 0 0 t = some σ1) (l4 : cellsAt σ1 (.ptr 0 0) 3 = some t) (hes : eqvs s s = true) :
    exI TT (FI.of Tryz.f44 (TT.an 44)) K44_0 [(1, .lst n2 cells2), (4, .ptr 0 0), (5, .ptr 1 0), (9, .lst n cells), (10, .int .i64 n), (11, .int .i64 n)] σ = some (.agg t, σ1) := by
  rw [fi44]
  conv => lhs; rw [xl44_0]
  simp only [B44_0, b44, Tryz.f44, Option.getD, fstC, sndC, bodyC, thnC, elsC]
  simp (maxSteps := 1000000) (disch := omega) [eK44_0_0, getCells, takeN, dropN, fieldAddrA, allOne, AV.one, n_push, putN, overN, blt_dec, buildA, sizesOf, fillA, putCells, List.take_succ_cons, List.take_zero, List.drop_succ_cons, List.drop_zero, List.nil_append, List.cons_append, List.length_cons, List.length_nil, eqvs_dgs, l3, c1, c2, ht, s1, l4, hes]
  simp only [R44_0_0, b44, Tryz.f44, Option.getD, fstC, sndC, bodyC, thnC, elsC]
  simp (maxSteps := 1000000) (disch := omega) [eK44_0_0, getCells, takeN, dropN, fieldAddrA, allOne, AV.one, n_push, putN, overN, blt_dec, buildA, sizesOf, fillA, putCells, List.take_succ_cons, List.take_zero, List.drop_succ_cons, List.drop_zero, List.nil_append, List.cons_append, List.length_cons, List.length_nil, eqvs_dgs, l3, c1, c2, ht, s1, l4, hes]
set_option maxHeartbeats 4000000 in
theorem b44e (n n2 : Nat) (cells cells2 o : List AV) (σ1 σ2 σ3 : St) (h1 : (⟨[], 0⟩ : St).push ⟨[.bool false, .nilS, .nilS], 3, false⟩ = σ1) (hn : σ1.n = 1) (c1 : callI TT 29 [.int .i64 0] σ1 = some (.agg o, σ1)) (ho : o.length = 3) (h2 : σ1.push ⟨[.bool false, .nilS, .nilS], 3, false⟩ = σ2) (s1 : storeCellsA σ2 1 0 o = some σ3) :
    exI TT (FI.of Tryz.f44 (TT.an 44)) [.code b44] (paramsE 0 [.lst n cells, .lst n2 cells2]) ⟨[], 0⟩ = exI TT (FI.of Tryz.f44 (TT.an 44)) K44_0 [(1, .lst n2 cells2), (4, .ptr 0 0), (5, .ptr 1 0), (9, .lst n cells), (10, .int .i64 n), (11, .int .i64 0)] σ3 := by
  rw [fi44]
  simp only [b44, Tryz.f44, Option.getD, fstC, sndC, bodyC, thnC, elsC]
  simp (maxSteps := 1000000) (disch := omega) [eK44_0_0, getCells, takeN, dropN, fieldAddrA, allOne, AV.one, n_push, putN, overN, blt_dec, buildA, sizesOf, fillA, putCells, List.take_succ_cons, List.take_zero, List.drop_succ_cons, List.drop_zero, List.nil_append, List.cons_append, List.length_cons, List.length_nil, eqvs_dgs, h1, hn, c1, ho, h2, s1]
  rfl
theorem l44 (p q : List Rat) (hpq : q.length = p.length) (k : Nat) (hp : ∀ x ∈ p, Bd k x) (hq : ∀ x ∈ q, Bd k x) (hk : (p.length + 1) * (2 * k + 3) ≤ 400000000) : ∀ (m i : Nat) (σ : St), i + m = p.length → Bx σ 1 (RC (sumI (adQ p q) i)) → Bd (2 + i * (2 * k + 2)) (sumI (adQ p q) i) → (∃ z, Bx σ 0 z ∧ z.length = 3) →
    ∃ σ', exI TT (FI.of Tryz.f44 (TT.an 44)) K44_0 [(1, RS q), (4, .ptr 0 0), (5, .ptr 1 0), (9, RS p), (10, .int .i64 p.length), (11, .int .i64 i)] σ = some (RT (distQ p q), σ') := by
  have hkk : p.length * (2 * k + 2) + (2 * k + 3) ≤ 400000000 := by
    have e : (p.length + 1) * (2 * k + 3) = p.length * (2 * k + 3) + (2 * k + 3) := by rw [Nat.add_mul, Nat.one_mul]
    have : p.length * (2 * k + 2) ≤ p.length * (2 * k + 3) := Nat.mul_le_mul_left _ (by omega)
    omega
  have hpl : p.length ≤ p.length * (2 * k + 2) := Nat.le_mul_of_pos_right _ (by omega)
  intro m
  induction m with
  | zero =>
    intro i σ hi hb hbd hz
    obtain rfl : i = p.length := by omega
    have co := (r29 (n := 2) (by decide) (by decide)).pure σ rfl rfl
    have b2 : Bd (2 + p.length * (2 * k + 2)) (mkRat 2 1) := (show Bd 2 (mkRat 2 1) from ⟨by decide, by decide⟩).mono (by omega)
    have cv := (r33 hbd b2 (by decide) (by omega)).pure σ rfl rfl
    obtain ⟨z, hz, hzl⟩ := hz
    obtain ⟨σ1, a1, a2, a3⟩ := hz.st (ws := RC (sumI (adQ p q) p.length / mkRat 2 1)) (by rw [hzl]; rfl) (RC_one _)
    exact ⟨σ1, e44 p.length q.length (flat RC p) (flat RC q) _ _ _ σ σ1 (hb.rd rfl) co cv rfl a1 (a2.rd rfl) (RC_eqv _)⟩
  | succ m ih =>
    intro i σ hi hb hbd hz
    have hil : i < p.length := by omega
    have hiq : i < q.length := by omega
    obtain ⟨σ2, a1, a2, a3, a4⟩ := new_box (σ := σ) (z := [.bool false, .nilS, .nilS]) (x := RC p[i]) (m := 3) rfl rfl
    have hb2 := hb.old a3
    obtain ⟨z, hz, hzl⟩ := hz
    have hz2 := hz.old a3
    have bp := hp _ (List.getElem_mem hil)
    have bq := hq _ (List.getElem_mem hiq)
    have cm := (r64 bp bq (by omega)).pure σ2 rfl rfl
    have bm := bp.sub bq
    have ca := (r72 (p[i] - q[i])).pure σ2 rfl rfl
    have hmul : i * (2 * k + 2) ≤ p.length * (2 * k + 2) := Nat.mul_le_mul_right _ (by omega)
    have cp := (r32 (hbd.mono (show _ ≤ 2 + i * (2 * k + 2) + (k + k + 1) by omega)) (bm.abs.mono (show _ ≤ 2 + i * (2 * k + 2) + (k + k + 1) by omega)) (by omega)).pure σ2 rfl rfl
    have hs : sumI (adQ p q) (i + 1) = sumI (adQ p q) i + (p[i] - q[i]).abs := by rw [sumI, adQ_of hil hiq]
    obtain ⟨σ3, d1, d2, d3⟩ := hb2.st (ws := RC (sumI (adQ p q) (i + 1))) rfl (RC_one _)
    have hbd2 : Bd (2 + (i + 1) * (2 * k + 2)) (sumI (adQ p q) (i + 1)) := by
      rw [hs]
      exact (hbd.add bm.abs).mono (by rw [Nat.add_mul]; omega)
    obtain ⟨σ', k1⟩ := ih (i + 1) σ3 (by omega) d2 hbd2 ⟨z, hz2.but (by decide) d3, hzl⟩
    have hi1 : ((i + 1 : Nat) : Int) = (i : Int) + 1 := by omega
    rw [hi1] at k1
    refine ⟨σ', ?_⟩
    rw [← k1]
    exact s44 p.length i q.length (flat RC p) (flat RC q) (RC p[i]) (RC q[i]) _ _ _ (RC (sumI (adQ p q) (i + 1))) σ σ2 σ3 hil hiq (RS_get hil σ) rfl a1 (hb2.rd rfl) (a2.rd rfl) (RS_get hiq σ2) cm ca (cp.trans (by rw [hs]; rfl)) rfl d1 (RC_eqv _) (wrapA_id (by omega) (by omega))
theorem r44 (p q : List Rat) (hpq : q.length = p.length) (k : Nat) (hp : ∀ x ∈ p, Bd k x) (hq : ∀ x ∈ q, Bd k x) (hk : (p.length + 1) * (2 * k + 3) ≤ 400000000) : FnF TT 44 [RS p, RS q] (RT (distQ p q)) := by
  have co := fun σ : St => (r29 (n := 0) (by decide) (by decide)).pure σ rfl rfl
  have hb1 : Bx (((⟨[], 0⟩ : St).push ⟨[.bool false, .nilS, .nilS], 3, false⟩).push ⟨[.bool false, .nilS, .nilS], 3, false⟩) 1 [.bool false, .nilS, .nilS] := Bx.push
  have hb0 : Bx (((⟨[], 0⟩ : St).push ⟨[.bool false, .nilS, .nilS], 3, false⟩).push ⟨[.bool false, .nilS, .nilS], 3, false⟩) 0 [.bool false, .nilS, .nilS] := Bx.push.old Old.push
  obtain ⟨σ3, a1, a2, a3⟩ := hb1.st (ws := RC (mkRat 0 1)) rfl (RC_one _)
  obtain ⟨σ', h1⟩ := l44 p q hpq k hp hq hk p.length 0 σ3 (by omega) a2 ((show Bd 2 (0 : Rat) from ⟨by decide +kernel, by decide +kernel⟩).mono (by omega)) ⟨_, hb0.but (by decide) a3, rfl⟩
  refine FnF.mkv (c := b44) fn44 rfl md44 ⟨σ', ?_⟩ (fun _ => rfl)
  refine Eq.trans ?_ h1
  exact b44e _ _ _ _ _ _ _ σ3 rfl rfl (co _) rfl rfl a1

theorem Bx.keep4 {σ σ' : St} {b c : Nat} {vs : List AV} (h : Bx σ c vs) (hc : c ≠ b) (k : ∀ x, x ≠ b → x < σ.n → σ'.get x = σ.get x) (hn : σ.n < σ'.n) : Bx σ' c vs := by
  obtain ⟨⟨m, hg⟩, hlt⟩ := h
  exact ⟨⟨m, by rw [k c hc hlt]; exact hg⟩, by omega⟩
set_option maxHeartbeats 4000000 in
theorem k17f1 (n n2 : Nat) (cells cells2 : List AV) (c1 : ∀ σ, callI TT 43 [.lst n cells] σ = some (.bool false, σ)) :
    ∃ σ', exI TT (FI.of Tryz.f17 (TT.an 17)) [.code (Tryz.f17.body.getD .skip)] (paramsE 0 [.lst n cells, .lst n2 cells2]) ⟨[], 0⟩ = some (.tup [.agg [.int .i64 0, .int .i64 0], .bool false], σ') := by
  refine ex1 ?_
  rw [fi17]
  simp only [Tryz.f17, Option.getD]
  simp (maxSteps := 1000000) (disch := omega) [cellsAt, getCells, takeN, dropN, fieldAddrA, allOne, AV.one, n_push, storeCellsA, putN, overN, St.push, St.get, St.set, hget, hset, blt_dec, buildA, sizesOf, fillA, putCells, List.take_succ_cons, List.take_zero, List.drop_succ_cons, List.drop_zero, List.nil_append, List.cons_append, List.length_cons, List.length_nil, eqvs_dgs, c1]
set_option maxHeartbeats 4000000 in
theorem k17f2 (n n2 : Nat) (cells cells2 : List AV) (c1 : ∀ σ, callI TT 43 [.lst n cells] σ = some (.bool true, σ)) (c2 : ∀ σ, callI TT 43 [.lst n2 cells2] σ = some (.bool false, σ)) :
    ∃ σ', exI TT (FI.of Tryz.f17 (TT.an 17)) [.code (Tryz.f17.body.getD .skip)] (paramsE 0 [.lst n cells, .lst n2 cells2]) ⟨[], 0⟩ = some (.tup [.agg [.int .i64 0, .int .i64 0], .bool false], σ') := by
  refine ex1 ?_
  rw [fi17]
  simp only [Tryz.f17, Option.getD]
  simp (maxSteps := 1000000) (disch := omega) [cellsAt, getCells, takeN, dropN, fieldAddrA, allOne, AV.one, n_push, storeCellsA, putN, overN, St.push, St.get, St.set, hget, hset, blt_dec, buildA, sizesOf, fillA, putCells, List.take_succ_cons, List.take_zero, List.drop_succ_cons, List.drop_zero, List.nil_append, List.cons_append, List.length_cons, List.length_nil, eqvs_dgs, c1, c2]
set_option maxHeartbeats 4000000 in
theorem k17f3 (n n2 : Nat) (cells cells2 : List AV) (c1 : ∀ σ, callI TT 43 [.lst n cells] σ = some (.bool true, σ)) (c2 : ∀ σ, callI TT 43 [.lst n2 cells2] σ = some (.bool true, σ)) (h0 : ieqb (n : Int) n2 = false) :
    ∃ σ', exI TT (FI.of Tryz.f17 (TT.an 17)) [.code (Tryz.f17.body.getD .skip)] (paramsE 0 [.lst n cells, .lst n2 cells2]) ⟨[], 0⟩ = some (.tup [.agg [.int .i64 0, .int .i64 0], .bool false], σ') := by
  refine ex1 ?_
  rw [fi17]
  simp only [Tryz.f17, Option.getD]
  simp (maxSteps := 1000000) (disch := omega) [cellsAt, getCells, takeN, dropN, fieldAddrA, allOne, AV.one, n_push, storeCellsA, putN, overN, St.push, St.get, St.set, hget, hset, blt_dec, buildA, sizesOf, fillA, putCells, List.take_succ_cons, List.take_zero, List.drop_succ_cons, List.drop_zero, List.nil_append, List.cons_append, List.length_cons, List.length_nil, eqvs_dgs, c1, c2, h0]
theorem k17f (n n2 : Nat) (cells cells2 : List AV) (b1 b2 : Bool) (c1 : ∀ σ, callI TT 43 [.lst n cells] σ = some (.bool b1, σ)) (c2 : ∀ σ, callI TT 43 [.lst n2 cells2] σ = some (.bool b2, σ)) (h0 : b1 = true → b2 = true → ieqb (n : Int) n2 = false) : ∃ σ', exI TT (FI.of Tryz.f17 (TT.an 17)) [.code (Tryz.f17.body.getD .skip)] (paramsE 0 [.lst n cells, .lst n2 cells2]) ⟨[], 0⟩ = some (.tup [.agg [.int .i64 0, .int .i64 0], .bool false], σ') := by
  cases b1 with
  | false => exact k17f1 n n2 cells cells2 c1
  | true => cases b2 with
    | false => exact k17f2 n n2 cells cells2 c1 c2
    | true => exact k17f3 n n2 cells cells2 c1 c2 (h0 rfl rfl)
set_option maxHeartbeats 4000000 in
theorem k17t (n : Nat) (cells cells2 w1 w2 t : List AV) (a b : Int) (c : Bool) (c1 : ∀ σ, callI TT 43 [.lst n cells] σ = some (.bool true, σ)) (c2 : ∀ σ, callI TT 43 [.lst n cells2] σ = some (.bool true, σ)) (c3 : ∀ σ, callI TT 26 [.lst n cells] σ = some (.lst n w1, σ)) (c4 : ∀ σ, callI TT 26 [.lst n cells2] σ = some (.lst n w2, σ)) (c5 : ∀ σ, callI TT 44 [.lst n w1, .lst n w2] σ = some (.agg t, σ)) (c6 : ∀ σ, callI TT 28 [.agg t] σ = some (.tup [.agg [.int .i64 a, .int .i64 b], .bool c], σ)) :
    ∃ σ', exI TT (FI.of Tryz.f17 (TT.an 17)) [.code (Tryz.f17.body.getD .skip)] (paramsE 0 [.lst n cells, .lst n cells2]) ⟨[], 0⟩ = some (.tup [.agg [.int .i64 a, .int .i64 b], .bool c], σ') := by
  refine ex1 ?_
  rw [fi17]
  simp only [Tryz.f17, Option.getD]
  simp (maxSteps := 1000000) (disch := omega) [cellsAt, getCells, takeN, dropN, fieldAddrA, allOne, AV.one, n_push, storeCellsA, putN, overN, St.push, St.get, St.set, hget, hset, blt_dec, buildA, sizesOf, fillA, putCells, List.take_succ_cons, List.take_zero, List.drop_succ_cons, List.drop_zero, List.nil_append, List.cons_append, List.length_cons, List.length_nil, eqvs_dgs, c1, c2, c3, c4, c5, c6]
def frF : AV := .tup [.agg [.int .i64 0, .int .i64 0], .bool false]
theorem frA_is (q : Rat) : ∃ a b c, frA q = .tup [.agg [.int .i64 a, .int .i64 b], .bool c] := by
  unfold frA
  split <;> exact ⟨_, _, _, rfl⟩
theorem frA_frz (q : Rat) (σ : St) : frzV σ frzDepth (frA q) = some (frA q) := by
  obtain ⟨a, b, c, h⟩ := frA_is q
  rw [h]; rfl
theorem frA_scal (q : Rat) : (frA q).scal = true := by
  obtain ⟨a, b, c, h⟩ := frA_is q
  rw [h]; rfl
def valDist (l l2 : List (Int × Int)) : AV := if (isCh l && (isCh l2 && decide (l.length = l2.length))) = true then frA (distQ (l.map rq) (l2.map rq)) else frF
theorem isCh_b {l : List (Int × Int)} (h : isCh l = true) : 1 ≤ l.length ∧ l.length ≤ 16 ∧ vfl l = true ∧ (∀ x ∈ l, 0 ≤ x.1) ∧ sumQ l = 1 := by
  simp only [isCh, Bool.and_eq_true, decide_eq_true_eq, List.all_eq_true] at h
  exact ⟨h.1.1, h.1.2, h.2.1, h.2.2.1, h.2.2.2⟩
theorem rq_bds {l : List (Int × Int)} (h : vfl l = true) : ∀ x ∈ l.map rq, Bd 60 x := by
  intro x hx
  obtain ⟨y, hy, rfl⟩ := List.mem_map.1 hx
  simp only [vfl, List.all_eq_true] at h
  exact rq_bd (h y hy)
theorem distQ_bd {p q : List Rat} {k : Nat} (hpq : q.length = p.length) (hp : ∀ x ∈ p, Bd k x) (hq : ∀ x ∈ q, Bd k x) : Bd (4 + p.length * (2 * k + 2)) (distQ p q) := by
  have h : ∀ n, n ≤ p.length → Bd (2 + n * (2 * k + 2)) (sumI (adQ p q) n) := by
    intro n
    induction n with
    | zero => intro _; exact (show Bd 2 (0 : Rat) from ⟨by decide +kernel, by decide +kernel⟩).mono (by omega)
    | succ n ih =>
      intro hn
      have h1 : n < p.length := by omega
      have h2 : n < q.length := by omega
      rw [sumI, adQ_of h1 h2]
      exact ((ih (by omega)).add ((hp _ (List.getElem_mem h1)).sub (hq _ (List.getElem_mem h2))).abs).mono (by rw [Nat.add_mul]; omega)
  have h2 : Bd 2 ((2 : Rat)⁻¹) := ⟨by decide +kernel, by decide +kernel⟩
  rw [distQ, Rat.div_def]
  exact ((h p.length (Nat.le_refl _)).mul h2).mono (by omega)
theorem r17 (l l2 : List (Int × Int)) (hs : l.length ≤ 10000000) (hs2 : l2.length ≤ 10000000) : FnV TT 17 [FS l, FS l2] (valDist l l2) := by
  have c1 := fun σ : St => r43 l hs σ [FS l] rfl
  have c2 := fun σ : St => r43 l2 hs2 σ [FS l2] rfl
  unfold valDist
  by_cases h : isCh l = true ∧ isCh l2 = true ∧ l.length = l2.length
  · obtain ⟨h1, h2, h3⟩ := h
    rw [if_pos (by simp [h1, h2, h3])]
    rw [h1] at c1
    rw [h2] at c2
    obtain ⟨a1, a2, a3, _, _⟩ := isCh_b h1
    obtain ⟨b1, b2, b3, _, _⟩ := isCh_b h2
    have c3 := r26 l a3 (by omega)
    have c4 := r26 l2 b3 (by omega)
    have hlen : (l2.map rq).length = (l.map rq).length := by simp [h3]
    have hll : (l.map rq).length = l.length := by simp
    have hmul : (l.length + 1) * (2 * 60 + 3) ≤ 17 * 123 := Nat.mul_le_mul (by omega) (by decide)
    have c5 := r44 (l.map rq) (l2.map rq) hlen 60 (rq_bds a3) (rq_bds b3) (by rw [hll]; omega)
    have hmul2 : l.length * (2 * 60 + 2) ≤ 16 * 122 := Nat.mul_le_mul a2 (by decide)
    have c6 := r28 (distQ_bd hlen (rq_bds a3) (rq_bds b3)) (by rw [hll]; omega)
    generalize distQ (l.map rq) (l2.map rq) = d at *
    have f1 := frA_frz d
    have f2 := frA_scal d
    obtain ⟨a, b, c, hR⟩ := frA_is d
    rw [hR] at c6 f1 f2 ⊢
    have e1 : RS (l.map rq) = .lst l.length (flat RC (l.map rq)) := by simp [RS]
    have e2 : RS (l2.map rq) = .lst l.length (flat RC (l2.map rq)) := by simp [RS, h3]
    rw [e1] at c3 c5
    rw [e2] at c4 c5
    have e3 : FS l2 = .lst l.length (flat FC l2) := by rw [FS, h3]
    rw [e3] at c2 c4 ⊢
    exact FnV.mk fn17 rfl md17 (k17t l.length (flat FC l) (flat FC l2) _ _ _ a b c c1 c2 (fun σ => c3.pure σ rfl rfl) (fun σ => c4.pure σ rfl rfl) (fun σ => c5.pure σ rfl rfl) (fun σ => c6 σ _ rfl)) f1 f2
  · rw [if_neg (by simpa using h)]
    exact FnV.mk fn17 rfl md17 (k17f _ _ _ _ _ _ c1 c2 (fun h1 h2 => ieqb_f fun h3 => h ⟨h1, h2, by omega⟩)) (fun _ => rfl) rfl
def gmax (m x : Int × Int) : Int × Int := if 0 < cmpR (rq x) (rq m) then x else m
theorem FC_eqv (x : Int × Int) : eqvs (FC x) (FC x) = true := by simp [FC, eqvs, AV.eqv]
def greatF (l : List (Int × Int)) : Int × Int := (l.drop 1).foldl gmax (l.getD 0 (0, 1))
def valGreat (l : List (Int × Int)) : AV := if isSrc l = true then .tup [.agg (FC (greatF l)), .bool true] else frF
theorem isSrc_b {l : List (Int × Int)} (h : isSrc l = true) : isCh l = true ∧ 2 ≤ l.length := by
  rw [isSrc_eq] at h
  simp only [Bool.and_eq_true, Bool.or_eq_true, decide_eq_true_eq] at h
  exact ⟨h.1, by omega⟩
theorem vfl_get {l : List (Int × Int)} (hv : vfl l = true) {i : Nat} (h : i < l.length) : vfr l[i].1 l[i].2 = true := by
  simp only [vfl, List.all_eq_true] at hv
  exact hv _ (List.getElem_mem h)


set_option maxHeartbeats 4000000 in
theorem k36 (x1 x2 y1 y2 : Int) (s t : List AV) (z : Int) (c1 : ∀ σ, callI TT 37 [.agg [.int .i64 x1, .int .i64 x2]] σ = some (.agg s, σ)) (c2 : ∀ σ, callI TT 37 [.agg [.int .i64 y1, .int .i64 y2]] σ = some (.agg t, σ)) (c3 : ∀ σ, callI TT 38 [.agg s, .agg t] σ = some (.int .i64 z, σ)) (hs : eqvs s s = true) (ht : eqvs t t = true) :
    ∃ σ', exI TT (FI.of Tryz.f36 (TT.an 36)) [.code (Tryz.f36.body.getD .skip)] (paramsE 0 [.agg [.int .i64 x1, .int .i64 x2], .agg [.int .i64 y1, .int .i64 y2]]) ⟨[], 0⟩ = some (.int .i64 z, σ') := by
  refine ex1 ?_
  rw [fi36]
  simp only [Tryz.f36, Option.getD]
  simp (maxSteps := 1000000) (disch := omega) [cellsAt, getCells, takeN, dropN, fieldAddrA, allOne, AV.one, n_push, storeCellsA, putN, overN, St.push, St.get, St.set, hget, hset, blt_dec, buildA, sizesOf, fillA, putCells, List.take_succ_cons, List.take_zero, List.drop_succ_cons, List.drop_zero, List.nil_append, List.cons_append, List.length_cons, List.length_nil, eqvs_dgs, c1, c2, c3, hs, ht]
theorem r36 {x y : Int × Int} (hx : vfr x.1 x.2 = true) (hy : vfr y.1 y.2 = true) : FnV TT 36 [.agg (FC x), .agg (FC y)] (.int .i64 (cmpR (rq x) (rq y))) := by
  exact FnV.mk fn36 rfl md36 (k36 x.1 x.2 y.1 y.2 (RC (rq x)) (RC (rq y)) _ (fun σ => (r37 hx).pure σ rfl rfl) (fun σ => (r37 hy).pure σ rfl rfl) (fun σ => r38 (rq_bd hx) (rq_bd hy) (by decide) σ _ rfl) (RC_eqv _) (RC_eqv _)) (fun _ => rfl) rfl

noncomputable def b35 : Code := Tryz.f35.body.getD .skip
noncomputable def B35_0 : Code := (bodyC (bodyC (sndC (fstC (sndC (sndC (sndC b35)))))))
noncomputable def K35_0 : List It := .lp B35_0 :: .blk 0 :: .code (sndC (sndC (sndC (sndC b35)))) :: []
theorem xl35_0 {fi : FI} {env : Env} {σ : St} : exI TT fi K35_0 env σ = exI TT fi (.code B35_0 :: K35_0) env σ := by unfold K35_0; exact xI_lp
noncomputable def R35_0_0 : List It := .code (sndC (sndC (sndC (sndC b35)))) :: []
theorem eK35_0_0 : exitA 0 K35_0 = some R35_0_0 := rfl
set_option maxHeartbeats 4000000 in
theorem s35k (n i a b : Nat) (cells x y : List AV) (z : Int) (σ : St) (hi : i < n) (l1 : cellsAt σ (.lp cells (i * 2)) 2 = some x) (l2 : cellsAt σ (.ptr b 0) 2 = some y) (c1 : callI TT 36 [.agg x, .agg y] σ = some (.int .i64 z, σ)) (hy : eqvs y y = true) (hz : z ≤ 0) (hw : wrapA .i64 ((i : Int) + 1) = (i : Int) + 1) :
    exI TT (FI.of Tryz.f35 (TT.an 35)) K35_0 [(0, .lst n cells), (1, .fn 36 [] []), (4, .ptr a 0), (5, .ptr b 0), (6, .int .i64 i)] σ = exI TT (FI.of Tryz.f35 (TT.an 35)) K35_0 [(0, .lst n cells), (1, .fn 36 [] []), (4, .ptr a 0), (5, .ptr b 0), (6, .int .i64 ((i : Int) + 1))] σ := by
  rw [fi35]
  conv => lhs; rw [xl35_0]
  simp only [B35_0, b35, Tryz.f35, Option.getD, fstC, sndC, bodyC, thnC, elsC]
  simp (maxSteps := 1000000) (disch := omega) [eK35_0_0, getCells, takeN, dropN, fieldAddrA, allOne, AV.one, n_push, putN, overN, blt_dec, buildA, sizesOf, fillA, putCells, List.take_succ_cons, List.take_zero, List.drop_succ_cons, List.drop_zero, List.nil_append, List.cons_append, List.length_cons, List.length_nil, eqvs_dgs, List.append_nil, hi, l1, l2, c1, hy, hz, hw]
set_option maxHeartbeats 4000000 in
theorem s35t (n i a b : Nat) (cells x y : List AV) (z : Int) (σ σ1 : St) (hi : i < n) (l1 : cellsAt σ (.lp cells (i * 2)) 2 = some x) (l2 : cellsAt σ (.ptr b 0) 2 = some y) (c1 : callI TT 36 [.agg x, .agg y] σ = some (.int .i64 z, σ)) (hy : eqvs y y = true) (hz : 0 < z) (hx : x.length = 2) (s1 : storeCellsA σ b 0 x = some σ1) (hw : wrapA .i64 ((i : Int) + 1) = (i : Int) + 1) :
    exI TT (FI.of Tryz.f35 (TT.an 35)) K35_0 [(0, .lst n cells), (1, .fn 36 [] []), (4, .ptr a 0), (5, .ptr b 0), (6, .int .i64 i)] σ = exI TT (FI.of Tryz.f35 (TT.an 35)) K35_0 [(0, .lst n cells), (1, .fn 36 [] []), (4, .ptr a 0), (5, .ptr b 0), (6, .int .i64 ((i : Int) + 1))] σ1 := by
  rw [fi35]
  conv => lhs; rw [xl35_0]
  simp only [B35_0, b35, Tryz.f35, Option.getD, fstC, sndC, bodyC, thnC, elsC]
  simp (maxSteps := 1000000) (disch := omega) [eK35_0_0, getCells, takeN, dropN, fieldAddrA, allOne, AV.one, n_push, putN, overN, blt_dec, buildA, sizesOf, fillA, putCells, List.take_succ_cons, List.take_zero, List.drop_succ_cons, List.drop_zero, List.nil_append, List.cons_append, List.length_cons, List.length_nil, eqvs_dgs, List.append_nil, hi, l1, l2, c1, hy, hz, hx, s1, hw]
set_option maxHeartbeats 4000000 in
theorem e35 (n a b : Nat) (cells y : List AV) (σ σ1 : St) (l2 : cellsAt σ (.ptr b 0) 2 = some y) (hy : y.length = 2) (s1 : storeCellsA σ a 0 y = some σ1) (l3 : cellsAt σ1 (.ptr a 0) 2 = some y) :
    exI TT (FI.of Tryz.f35 (TT.an 35)) K35_0 [(0, .lst n cells), (1, .fn 36 [] []), (4, .ptr a 0), (5, .ptr b 0), (6, .int .i64 n)] σ = some (.agg y, σ1) := by
  rw [fi35]
  conv => lhs; rw [xl35_0]
  simp only [B35_0, b35, Tryz.f35, Option.getD, fstC, sndC, bodyC, thnC, elsC]
  simp (maxSteps := 1000000) (disch := omega) [eK35_0_0, getCells, takeN, dropN, fieldAddrA, allOne, AV.one, n_push, putN, overN, blt_dec, buildA, sizesOf, fillA, putCells, List.take_succ_cons, List.take_zero, List.drop_succ_cons, List.drop_zero, List.nil_append, List.cons_append, List.length_cons, List.length_nil, eqvs_dgs, l2, hy, s1, l3]
  simp only [R35_0_0, b35, Tryz.f35, Option.getD, fstC, sndC, bodyC, thnC, elsC]
  simp (maxSteps := 1000000) (disch := omega) [eK35_0_0, getCells, takeN, dropN, fieldAddrA, allOne, AV.one, n_push, putN, overN, blt_dec, buildA, sizesOf, fillA, putCells, List.take_succ_cons, List.take_zero, List.drop_succ_cons, List.drop_zero, List.nil_append, List.cons_append, List.length_cons, List.length_nil, eqvs_dgs, l2, hy, s1, l3]
set_option maxHeartbeats 4000000 in
theorem b35t (n : Nat) (cells x : List AV) (σ σ0 σ1 σ2 : St) (h1 : σ.push ⟨[.int .i64 0, .int .i64 0], 2, false⟩ = σ0) (hn : σ0.n = σ.n + 1) (hi : 1 ≤ n) (l1 : cellsAt σ0 (.lp cells 0) 2 = some x) (h2 : σ0.push ⟨[.int .i64 0, .int .i64 0], 2, false⟩ = σ1) (hx : x.length = 2) (s1 : storeCellsA σ1 (σ.n + 1) 0 x = some σ2) :
    exI TT (FI.of Tryz.f35 (TT.an 35)) [.code b35] (paramsE 0 [.lst n cells, .fn 36 [] []]) σ = exI TT (FI.of Tryz.f35 (TT.an 35)) K35_0 [(0, .lst n cells), (1, .fn 36 [] []), (4, .ptr σ.n 0), (5, .ptr (σ.n + 1) 0), (6, .int .i64 1)] σ2 := by
  rw [fi35]
  simp only [b35, Tryz.f35, Option.getD, fstC, sndC, bodyC, thnC, elsC]
  simp (maxSteps := 1000000) (disch := omega) [eK35_0_0, getCells, takeN, dropN, fieldAddrA, allOne, AV.one, n_push, putN, overN, blt_dec, buildA, sizesOf, fillA, putCells, List.take_succ_cons, List.take_zero, List.drop_succ_cons, List.drop_zero, List.nil_append, List.cons_append, List.length_cons, List.length_nil, eqvs_dgs, h1, hn, hi, l1, h2, hx, s1]
  rfl
theorem l35 (l : List (Int × Int)) (hv : vfl l = true) (hs : l.length ≤ 1000000) (N a b : Nat) (hab : a ≠ b) (ha : N ≤ a) (hb0 : N ≤ b) : ∀ (m i : Nat) (σ : St) (y : Int × Int), i + m = l.length → vfr y.1 y.2 = true → Bx σ b (FC y) → (∃ z, Bx σ a z ∧ z.length = 2) →
    ∃ σ', exI TT (FI.of Tryz.f35 (TT.an 35)) K35_0 [(0, FS l), (1, .fn 36 [] []), (4, .ptr a 0), (5, .ptr b 0), (6, .int .i64 i)] σ = some (.agg (FC ((l.drop i).foldl gmax y)), σ') ∧ σ'.n = σ.n ∧ ∀ c, c < N → σ'.get c = σ.get c := by
  intro m
  induction m with
  | zero =>
    intro i σ y hi hy hb hz
    obtain rfl : i = l.length := by omega
    obtain ⟨z, hz, hzl⟩ := hz
    obtain ⟨σ1, a1, a2, a3⟩ := hz.st (ws := FC y) (by rw [hzl]; rfl) (FC_one _)
    rw [List.drop_of_length_le (Nat.le_refl _)]
    exact ⟨σ1, e35 l.length a b (flat FC l) (FC y) σ σ1 (hb.rd rfl) rfl a1 (a2.rd rfl), a3.1, fun c hc => a3.2 c (by omega)⟩
  | succ m ih =>
    intro i σ y hi hy hb hz
    have hil : i < l.length := by omega
    have hvi := vfl_get hv hil
    have hi1 : ((i + 1 : Nat) : Int) = (i : Int) + 1 := by omega
    have hw : wrapA .i64 ((i : Int) + 1) = (i : Int) + 1 := wrapA_id (by omega) (by omega)
    have c1 := r36 hvi hy σ [.agg (FC l[i]), .agg (FC y)] rfl
    rw [List.drop_eq_getElem_cons hil, List.foldl_cons]
    by_cases hc : 0 < cmpR (rq l[i]) (rq y)
    · obtain ⟨z, hz, hzl⟩ := hz
      obtain ⟨σ1, a1, a2, a3⟩ := hb.st (ws := FC l[i]) rfl (FC_one _)
      obtain ⟨σ', k1, k2, k3⟩ := ih (i + 1) σ1 l[i] (by omega) hvi a2 ⟨z, hz.but hab a3, hzl⟩
      rw [hi1] at k1
      refine ⟨σ', ?_, k2.trans a3.1, fun c hc => (k3 c hc).trans (a3.2 c (by omega))⟩
      rw [show gmax y l[i] = l[i] from if_pos hc, ← k1]
      exact s35t l.length i a b (flat FC l) (FC l[i]) (FC y) _ σ σ1 hil (FS_get hil σ) (hb.rd rfl) c1 (FC_eqv _) hc rfl a1 hw
    · obtain ⟨σ', k1, k2⟩ := ih (i + 1) σ y (by omega) hy hb hz
      rw [hi1] at k1
      refine ⟨σ', ?_, k2⟩
      rw [show gmax y l[i] = y from if_neg hc, ← k1]
      exact s35k l.length i a b (flat FC l) (FC l[i]) (FC y) _ σ hil (FS_get hil σ) (hb.rd rfl) c1 (FC_eqv _) (Int.not_lt.1 hc) hw
theorem r35 (l : List (Int × Int)) (hv : vfl l = true) (h0 : 1 ≤ l.length) (hs : l.length ≤ 1000000) (σ : St) : ∃ σ', callI TT 35 [FS l, .fn 36 [] []] σ = some (.agg (FC (greatF l)), σ') ∧ Old σ σ' := by
  have hb0 : Bx (σ.push ⟨[.int .i64 0, .int .i64 0], 2, false⟩) σ.n [.int .i64 0, .int .i64 0] := Bx.push
  obtain ⟨σ2, d1, d2, d3, d4⟩ := new_box (σ := σ.push ⟨[.int .i64 0, .int .i64 0], 2, false⟩) (z := [.int .i64 0, .int .i64 0]) (x := FC l[0]) (m := 2) rfl rfl
  obtain ⟨σ', k1, k2, k3⟩ := l35 l hv hs σ.n σ.n (σ.n + 1) (by omega) (Nat.le_refl _) (by omega) (l.length - 1) 1 σ2 l[0] (by omega) (vfl_get hv h0) d2 ⟨_, hb0.old d3, rfl⟩
  have hg0 : l.getD 0 (0, 1) = l[0] := getD_of h0
  refine ⟨σ', ?_, ?_, fun c hc => ?_⟩
  · rw [greatF, hg0, ← k1, cI_0 (c := b35) fn35 rfl md35]
    exact b35t l.length (flat FC l) (FC l[0]) σ _ _ σ2 rfl rfl h0 (FS_get h0 _) rfl rfl d1
  · rw [k2, d4]; exact Nat.le_trans (Nat.le_succ _) (Nat.le_succ _)
  · rw [k3 c hc, d3.2 c (by show c < σ.n + 1; omega)]
    exact get_push_lt hc

set_option maxHeartbeats 4000000 in
theorem k12f (n : Nat) (cells : List AV) (c1 : ∀ σ, callI TT 13 [.lst n cells] σ = some (.bool false, σ)) :
    ∃ σ', exI TT (FI.of Tryz.f12 (TT.an 12)) [.code (Tryz.f12.body.getD .skip)] (paramsE 0 [.lst n cells]) ⟨[], 0⟩ = some (.tup [.agg [.int .i64 0, .int .i64 0], .bool false], σ') := by
  refine ex1 ?_
  rw [fi12]
  simp only [Tryz.f12, Option.getD]
  simp (maxSteps := 1000000) (disch := omega) [cellsAt, getCells, takeN, dropN, fieldAddrA, allOne, AV.one, n_push, storeCellsA, putN, overN, St.push, St.get, St.set, hget, hset, blt_dec, buildA, sizesOf, fillA, putCells, List.take_succ_cons, List.take_zero, List.drop_succ_cons, List.drop_zero, List.nil_append, List.cons_append, List.length_cons, List.length_nil, eqvs_dgs, c1]
set_option maxHeartbeats 4000000 in
theorem k12t (n : Nat) (cells y : List AV) (σ0 σ1 σ2 : St) (h1 : (⟨[], 0⟩ : St).push ⟨[.int .i64 0, .int .i64 0], 2, false⟩ = σ0) (c1 : callI TT 13 [.lst n cells] σ0 = some (.bool true, σ0)) (c2 : callI TT 35 [.lst n cells, .fn 36 [] []] σ0 = some (.agg y, σ1)) (hy : y.length = 2) (s1 : storeCellsA σ1 0 0 y = some σ2) (l1 : cellsAt σ2 (.ptr 0 0) 2 = some y) :
    ∃ σ', exI TT (FI.of Tryz.f12 (TT.an 12)) [.code (Tryz.f12.body.getD .skip)] (paramsE 0 [.lst n cells]) ⟨[], 0⟩ = some (.tup [.agg y, .bool true], σ') := by
  refine ex1 ?_
  rw [fi12]
  simp only [Tryz.f12, Option.getD]
  simp (maxSteps := 1000000) (disch := omega) [getCells, takeN, dropN, fieldAddrA, allOne, AV.one, n_push, putN, overN, blt_dec, buildA, sizesOf, fillA, putCells, List.take_succ_cons, List.take_zero, List.drop_succ_cons, List.drop_zero, List.nil_append, List.cons_append, List.length_cons, List.length_nil, eqvs_dgs, h1, c1, c2, hy, s1, l1]
theorem r12 (l : List (Int × Int)) (hs : l.length ≤ 10000000) : FnV TT 12 [FS l] (valGreat l) := by
  have c1 := fun σ : St => r13 l hs σ [FS l] rfl
  unfold valGreat
  cases h : isSrc l with
  | true =>
    rw [h] at c1
    obtain ⟨h1, h2⟩ := isSrc_b h
    obtain ⟨a1, a2, a3, _, _⟩ := isCh_b h1
    have hb0 : Bx ((⟨[], 0⟩ : St).push ⟨[.int .i64 0, .int .i64 0], 2, false⟩) 0 [.int .i64 0, .int .i64 0] := Bx.push
    obtain ⟨σ1, c2, hold⟩ := r35 l a3 a1 (by omega) ((⟨[], 0⟩ : St).push ⟨[.int .i64 0, .int .i64 0], 2, false⟩)
    obtain ⟨σ2, d1, d2, d3⟩ := (hb0.old hold).st (ws := FC (greatF l)) rfl (FC_one _)
    exact FnV.mk fn12 rfl md12 (k12t l.length (flat FC l) (FC (greatF l)) _ σ1 σ2 rfl (c1 _) c2 rfl d1 (d2.rd rfl)) (fun _ => rfl) rfl
  | false =>
    rw [h] at c1
    exact FnV.mk fn12 rfl md12 (k12f _ _ c1) (fun _ => rfl) rfl
def sqQ (p : List Rat) (i : Nat) : Rat := p.getD i 0 * p.getD i 0
def colQ (p : List Rat) : Rat := sumI (sqQ p) p.length
def valCol (l : List (Int × Int)) : AV := if isSrc l = true then frA (colQ (l.map rq)) else frF
theorem colQ_bd {p : List Rat} {k : Nat} (hp : ∀ x ∈ p, Bd k x) : ∀ n, n ≤ p.length → Bd (2 + n * (2 * k + 1)) (sumI (sqQ p) n)
  | 0, _ => (show Bd 2 (0 : Rat) from ⟨by decide +kernel, by decide +kernel⟩).mono (by omega)
  | n + 1, hn => by
    have h1 : n < p.length := by omega
    rw [sumI, sqQ, getD_of h1]
    exact ((colQ_bd hp n (by omega)).add ((hp _ (List.getElem_mem h1)).mul (hp _ (List.getElem_mem h1)))).mono (by rw [Nat.add_mul]; omega)


noncomputable def b11 : Code := Tryz.f11.body.getD .skip
noncomputable def B11_0 : Code := (bodyC (bodyC (sndC (fstC (sndC (sndC (sndC b11)))))))
noncomputable def K11_0 : List It := .lp B11_0 :: .blk 0 :: .code (sndC (sndC (sndC (sndC b11)))) :: []
theorem xl11_0 {fi : FI} {env : Env} {σ : St} : exI TT fi K11_0 env σ = exI TT fi (.code B11_0 :: K11_0) env σ := by unfold K11_0; exact xI_lp
noncomputable def R11_0_0 : List It := .code (sndC (sndC (sndC (sndC b11)))) :: []
theorem eK11_0_0 : exitA 0 K11_0 = some R11_0_0 := rfl
set_option maxHeartbeats 4000000 in
theorem s11 (n i : Nat) (cells x s u t : List AV) (σ σ2 σ3 : St) (hi : i < n) (l1 : cellsAt σ (.lp cells (i * 3)) 3 = some x) (hx : x.length = 3) (s1 : storeCellsA (σ.push ⟨[.bool false, .nilS, .nilS], 3, false⟩) σ.n 0 x = some σ2) (l3 : cellsAt σ2 (.ptr 1 0) 3 = some s) (l4 : cellsAt σ2 (.ptr σ.n 0) 3 = some x) (c1 : callI TT 34 [.agg x, .agg x] σ2 = some (.agg u, σ2)) (c3 : callI TT 32 [.agg s, .agg u] σ2 = some (.agg t, σ2)) (ht : t.length = 3) (s2 : storeCellsA σ2 1 0 t = some σ3) (hes : eqvs s s = true) (hex : eqvs x x = true) (hw : wrapA .i64 ((i : Int) + 1) = (i : Int) + 1) :
    exI TT (FI.of Tryz.f11 (TT.an 11)) K11_0 [(2, .ptr 0 0), (4, .ptr 1 0), (13, .lst n cells), (14, .int .i64 n), (15, .int .i64 i)] σ = exI TT (FI.of Tryz.f11 (TT.an 11)) K11_0 [(2, .ptr 0 0), (4, .ptr 1 0), (13, .lst n cells), (14, .int .i64 n), (15, .int .i64 ((i : Int) + 1))] σ3 := by
  rw [fi11]
  conv => lhs; rw [xl11_0]
  simp only [B11_0, b11, Tryz.f11, Option.getD, fstC, sndC, bodyC, thnC, elsC]
  simp (maxSteps := 1000000) (disch := omega) [eK11_0_0, getCells, takeN, dropN, fieldAddrA, allOne, AV.one, n_push, putN, overN, blt_dec, buildA, sizesOf, fillA, putCells, List.take_succ_cons, List.take_zero, List.drop_succ_cons, List.drop_zero, List.nil_append, List.cons_append, List.length_cons, List.length_nil, eqvs_dgs, hi, l1, hx, s1, l3, l4, c1, c3, ht, s2, hes, hex, hw]
set_option maxHeartbeats 4000000 in
theorem e11 (n : Nat) (cells s : List AV) (a_ b_ : Int) (c_ : Bool) (σ σ1 : St) (l3 : cellsAt σ (.ptr 1 0) 3 = some s) (c2 : callI TT 28 [.agg s] σ = some (.tup [.agg [.int .i64 a_, .int .i64 b_], .bool c_], σ)) (s1 : storeCellsA σ 0 0 [.int .i64 a_, .int .i64 b_] = some σ1) (l4 : cellsAt σ1 (.ptr 0 0) 2 = some [.int .i64 a_, .int .i64 b_]) :
    exI TT (FI.of Tryz.f11 (TT.an 11)) K11_0 [(2, .ptr 0 0), (4, .ptr 1 0), (13, .lst n cells), (14, .int .i64 n), (15, .int .i64 n)] σ = some (.tup [.agg [.int .i64 a_, .int .i64 b_], .bool c_], σ1) := by
  rw [fi11]
  conv => lhs; rw [xl11_0]
  simp only [B11_0, b11, Tryz.f11, Option.getD, fstC, sndC, bodyC, thnC, elsC]
  simp (maxSteps := 1000000) (disch := omega) [eK11_0_0, getCells, takeN, dropN, fieldAddrA, allOne, AV.one, n_push, putN, overN, blt_dec, buildA, sizesOf, fillA, putCells, List.take_succ_cons, List.take_zero, List.drop_succ_cons, List.drop_zero, List.nil_append, List.cons_append, List.length_cons, List.length_nil, eqvs_dgs, l3, c2, s1, l4]
  simp only [R11_0_0, b11, Tryz.f11, Option.getD, fstC, sndC, bodyC, thnC, elsC]
  simp (maxSteps := 1000000) (disch := omega) [eK11_0_0, getCells, takeN, dropN, fieldAddrA, allOne, AV.one, n_push, putN, overN, blt_dec, buildA, sizesOf, fillA, putCells, List.take_succ_cons, List.take_zero, List.drop_succ_cons, List.drop_zero, List.nil_append, List.cons_append, List.length_cons, List.length_nil, eqvs_dgs, l3, c2, s1, l4]
set_option maxHeartbeats 4000000 in
theorem b11t (n : Nat) (cells cells2 o : List AV) (σ1 σ2 σ3 : St) (h1 : (⟨[], 0⟩ : St).push ⟨[.int .i64 0, .int .i64 0], 2, false⟩ = σ1) (hn : σ1.n = 1) (c0 : callI TT 13 [.lst n cells] σ1 = some (.bool true, σ1)) (c1 : callI TT 29 [.int .i64 0] σ1 = some (.agg o, σ1)) (ho : o.length = 3) (h2 : σ1.push ⟨[.bool false, .nilS, .nilS], 3, false⟩ = σ2) (s1 : storeCellsA σ2 1 0 o = some σ3) (c2 : callI TT 26 [.lst n cells] σ3 = some (.lst n cells2, σ3)) :
    exI TT (FI.of Tryz.f11 (TT.an 11)) [.code b11] (paramsE 0 [.lst n cells]) ⟨[], 0⟩ = exI TT (FI.of Tryz.f11 (TT.an 11)) K11_0 [(2, .ptr 0 0), (4, .ptr 1 0), (13, .lst n cells2), (14, .int .i64 n), (15, .int .i64 0)] σ3 := by
  rw [fi11]
  simp only [b11, Tryz.f11, Option.getD, fstC, sndC, bodyC, thnC, elsC]
  simp (maxSteps := 1000000) (disch := omega) [eK11_0_0, getCells, takeN, dropN, fieldAddrA, allOne, AV.one, n_push, putN, overN, blt_dec, buildA, sizesOf, fillA, putCells, List.take_succ_cons, List.take_zero, List.drop_succ_cons, List.drop_zero, List.nil_append, List.cons_append, List.length_cons, List.length_nil, eqvs_dgs, h1, hn, c0, c1, ho, h2, s1, c2]
  rfl
set_option maxHeartbeats 4000000 in
theorem k11f (n : Nat) (cells : List AV) (c1 : ∀ σ, callI TT 13 [.lst n cells] σ = some (.bool false, σ)) :
    ∃ σ', exI TT (FI.of Tryz.f11 (TT.an 11)) [.code (Tryz.f11.body.getD .skip)] (paramsE 0 [.lst n cells]) ⟨[], 0⟩ = some (.tup [.agg [.int .i64 0, .int .i64 0], .bool false], σ') := by
  refine ex1 ?_
  rw [fi11]
  simp only [Tryz.f11, Option.getD]
  simp (maxSteps := 1000000) (disch := omega) [eK11_0_0, cellsAt, getCells, takeN, dropN, fieldAddrA, allOne, AV.one, n_push, storeCellsA, putN, overN, St.push, St.get, St.set, hget, hset, blt_dec, buildA, sizesOf, fillA, putCells, List.take_succ_cons, List.take_zero, List.drop_succ_cons, List.drop_zero, List.nil_append, List.cons_append, List.length_cons, List.length_nil, eqvs_dgs, c1]
theorem l11 (p : List Rat) (hp : ∀ x ∈ p, Bd 60 x) (hs : p.length ≤ 16) : ∀ (m i : Nat) (σ : St), i + m = p.length → Bx σ 1 (RC (sumI (sqQ p) i)) → (∃ z, Bx σ 0 z ∧ z.length = 2) →
    ∃ σ', exI TT (FI.of Tryz.f11 (TT.an 11)) K11_0 [(2, .ptr 0 0), (4, .ptr 1 0), (13, RS p), (14, .int .i64 p.length), (15, .int .i64 i)] σ = some (frA (colQ p), σ') := by
  intro m
  induction m with
  | zero =>
    intro i σ hi hb hz
    obtain rfl : i = p.length := by omega
    have hbd := colQ_bd hp p.length (Nat.le_refl _)
    have cg := r28 hbd (by have : p.length * (2 * 60 + 1) ≤ 16 * 121 := Nat.mul_le_mul_right _ hs; omega) σ [RT (sumI (sqQ p) p.length)] rfl
    obtain ⟨z, hz, hzl⟩ := hz
    rw [colQ]
    have hbr := hb.rd (n := 3) rfl
    show ∃ σ', exI TT (FI.of Tryz.f11 (TT.an 11)) K11_0 [(2, .ptr 0 0), (4, .ptr 1 0), (13, RS p), (14, .int .i64 p.length), (15, .int .i64 p.length)] σ = some (frA (sumI (sqQ p) p.length), σ')
    obtain ⟨a, b_, c, hR⟩ := frA_is (sumI (sqQ p) p.length)
    rw [hR] at cg ⊢
    obtain ⟨σ1, a1, a2, a3⟩ := hz.st (ws := [.int .i64 a, .int .i64 b_]) (by rw [hzl]; rfl) rfl
    exact ⟨σ1, e11 p.length (flat RC p) _ a b_ c σ σ1 hbr cg a1 (a2.rd rfl)⟩
  | succ m ih =>
    intro i σ hi hb hz
    have hil : i < p.length := by omega
    obtain ⟨σ2, a1, a2, a3, a4⟩ := new_box (σ := σ) (z := [.bool false, .nilS, .nilS]) (x := RC p[i]) (m := 3) rfl rfl
    have hb2 := hb.old a3
    obtain ⟨z, hz, hzl⟩ := hz
    have hz2 := hz.old a3
    have bp := hp _ (List.getElem_mem hil)
    have cm := (r34 bp bp (by decide)).pure σ2 rfl rfl
    have hbd := colQ_bd hp i (by omega)
    have hmul : i * (2 * 60 + 1) ≤ 16 * 121 := Nat.mul_le_mul (by omega) (by decide)
    have cp := (r32 (hbd.mono (show _ ≤ 4000 by omega)) ((bp.mul bp).mono (show _ ≤ 4000 by omega)) (by decide)).pure σ2 rfl rfl
    have hs1 : sumI (sqQ p) (i + 1) = sumI (sqQ p) i + p[i] * p[i] := by rw [sumI, sqQ, getD_of hil]
    obtain ⟨σ3, d1, d2, d3⟩ := hb2.st (ws := RC (sumI (sqQ p) (i + 1))) rfl (RC_one _)
    obtain ⟨σ', k1⟩ := ih (i + 1) σ3 (by omega) d2 ⟨z, hz2.but (by decide) d3, hzl⟩
    have hi1 : ((i + 1 : Nat) : Int) = (i : Int) + 1 := by omega
    rw [hi1] at k1
    refine ⟨σ', ?_⟩
    rw [← k1]
    exact s11 p.length i (flat RC p) (RC p[i]) _ _ (RC (sumI (sqQ p) (i + 1))) σ σ2 σ3 hil (RS_get hil σ) rfl a1 (hb2.rd rfl) (a2.rd rfl) cm (cp.trans (by rw [hs1]; rfl)) rfl d1 (RC_eqv _) (RC_eqv _) (wrapA_id (by omega) (by omega))
theorem r11 (l : List (Int × Int)) (hs : l.length ≤ 10000000) : FnV TT 11 [FS l] (valCol l) := by
  have c1 := fun σ : St => r13 l hs σ [FS l] rfl
  unfold valCol
  cases h : isSrc l with
  | true =>
    rw [h] at c1
    obtain ⟨h1, h2⟩ := isSrc_b h
    obtain ⟨a1, a2, a3, _, _⟩ := isCh_b h1
    have c3 := r26 l a3 (by omega)
    have co := fun σ : St => (r29 (n := 0) (by decide) (by decide)).pure σ rfl rfl
    have hb0 : Bx ((⟨[], 0⟩ : St).push ⟨[.int .i64 0, .int .i64 0], 2, false⟩) 0 [.int .i64 0, .int .i64 0] := Bx.push
    obtain ⟨σ3, d1, d2, d3, d4⟩ := new_box (σ := (⟨[], 0⟩ : St).push ⟨[.int .i64 0, .int .i64 0], 2, false⟩) (z := [.bool false, .nilS, .nilS]) (x := RC (mkRat 0 1)) (m := 3) rfl rfl
    have hll : (l.map rq).length = l.length := by simp
    obtain ⟨σ', k1⟩ := l11 (l.map rq) (rq_bds a3) (by omega) (l.map rq).length 0 σ3 (by omega) d2 ⟨_, hb0.old d3, rfl⟩
    have e1 : RS (l.map rq) = .lst l.length (flat RC (l.map rq)) := by simp [RS]
    rw [e1, hll] at k1
    rw [e1] at c3
    exact FnV.mk (c := b11) fn11 rfl md11 ⟨σ', (b11t l.length (flat FC l) (flat RC (l.map rq)) _ _ _ σ3 rfl rfl (c1 _) (co _) rfl rfl d1 (c3.pure _ rfl rfl)).trans k1⟩ (frA_frz _) (frA_scal _)
  | false =>
    rw [h] at c1
    exact FnV.mk fn11 rfl md11 (k11f _ _ c1) (fun _ => rfl) rfl

def inR (n lo hi : Int) : Bool := decide (lo ≤ n) && decide (n ≤ hi)
theorem c49 (n lo hi : Int) (σ : St) : callI TT 49 [.int .i64 n, .int .i64 lo, .int .i64 hi] σ = some (.bool (inR n lo hi), σ) := by
  refine (FnV.mk (args' := [.int .i64 n, .int .i64 lo, .int .i64 hi]) fn49 rfl md49 ⟨⟨[], 0⟩, ?_⟩ (fun _ => rfl) rfl) σ _ rfl
  rw [fi49]
  by_cases h1 : lo ≤ n <;> simp [xI_seq, xI_region, xI_ret, regA, regOps, runOps, opStep, wantedA, opA, evo, evos, calleeA, lk, nif_eq, putE, paramsE, valS, val2, keepE, restrict, finA, resA, binA, binInt, ofConst, ofConst1, loadA, TK.isAgg, asVar, unA, builtinA, lenOpA, lenA, ileb_cast, ileb_eq, ieqb_dec, indexAddrA, inB_dec, evPairs, storeA, AV.cellsOf, pairsOf, xI_nil, binBool, gcE, evOpt, inR, h1]

theorem v50 (l : List Int) (n : Nat) : FnV TT 50 [.lst n (ints l)] (.int .i64 n) := by
  refine FnV.mk fn50 rfl md50 ⟨⟨[], 0⟩, ?_⟩ (fun _ => rfl) rfl
  rw [fi50]
  simp [xI_seq, xI_region, xI_ret, regA, regOps, runOps, opStep, wantedA, opA, evo, evos, calleeA, lk, nif_eq, putE, paramsE, valS, val2, keepE, restrict, finA, resA, binA, binInt, ofConst, ofConst1, loadA, TK.isAgg, asVar, unA, builtinA, lenOpA, lenA, ileb_cast, ileb_eq, ieqb_dec, indexAddrA, inB_dec, evPairs, storeA, AV.cellsOf, pairsOf, xI_nil, binBool, gcE, evOpt, ty2, ty28]
def allR (l : List Int) (lo hi : Int) : Bool := l.all fun n => inR n lo hi
theorem c77 (n lo hi : Int) (σ : St) (p q : Nat) (x y : Blk) (hp : σ.get p = some x) (hx : x.cells = [.int .i64 lo]) (hq : σ.get q = some y) (hy : y.cells = [.int .i64 hi]) : callI TT 77 [.int .i64 n, .ptr p 0, .ptr q 0] σ = some (.bool (!inR n lo hi), σ) := by
  rw [cI_0 fn77 rfl md77, fi77]
  simp [xI_seq, xI_region, xI_ret, regA, regOps, runOps, opStep, wantedA, opA, evo, evos, calleeA, lk, nif_eq, putE, paramsE, valS, val2, keepE, restrict, finA, resA, binA, binInt, ofConst, ofConst1, loadA, TK.isAgg, asVar, unA, builtinA, lenOpA, lenA, ileb_cast, ileb_eq, ieqb_dec, indexAddrA, inB_dec, evPairs, storeA, AV.cellsOf, pairsOf, xI_nil, binBool, gcE, evOpt, xI_block, xI_loopH, xI_condM, xI_exitM, xI_skip, xI_blk, exitA, ty2, ty4, c49, cellsAt, hp, hx, hq, hy, getCells, takeN, dropN]

noncomputable def b95 : Code := Tryz.f95.body.getD .skip
noncomputable def B95_0 : Code := (bodyC (bodyC (sndC (fstC (sndC b95)))))
noncomputable def K95_0 : List It := .lp B95_0 :: .blk 0 :: .code (sndC (sndC b95)) :: []
theorem xl95_0 {fi : FI} {env : Env} {σ : St} : exI TT fi K95_0 env σ = exI TT fi (.code B95_0 :: K95_0) env σ := by unfold K95_0; exact xI_lp
noncomputable def R95_0_0 : List It := .code (sndC (sndC b95)) :: []
theorem eK95_0_0 : exitA 0 K95_0 = some R95_0_0 := rfl
theorem l95 (l : List Int) (len : Nat) (hlen : len = l.length) (hs : len < 3000000) (lo hi : Int) (σ : St) (p q : Nat) (x y : Blk) (hp : σ.get p = some x) (hx : x.cells = [.int .i64 lo]) (hq : σ.get q = some y) (hy : y.cells = [.int .i64 hi]) : ∀ (suf pre : List Int), l = pre ++ suf →
    ∃ r : Int, exI TT (FI.of Tryz.f95 (TT.an 95)) K95_0 [(0, .lst len (ints l)), (1, .fn 77 [] [.ptr p 0, .ptr q 0]), (7, .int .i64 len), (8, .int .i64 pre.length)] σ = some (.int .i64 r, σ) ∧ decide (0 ≤ r) = !allR suf lo hi := by
  intro suf
  induction suf with
  | nil =>
    intro pre hl
    refine ⟨-1, ?_, by simp [allR]⟩
    have hl : len = pre.length := by rw [hlen, hl]; simp
    subst hl
    rw [fi95]
    rw [xl95_0]
    simp only [B95_0, b95, Tryz.f95, Option.getD, fstC, sndC, bodyC, thnC, elsC]
    simp [xI_seq, xI_region, xI_ret, regA, regOps, runOps, opStep, wantedA, opA, evo, evos, calleeA, lk, nif_eq, putE, paramsE, valS, val2, keepE, restrict, finA, resA, binA, binInt, ofConst, ofConst1, loadA, TK.isAgg, asVar, unA, builtinA, lenOpA, lenA, ileb_cast, ileb_eq, ieqb_dec, indexAddrA, inB_dec, evPairs, storeA, AV.cellsOf, pairsOf, xI_nil, binBool, gcE, evOpt, xI_block, xI_loopH, xI_condM, xI_exitM, xI_skip, xI_blk, exitA, ty2, ty3, ty28, eK95_0_0]
    simp only [R95_0_0, b95, Tryz.f95, Option.getD, fstC, sndC, bodyC, thnC, elsC]
    simp [xI_seq, xI_region, xI_ret, regA, regOps, runOps, opStep, wantedA, opA, evo, evos, calleeA, lk, nif_eq, putE, paramsE, valS, val2, keepE, restrict, finA, resA, binA, binInt, ofConst, ofConst1, loadA, TK.isAgg, asVar, unA, builtinA, lenOpA, lenA, ileb_cast, ileb_eq, ieqb_dec, indexAddrA, inB_dec, evPairs, storeA, AV.cellsOf, pairsOf, xI_nil, binBool, gcE, evOpt, xI_block, xI_loopH, xI_condM, xI_exitM, xI_skip, xI_blk, exitA, ty2, ty3, ty28, eK95_0_0]
  | cons n suf ih =>
    intro pre hl
    have hll : len = pre.length + (suf.length + 1) := by rw [hlen, hl]; simp
    have hg : l[pre.length]? = some n := by simp [hl]
    obtain ⟨r, h1, h2⟩ := ih (pre ++ [n]) (by simp [hl])
    have hlt : ¬ len ≤ pre.length := by omega
    have hlt2 : pre.length < len := by omega
    have hw := wrapS (n := pre.length) (by omega)
    have hc := c77 n lo hi σ p q x y hp hx hq hy
    simp only [List.length_append, List.length_singleton] at h1
    cases hin : inR n lo hi with
    | true =>
      rw [hin] at hc
      refine ⟨r, ?_, by rw [h2]; simp [allR, hin]⟩
      rw [fi95] at h1 ⊢
      rw [xl95_0]
      simp only [B95_0, b95, Tryz.f95, Option.getD, fstC, sndC, bodyC, thnC, elsC]
      simp [xI_seq, xI_region, xI_ret, regA, regOps, runOps, opStep, wantedA, opA, evo, evos, calleeA, lk, nif_eq, putE, paramsE, valS, val2, keepE, restrict, finA, resA, binA, binInt, ofConst, ofConst1, loadA, TK.isAgg, asVar, unA, builtinA, lenOpA, lenA, ileb_cast, ileb_eq, ieqb_dec, indexAddrA, inB_dec, evPairs, storeA, AV.cellsOf, pairsOf, xI_nil, binBool, gcE, evOpt, xI_block, xI_loopH, xI_condM, xI_exitM, xI_skip, xI_blk, exitA, ty2, ty3, ty28, eK95_0_0, hw, hlt, hlt2, lst_read hg, hc]
      simpa using h1
    | false =>
      rw [hin] at hc
      refine ⟨pre.length, ?_, by simp [allR, hin]⟩
      rw [fi95]
      rw [xl95_0]
      simp only [B95_0, b95, Tryz.f95, Option.getD, fstC, sndC, bodyC, thnC, elsC]
      simp [xI_seq, xI_region, xI_ret, regA, regOps, runOps, opStep, wantedA, opA, evo, evos, calleeA, lk, nif_eq, putE, paramsE, valS, val2, keepE, restrict, finA, resA, binA, binInt, ofConst, ofConst1, loadA, TK.isAgg, asVar, unA, builtinA, lenOpA, lenA, ileb_cast, ileb_eq, ieqb_dec, indexAddrA, inB_dec, evPairs, storeA, AV.cellsOf, pairsOf, xI_nil, binBool, gcE, evOpt, xI_block, xI_loopH, xI_condM, xI_exitM, xI_skip, xI_blk, exitA, ty2, ty3, ty28, eK95_0_0, hw, hlt, hlt2, lst_read hg, hc]

theorem c76 (l : List Int) (len : Nat) (hlen : len = l.length) (hs : len < 3000000) (lo hi : Int) (σ : St) (p q : Nat) (x y : Blk) (hp : σ.get p = some x) (hx : x.cells = [.int .i64 lo]) (hq : σ.get q = some y) (hy : y.cells = [.int .i64 hi]) :
    callI TT 76 [.lst len (ints l), .fn 77 [] [.ptr p 0, .ptr q 0]] σ = some (.bool (!allR l lo hi), σ) := by
  obtain ⟨r, h1, h2⟩ := l95 l len hlen hs lo hi σ p q x y hp hx hq hy l [] rfl
  have hc : callI TT 95 [.lst len (ints l), .fn 77 [] [.ptr p 0, .ptr q 0]] σ = some (.int .i64 r, σ) := by
    rw [cI_0 fn95 rfl md95, ← h1, fi95]
    simp [xI_seq, xI_region, xI_ret, regA, regOps, runOps, opStep, wantedA, opA, evo, evos, calleeA, lk, nif_eq, putE, paramsE, valS, val2, keepE, restrict, finA, resA, binA, binInt, ofConst, ofConst1, loadA, TK.isAgg, asVar, unA, builtinA, lenOpA, lenA, ileb_cast, ileb_eq, ieqb_dec, indexAddrA, inB_dec, evPairs, storeA, AV.cellsOf, pairsOf, xI_nil, binBool, gcE, evOpt, xI_block, xI_loopH, xI_condM, xI_exitM, xI_skip, xI_blk, exitA, ty2, ty3, ty28, eK95_0_0]
    rfl
  rw [cI_0 fn76 rfl md76, fi76]
  simp [xI_seq, xI_region, xI_ret, regA, regOps, runOps, opStep, wantedA, opA, evo, evos, calleeA, lk, nif_eq, putE, paramsE, valS, val2, keepE, restrict, finA, resA, binA, binInt, ofConst, ofConst1, loadA, TK.isAgg, asVar, unA, builtinA, lenOpA, lenA, ileb_cast, ileb_eq, ieqb_dec, indexAddrA, inB_dec, evPairs, storeA, AV.cellsOf, pairsOf, xI_nil, binBool, gcE, evOpt, xI_block, xI_loopH, xI_condM, xI_exitM, xI_skip, xI_blk, exitA, ty3, hc, h2]

theorem v51 (l : List Int) (len : Nat) (hlen : len = l.length) (hs : len < 3000000) (lo hi : Int) : FnV TT 51 [.lst len (ints l), .int .i64 lo, .int .i64 hi] (.bool (allR l lo hi)) := by
  have h := c76 l len hlen hs lo hi (((⟨[], 0⟩ : St).push ⟨[.int .i64 lo], 1, false⟩).push ⟨[.int .i64 hi], 1, false⟩) 0 1 _ _ rfl rfl rfl rfl
  refine FnV.mk fn51 rfl md51 ⟨((⟨[], 0⟩ : St).push ⟨[.int .i64 lo], 1, false⟩).push ⟨[.int .i64 hi], 1, false⟩, ?_⟩ (fun _ => rfl) rfl
  rw [fi51]
  simp [xI_seq, xI_region, xI_ret, regA, regOps, runOps, opStep, wantedA, opA, evo, evos, calleeA, lk, nif_eq, putE, paramsE, valS, val2, keepE, restrict, finA, resA, binA, binInt, ofConst, ofConst1, loadA, TK.isAgg, asVar, unA, builtinA, lenOpA, lenA, ileb_cast, ileb_eq, ieqb_dec, indexAddrA, inB_dec, evPairs, storeA, AV.cellsOf, pairsOf, xI_nil, binBool, gcE, evOpt, xI_block, xI_loopH, xI_condM, xI_exitM, xI_skip, xI_blk, exitA, ty2, ty4, h, allOne, AV.one, n_push]

theorem inR_iff {n lo hi : Int} : inR n lo hi = true ↔ lo ≤ n ∧ n ≤ hi := by simp [inR]
/-! ### Rising sequences: plain law -/
theorem pow_sh2 (i : Nat) (hi : i ≤ 60) : wrapA .i64 (shlA (1 : Int) (min i IntKind.i64.bits)) = ((2 ^ i : Nat) : Int) := by
  rw [Nat.min_eq_left (by simp [IntKind.bits]; omega)]
  have e : shlA (1 : Int) i = ((1 * 2 ^ i : Nat) : Int) := rfl
  have h : 2 ^ i ≤ 2 ^ 60 := Nat.pow_le_pow_right (by decide) hi
  rw [e, Nat.one_mul]
  exact wi64 (Nat.le_trans h (by decide))

theorem frA_yes {q : Rat} (h : fits q = true) : frA q = .tup [.agg [.int .i64 q.num, .int .i64 q.den], .bool true] := by rw [frA, if_pos h]
def frzO (r : Option (AV × St)) : Option AV := match r with
  | some (v, σ) => frzV σ frzDepth v
  | none => none
theorem FnF_exec {T : Tab} {f : FuncId} {F : Func} {c : Code} {args' : List AV} {v : AV} (n : Nat) (hF : T.fn f = some F) (hB : F.body = some c) (hm : (T.an f).mode = 1) (h : frzO (exec T n (FI.of F (T.an f)) [.code c] (paramsE 0 args') ⟨[], 0⟩) = some v) : FnF T f args' v := by
  cases hx : exec T n (FI.of F (T.an f)) [.code c] (paramsE 0 args') ⟨[], 0⟩ with
  | none => rw [hx] at h; cases h
  | some r =>
    obtain ⟨w, σ1⟩ := r
    rw [hx] at h
    exact FnF.mk hF hB hm ⟨σ1, w, exI_iff.2 ⟨n, hx⟩, h⟩
theorem sumI_bd {f : Nat → Rat} {k : Nat} : ∀ n, (∀ i, i < n → Bd k (f i)) → Bd (2 + n * (k + 1)) (sumI f n)
  | 0, _ => (show Bd 2 (0 : Rat) from ⟨by decide +kernel, by decide +kernel⟩).mono (by omega)
  | n + 1, h => by
    rw [sumI]
    exact ((sumI_bd n fun i hi => h i (by omega)).add (h n (by omega))).mono (by rw [Nat.add_mul]; omega)
def QC (q : Rat) : List AV := [.int .i64 q.num, .int .i64 q.den]
theorem Bx.rd1 {σ : St} {b : Nat} {x y : AV} (h : Bx σ b [x, y]) : cellsAt σ (.ptr b 0) 1 = some [x] := by
  obtain ⟨⟨m, hg⟩, _⟩ := h
  simp [cellsAt, hg, getCells, dropN, takeN]
theorem mk_self {q : Rat} : mkRat q.num (q.den : Int).toNat = q := by rw [Int.toNat_natCast, Rat.mkRat_self]
theorem add_c {a b : Rat} (ha : fits a = true) (hb : fits b = true) (h : fits (a + b) = true) (σ : St) : callI TT 69 [.agg (QC a), .agg (QC b)] σ = some (.tup [.agg (QC (a + b)), .bool true], σ) := by
  have := v69 (vfr_of ha) (vfr_of hb) σ [.agg (QC a), .agg (QC b)] rfl
  rw [mk_self, mk_self, frA_yes h] at this
  exact this
theorem mul_c {a b : Rat} (ha : fits a = true) (hb : fits b = true) (h : fits (a * b) = true) (σ : St) : callI TT 73 [.agg (QC a), .agg (QC b)] σ = some (.tup [.agg (QC (a * b)), .bool true], σ) := by
  have := v73 (vfr_of ha) (vfr_of hb) σ [.agg (QC a), .agg (QC b)] rfl
  rw [mk_self, mk_self, frA_yes h] at this
  exact this
theorem fits_num {q : Rat} (h : fits q = true) : -1000000000000000000 ≤ q.num ∧ q.num ≤ 1000000000000000000 := by
  have := (fits_iff.1 h).1
  unfold nm at this
  omega
set_option maxHeartbeats 4000000 in
theorem k41 (x1 x2 y1 y2 t1 t2 : Int) (c1 : ∀ σ, callI TT 68 [.agg [.int .i64 x1, .int .i64 x2]] σ = some (.bool true, σ)) (c2 : ∀ σ, callI TT 68 [.agg [.int .i64 y1, .int .i64 y2]] σ = some (.bool true, σ)) (c3 : ∀ σ, callI TT 69 [.agg [.int .i64 x1, .int .i64 x2], .agg [.int .i64 y1, .int .i64 y2]] σ = some (.tup [.agg [.int .i64 t1, .int .i64 t2], .bool true], σ)) :
    ∃ σ', exI TT (FI.of Tryz.f41 (TT.an 41)) [.code (Tryz.f41.body.getD .skip)] (paramsE 0 [.agg [.int .i64 x1, .int .i64 x2], .agg [.int .i64 y1, .int .i64 y2]]) ⟨[], 0⟩ = some (.tup [.agg [.int .i64 t1, .int .i64 t2], .bool true], σ') := by
  refine ex1 ?_
  rw [fi41]
  simp only [Tryz.f41, Option.getD]
  simp (maxSteps := 1000000) (disch := omega) [cellsAt, getCells, takeN, dropN, fieldAddrA, allOne, AV.one, n_push, storeCellsA, putN, overN, St.push, St.get, St.set, hget, hset, blt_dec, buildA, sizesOf, fillA, putCells, List.take_succ_cons, List.take_zero, List.drop_succ_cons, List.drop_zero, List.nil_append, List.cons_append, List.length_cons, List.length_nil, eqvs_dgs, convA, c1, c2, c3]
set_option maxHeartbeats 4000000 in
theorem k45 (x1 x2 y1 y2 t1 t2 : Int) (c1 : ∀ σ, callI TT 68 [.agg [.int .i64 x1, .int .i64 x2]] σ = some (.bool true, σ)) (c2 : ∀ σ, callI TT 68 [.agg [.int .i64 y1, .int .i64 y2]] σ = some (.bool true, σ)) (c3 : ∀ σ, callI TT 73 [.agg [.int .i64 x1, .int .i64 x2], .agg [.int .i64 y1, .int .i64 y2]] σ = some (.tup [.agg [.int .i64 t1, .int .i64 t2], .bool true], σ)) :
    ∃ σ', exI TT (FI.of Tryz.f45 (TT.an 45)) [.code (Tryz.f45.body.getD .skip)] (paramsE 0 [.agg [.int .i64 x1, .int .i64 x2], .agg [.int .i64 y1, .int .i64 y2]]) ⟨[], 0⟩ = some (.tup [.agg [.int .i64 t1, .int .i64 t2], .bool true], σ') := by
  refine ex1 ?_
  rw [fi45]
  simp only [Tryz.f45, Option.getD]
  simp (maxSteps := 1000000) (disch := omega) [cellsAt, getCells, takeN, dropN, fieldAddrA, allOne, AV.one, n_push, storeCellsA, putN, overN, St.push, St.get, St.set, hget, hset, blt_dec, buildA, sizesOf, fillA, putCells, List.take_succ_cons, List.take_zero, List.drop_succ_cons, List.drop_zero, List.nil_append, List.cons_append, List.length_cons, List.length_nil, eqvs_dgs, convA, c1, c2, c3]
set_option maxHeartbeats 4000000 in
theorem k15 (x1 x2 y1 y2 t1 t2 : Int) (c1 : ∀ σ, callI TT 41 [.agg [.int .i64 x1, .int .i64 x2], .agg [.int .i64 y1, .int .i64 y2]] σ = some (.tup [.agg [.int .i64 t1, .int .i64 t2], .bool true], σ)) :
    ∃ σ', exI TT (FI.of Tryz.f15 (TT.an 15)) [.code (Tryz.f15.body.getD .skip)] (paramsE 0 [.agg [.int .i64 x1, .int .i64 x2], .agg [.int .i64 y1, .int .i64 y2]]) ⟨[], 0⟩ = some (.agg [.int .i64 t1, .int .i64 t2], σ') := by
  refine ex1 ?_
  rw [fi15]
  simp only [Tryz.f15, Option.getD]
  simp (maxSteps := 1000000) (disch := omega) [cellsAt, getCells, takeN, dropN, fieldAddrA, allOne, AV.one, n_push, storeCellsA, putN, overN, St.push, St.get, St.set, hget, hset, blt_dec, buildA, sizesOf, fillA, putCells, List.take_succ_cons, List.take_zero, List.drop_succ_cons, List.drop_zero, List.nil_append, List.cons_append, List.length_cons, List.length_nil, eqvs_dgs, convA, c1]
set_option maxHeartbeats 4000000 in
theorem k19 (x1 x2 y1 y2 t1 t2 : Int) (c1 : ∀ σ, callI TT 45 [.agg [.int .i64 x1, .int .i64 x2], .agg [.int .i64 y1, .int .i64 y2]] σ = some (.tup [.agg [.int .i64 t1, .int .i64 t2], .bool true], σ)) :
    ∃ σ', exI TT (FI.of Tryz.f19 (TT.an 19)) [.code (Tryz.f19.body.getD .skip)] (paramsE 0 [.agg [.int .i64 x1, .int .i64 x2], .agg [.int .i64 y1, .int .i64 y2]]) ⟨[], 0⟩ = some (.agg [.int .i64 t1, .int .i64 t2], σ') := by
  refine ex1 ?_
  rw [fi19]
  simp only [Tryz.f19, Option.getD]
  simp (maxSteps := 1000000) (disch := omega) [cellsAt, getCells, takeN, dropN, fieldAddrA, allOne, AV.one, n_push, storeCellsA, putN, overN, St.push, St.get, St.set, hget, hset, blt_dec, buildA, sizesOf, fillA, putCells, List.take_succ_cons, List.take_zero, List.drop_succ_cons, List.drop_zero, List.nil_append, List.cons_append, List.length_cons, List.length_nil, eqvs_dgs, convA, c1]
theorem r15 {a b : Rat} (ha : fits a = true) (hb : fits b = true) (h : fits (a + b) = true) (σ : St) : callI TT 15 [.agg (QC a), .agg (QC b)] σ = some (.agg (QC (a + b)), σ) := by
  have c1 := fun σ : St => v68 a.num a.den σ [.agg (QC a)] rfl
  have c2 := fun σ : St => v68 b.num b.den σ [.agg (QC b)] rfl
  rw [vfr_of ha] at c1
  rw [vfr_of hb] at c2
  have c3 : FnV TT 41 [.agg (QC a), .agg (QC b)] (.tup [.agg (QC (a + b)), .bool true]) := FnV.mk fn41 rfl md41 (k41 _ _ _ _ _ _ c1 c2 (fun σ => add_c ha hb h σ)) (fun _ => rfl) rfl
  have c4 : FnV TT 15 [.agg (QC a), .agg (QC b)] (.agg (QC (a + b))) := FnV.mk fn15 rfl md15 (k15 _ _ _ _ _ _ (fun σ => c3 σ _ rfl)) (fun _ => rfl) rfl
  exact c4 σ _ rfl
theorem r19 {a b : Rat} (ha : fits a = true) (hb : fits b = true) (h : fits (a * b) = true) (σ : St) : callI TT 19 [.agg (QC a), .agg (QC b)] σ = some (.agg (QC (a * b)), σ) := by
  have c1 := fun σ : St => v68 a.num a.den σ [.agg (QC a)] rfl
  have c2 := fun σ : St => v68 b.num b.den σ [.agg (QC b)] rfl
  rw [vfr_of ha] at c1
  rw [vfr_of hb] at c2
  have c3 : FnV TT 45 [.agg (QC a), .agg (QC b)] (.tup [.agg (QC (a * b)), .bool true]) := FnV.mk fn45 rfl md45 (k45 _ _ _ _ _ _ c1 c2 (fun σ => mul_c ha hb h σ)) (fun _ => rfl) rfl
  have c4 : FnV TT 19 [.agg (QC a), .agg (QC b)] (.agg (QC (a * b))) := FnV.mk fn19 rfl md19 (k19 _ _ _ _ _ _ (fun σ => c3 σ _ rfl)) (fun _ => rfl) rfl
  exact c4 σ _ rfl
set_option maxHeartbeats 4000000 in
theorem k42 (x1 x2 y1 y2 : Int) (z : Int) (c1 : ∀ σ, callI TT 68 [.agg [.int .i64 x1, .int .i64 x2]] σ = some (.bool true, σ)) (c2 : ∀ σ, callI TT 68 [.agg [.int .i64 y1, .int .i64 y2]] σ = some (.bool true, σ)) (c3 : ∀ σ, callI TT 70 [.agg [.int .i64 x1, .int .i64 x2], .agg [.int .i64 y1, .int .i64 y2]] σ = some (.int .i64 z, σ)) :
    ∃ σ', exI TT (FI.of Tryz.f42 (TT.an 42)) [.code (Tryz.f42.body.getD .skip)] (paramsE 0 [.agg [.int .i64 x1, .int .i64 x2], .agg [.int .i64 y1, .int .i64 y2]]) ⟨[], 0⟩ = some (.tup [.int .i64 z, .bool true], σ') := by
  refine ex1 ?_
  rw [fi42]
  simp only [Tryz.f42, Option.getD]
  simp (maxSteps := 1000000) (disch := omega) [cellsAt, getCells, takeN, dropN, fieldAddrA, allOne, AV.one, n_push, storeCellsA, putN, overN, St.push, St.get, St.set, hget, hset, blt_dec, buildA, sizesOf, fillA, putCells, List.take_succ_cons, List.take_zero, List.drop_succ_cons, List.drop_zero, List.nil_append, List.cons_append, List.length_cons, List.length_nil, eqvs_dgs, convA, c1, c2, c3]
set_option maxHeartbeats 4000000 in
theorem k16t (x1 x2 y1 y2 : Int) (z : Int) (c1 : ∀ σ, callI TT 42 [.agg [.int .i64 x1, .int .i64 x2], .agg [.int .i64 y1, .int .i64 y2]] σ = some (.tup [.int .i64 z, .bool true], σ)) (hb : z < 0) :
    ∃ σ', exI TT (FI.of Tryz.f16 (TT.an 16)) [.code (Tryz.f16.body.getD .skip)] (paramsE 0 [.agg [.int .i64 x1, .int .i64 x2], .agg [.int .i64 y1, .int .i64 y2]]) ⟨[], 0⟩ = some (.bool true, σ') := by
  refine ex1 ?_
  rw [fi16]
  simp only [Tryz.f16, Option.getD]
  simp (maxSteps := 1000000) (disch := omega) [cellsAt, getCells, takeN, dropN, fieldAddrA, allOne, AV.one, n_push, storeCellsA, putN, overN, St.push, St.get, St.set, hget, hset, blt_dec, buildA, sizesOf, fillA, putCells, List.take_succ_cons, List.take_zero, List.drop_succ_cons, List.drop_zero, List.nil_append, List.cons_append, List.length_cons, List.length_nil, eqvs_dgs, convA, c1, hb]
set_option maxHeartbeats 4000000 in
theorem k16f (x1 x2 y1 y2 : Int) (z : Int) (c1 : ∀ σ, callI TT 42 [.agg [.int .i64 x1, .int .i64 x2], .agg [.int .i64 y1, .int .i64 y2]] σ = some (.tup [.int .i64 z, .bool true], σ)) (hb : 0 ≤ z) :
    ∃ σ', exI TT (FI.of Tryz.f16 (TT.an 16)) [.code (Tryz.f16.body.getD .skip)] (paramsE 0 [.agg [.int .i64 x1, .int .i64 x2], .agg [.int .i64 y1, .int .i64 y2]]) ⟨[], 0⟩ = some (.bool false, σ') := by
  refine ex1 ?_
  rw [fi16]
  simp only [Tryz.f16, Option.getD]
  simp (maxSteps := 1000000) (disch := omega) [cellsAt, getCells, takeN, dropN, fieldAddrA, allOne, AV.one, n_push, storeCellsA, putN, overN, St.push, St.get, St.set, hget, hset, blt_dec, buildA, sizesOf, fillA, putCells, List.take_succ_cons, List.take_zero, List.drop_succ_cons, List.drop_zero, List.nil_append, List.cons_append, List.length_cons, List.length_nil, eqvs_dgs, convA, c1, hb]
theorem cmp_neg {p q : Rat} : cmpR p q < 0 ↔ p < q := by
  unfold cmpR
  constructor
  · intro h
    split at h
    · omega
    · split at h
      · rename_i h2
        have := ng_iff.1 h2
        grind
      · omega
  · intro h
    have h1 : ¬ p - q = 0 := by grind
    rw [if_neg h1, if_pos (ng_iff.2 (by grind))]
    decide
theorem r16 {a b : Rat} (ha : fits a = true) (hb : fits b = true) (σ : St) : callI TT 16 [.agg (QC a), .agg (QC b)] σ = some (.bool (decide (a < b)), σ) := by
  have c1 := fun σ : St => v68 a.num a.den σ [.agg (QC a)] rfl
  have c2 := fun σ : St => v68 b.num b.den σ [.agg (QC b)] rfl
  have c3 := fun σ : St => v70 (vfr_of ha) (vfr_of hb) σ [.agg (QC a), .agg (QC b)] rfl
  rw [mk_self, mk_self] at c3
  rw [vfr_of ha] at c1
  rw [vfr_of hb] at c2
  have c4 : FnV TT 42 [.agg (QC a), .agg (QC b)] (.tup [.int .i64 (cmpR a b), .bool true]) := FnV.mk fn42 rfl md42 (k42 _ _ _ _ _ c1 c2 c3) (fun _ => rfl) rfl
  by_cases h : a < b
  · rw [decide_eq_true h]
    have c5 : FnV TT 16 [.agg (QC a), .agg (QC b)] (.bool true) := FnV.mk fn16 rfl md16 (k16t _ _ _ _ _ (fun σ => c4 σ _ rfl) (cmp_neg.2 h)) (fun _ => rfl) rfl
    exact c5 σ _ rfl
  · rw [decide_eq_false h]
    have c5 : FnV TT 16 [.agg (QC a), .agg (QC b)] (.bool false) := FnV.mk fn16 rfl md16 (k16f _ _ _ _ _ (fun σ => c4 σ _ rfl) (Int.not_lt.1 fun hh => h (cmp_neg.1 hh))) (fun _ => rfl) rfl
    exact c5 σ _ rfl

theorem v4 (n m : Nat) (xs ys : List AV) : FnV TT 4 [.lst n xs, .lst m ys] (.bool (decide (1048576 < n) || decide (1048576 < m))) := by
  refine FnV.mk fn4 rfl md4 ⟨⟨[], 0⟩, ?_⟩ (fun _ => rfl) rfl
  rw [fi4]
  by_cases h : 1048576 < n
  · have h' : ¬ (n : Int) ≤ 1048576 := by omega
    simp [xI_seq, xI_region, xI_ret, regA, regOps, runOps, opStep, wantedA, opA, evo, evos, calleeA, lk, nif_eq, putE, paramsE, valS, val2, keepE, restrict, finA, resA, binA, binInt, ofConst, ofConst1, loadA, TK.isAgg, asVar, unA, builtinA, lenOpA, lenA, ileb_cast, ileb_eq, ieqb_dec, indexAddrA, inB_dec, evPairs, storeA, AV.cellsOf, pairsOf, xI_nil, binBool, gcE, evOpt, xI_block, xI_loopH, xI_condM, xI_exitM, xI_skip, xI_blk, exitA, ty3, ty5, ty22, h, h']
  · have h' : (n : Int) ≤ 1048576 := by omega
    by_cases h2 : 1048576 < m
    · have h2' : ¬ (m : Int) ≤ 1048576 := by omega
      simp [xI_seq, xI_region, xI_ret, regA, regOps, runOps, opStep, wantedA, opA, evo, evos, calleeA, lk, nif_eq, putE, paramsE, valS, val2, keepE, restrict, finA, resA, binA, binInt, ofConst, ofConst1, loadA, TK.isAgg, asVar, unA, builtinA, lenOpA, lenA, ileb_cast, ileb_eq, ieqb_dec, indexAddrA, inB_dec, evPairs, storeA, AV.cellsOf, pairsOf, xI_nil, binBool, gcE, evOpt, xI_block, xI_loopH, xI_condM, xI_exitM, xI_skip, xI_blk, exitA, ty3, ty5, ty22, h, h', h2, h2']
    · have h2' : (m : Int) ≤ 1048576 := by omega
      simp [xI_seq, xI_region, xI_ret, regA, regOps, runOps, opStep, wantedA, opA, evo, evos, calleeA, lk, nif_eq, putE, paramsE, valS, val2, keepE, restrict, finA, resA, binA, binInt, ofConst, ofConst1, loadA, TK.isAgg, asVar, unA, builtinA, lenOpA, lenA, ileb_cast, ileb_eq, ieqb_dec, indexAddrA, inB_dec, evPairs, storeA, AV.cellsOf, pairsOf, xI_nil, binBool, gcE, evOpt, xI_block, xI_loopH, xI_condM, xI_exitM, xI_skip, xI_blk, exitA, ty3, ty5, ty22, h, h', h2, h2']

theorem v6 (l : List Nat) (hl : ∀ x ∈ l, x < 256) (i n : Nat) (hn2 : n < 1000000) (hi : i < 1000000) : ∃ r : Nat, r < max 1 n ∧ FnV TT 6 [.lst l.length (byts l), .int .i64 i, .int .i64 n] (.int .i64 r) := by
  by_cases h1 : n ≤ 1
  · have h1' : (n : Int) ≤ 1 := by omega
    refine ⟨0, by omega, FnV.mk fn6 rfl md6 ⟨⟨[], 0⟩, ?_⟩ (fun _ => rfl) rfl⟩
    rw [fi6]
    simp [xI_seq, xI_region, xI_ret, regA, regOps, runOps, opStep, wantedA, opA, evo, evos, calleeA, lk, nif_eq, putE, paramsE, valS, val2, keepE, restrict, finA, resA, binA, binInt, ofConst, ofConst1, loadA, TK.isAgg, asVar, unA, builtinA, lenOpA, lenA, ileb_cast, ileb_eq, ieqb_dec, indexAddrA, inB_dec, evPairs, storeA, AV.cellsOf, pairsOf, xI_nil, binBool, gcE, evOpt, xI_block, xI_loopH, xI_condM, xI_exitM, xI_skip, xI_blk, exitA, ty2, ty5, ty22, h1, h1']
  have hn : 1 < n := by omega
  have h0 : ¬ (n : Int) ≤ 1 := by omega
  by_cases hil : i < l.length
  · obtain ⟨x, hx⟩ : ∃ x, l[i]? = some x := ⟨_, List.getElem?_eq_getElem hil⟩
    have hx2 : x < 256 := hl x (List.mem_of_getElem? hx)
    have hr : cellsAt (⟨[], 0⟩ : St) (.lp (byts l) i) 1 = some [.int .u8 x] := getCells_byt hx
    have hil2 : ¬ l.length ≤ i := by omega
    have hw : wrapA .i64 (x : Int) = x := wrapA_id (by omega) (by omega)
    have hm : (x : Int).tmod n = (x % n : Nat) := by rw [Int.tmod_eq_emod_of_nonneg (by omega)]; simp
    have hne : ¬ (n : Int) = 0 := by omega
    have hne2 : ¬ n = 0 := by omega
    have hlt := Nat.mod_lt x (show 0 < n by omega)
    refine ⟨x % n, by omega, FnV.mk fn6 rfl md6 ⟨⟨[], 0⟩, ?_⟩ (fun _ => rfl) rfl⟩
    rw [fi6]
    simp [xI_seq, xI_region, xI_ret, regA, regOps, runOps, opStep, wantedA, opA, evo, evos, calleeA, lk, nif_eq, putE, paramsE, valS, val2, keepE, restrict, finA, resA, binA, binInt, ofConst, ofConst1, loadA, TK.isAgg, asVar, unA, builtinA, lenOpA, lenA, ileb_cast, ileb_eq, ieqb_dec, indexAddrA, inB_dec, evPairs, storeA, AV.cellsOf, pairsOf, xI_nil, binBool, gcE, evOpt, xI_block, xI_loopH, xI_condM, xI_exitM, xI_skip, xI_blk, exitA, ty2, ty5, ty22, h0, hil, hil2, hr, convA, hw, hm, hne, hne2, ty5]
  · have hil2 : l.length ≤ i := by omega
    have hw : wrapA .i64 ((i : Int) * 37) = ((i * 37 : Nat) : Int) := by rw [wrapA_id (by omega) (by omega)]; omega
    have hw2 : wrapA .i64 (((i * 37 : Nat) : Int) + 11) = ((i * 37 + 11 : Nat) : Int) := by rw [wrapA_id (by omega) (by omega)]; omega
    have hm : ((i * 37 + 11 : Nat) : Int).tmod n = ((i * 37 + 11) % n : Nat) := by rw [Int.tmod_eq_emod_of_nonneg (by omega)]; simp
    have hne : ¬ (n : Int) = 0 := by omega
    have hne2 : ¬ n = 0 := by omega
    have hlt := Nat.mod_lt (i * 37 + 11) (show 0 < n by omega)
    refine ⟨(i * 37 + 11) % n, by omega, FnV.mk fn6 rfl md6 ⟨⟨[], 0⟩, ?_⟩ (fun _ => rfl) rfl⟩
    rw [fi6]
    generalize hz : i * 37 = z at *
    generalize hz2 : z + 11 = z2 at *
    simp [xI_seq, xI_region, xI_ret, regA, regOps, runOps, opStep, wantedA, opA, evo, evos, calleeA, lk, nif_eq, putE, paramsE, valS, val2, keepE, restrict, finA, resA, binA, binInt, ofConst, ofConst1, loadA, TK.isAgg, asVar, unA, builtinA, lenOpA, lenA, ileb_cast, ileb_eq, ieqb_dec, indexAddrA, inB_dec, evPairs, storeA, AV.cellsOf, pairsOf, xI_nil, binBool, gcE, evOpt, xI_block, xI_loopH, xI_condM, xI_exitM, xI_skip, xI_blk, exitA, ty2, ty5, ty22, h0, hil, hil2, hw, hw2, hm, hne, hne2, ty5]

theorem and32 (a : Nat) (h : a ≤ 18446744073709551615) : bitsA .and .u64 (a : Int) 4294967295 = some (.int .u64 ((a % 4294967296 : Nat) : Int)) := by
  have h1 : smallNat .u64 (a : Int) 4294967295 = some (a, 4294967295) := by
    show (bif Nat.ble a (topOf .u64) && Nat.ble 4294967295 (topOf .u64) then some (a, 4294967295) else none) = _
    have : Nat.ble a (topOf .u64) = true := by rw [Nat.ble_eq]; exact h
    rw [this]; rfl
  simp only [bitsA, h1]
  have : Nat.land a 4294967295 = a % 4294967296 := Nat.and_two_pow_sub_one_eq_mod a 32
  rw [this]; rfl
theorem shr32 (a : Nat) : shrA (a : Int) 32 = ((a / 4294967296 : Nat) : Int) := rfl
theorem wrapU {n : Nat} (h : n ≤ 18446744073709551615) : wrapA .u64 (n : Int) = n := by
  rw [wrapA_eq]; simp [IntKind.wrap, IntKind.bits, IntKind.signed]; omega

theorem c97 (a b : Nat) (ha : a < 144115188075855872) (hb : b < 64) (σ : St) : callI TT 97 [.int .u64 a, .int .u64 b] σ = some (.tup [.int .u64 0, .int .u64 ((a * b : Nat) : Int)], σ) := by
  refine (FnV.mk (args' := [.int .u64 a, .int .u64 b]) fn97 rfl md97 ⟨⟨[], 0⟩, ?_⟩ (fun _ => rfl) rfl) σ _ rfl
  obtain ⟨x0, hx0⟩ : ∃ x, x = a % 4294967296 := ⟨_, rfl⟩
  obtain ⟨x1, hx1⟩ : ∃ x, x = a / 4294967296 := ⟨_, rfl⟩
  have hx0l : x0 < 4294967296 := by omega
  have hx1l : x1 < 33554432 := by omega
  have e1 := and32 a (by omega)
  have e2 := shr32 a
  have e3 := and32 b (by omega)
  have e4 := shr32 b
  rw [← hx0] at e1
  rw [← hx1] at e2
  rw [show b % 4294967296 = b by omega] at e3
  rw [show b / 4294967296 = 0 by omega] at e4
  obtain ⟨w0, hw0⟩ : ∃ w, w = x0 * b := ⟨_, rfl⟩
  have hw0l : w0 < 4294967296 * 64 := by rw [hw0]; exact Nat.mul_lt_mul'' hx0l hb
  have m1 : wrapA .u64 ((x0 : Int) * b) = w0 := by rw [← Int.natCast_mul, wrapU (by omega), hw0]
  obtain ⟨w1, hw1⟩ : ∃ w, w = x1 * b := ⟨_, rfl⟩
  have hw1l : w1 < 33554432 * 64 := by rw [hw1]; exact Nat.mul_lt_mul'' hx1l hb
  have m2 : wrapA .u64 ((x1 : Int) * b) = w1 := by rw [← Int.natCast_mul, wrapU (by omega), hw1]
  have e5 := shr32 w0
  obtain ⟨t, ht⟩ : ∃ t, t = w1 + w0 / 4294967296 := ⟨_, rfl⟩
  have htl : t < 4294967296 := by omega
  have m3 : wrapA .u64 ((w1 : Int) + (w0 / 4294967296 : Nat)) = t := by rw [← Int.natCast_add, wrapU (by omega), ht]
  have e6 := and32 t (by omega)
  have e7 := shr32 t
  rw [show t % 4294967296 = t by omega] at e6
  rw [show t / 4294967296 = 0 by omega] at e7
  have m4 : wrapA .u64 ((a : Int) * b) = ((a * b : Nat) : Int) := by
    have : a * b ≤ 144115188075855872 * 64 := Nat.mul_le_mul (by omega) (by omega)
    rw [← Int.natCast_mul, wrapU (by omega)]
  have m5 : wrapA .u64 (0 : Int) = 0 := rfl
  have m6 : wrapA .u64 (t : Int) = t := wrapU (by omega)
  obtain ⟨z, hz⟩ : ∃ z, z = w0 / 4294967296 := ⟨_, rfl⟩
  obtain ⟨ab, hab⟩ : ∃ z, z = a * b := ⟨_, rfl⟩
  rw [← hz] at e5 m3
  rw [← hab] at m4 ⊢
  rw [show ((0 : Nat) : Int) = 0 from rfl] at e4 e7
  have hmin : min 32 IntKind.u64.bits = 32 := rfl
  rw [fi97]
  simp [xI_seq, xI_region, xI_ret, regA, regOps, runOps, opStep, wantedA, opA, evo, evos, calleeA, lk, nif_eq, putE, paramsE, valS, val2, keepE, restrict, finA, resA, binA, binInt, ofConst, ofConst1, loadA, TK.isAgg, asVar, unA, builtinA, lenOpA, lenA, ileb_cast, ileb_eq, ieqb_dec, indexAddrA, inB_dec, evPairs, storeA, AV.cellsOf, pairsOf, xI_nil, binBool, gcE, evOpt, xI_block, xI_loopH, xI_condM, xI_exitM, xI_skip, xI_blk, exitA, ty73, e1, e2, e3, e4, m1, m2, e5, m3, e6, e7, m4, m5, m6, hmin]

end Go.Proofs.YtkglajdhlmmlfaaGreat
