/- The law on the best rows. Nothing is claimed here; no condition. -/
import Derived.Test.YtihoeimlkbjgmaaQc
import Derived.Test.YtihoeimlkbjgmaaXf
set_option linter.unusedSimpArgs false
set_option linter.unusedVariables false
namespace Go.Proofs.Ytihoeimlkbjgmaa
open Go Go.Abs Go.Nm
attribute [local simp] xI_seq xI_region xI_ret regA regOps runOps opStep wantedA opA evo evos calleeA lk nif_eq putE paramsE valS val2 keepE restrict finA resA binA binInt ofConst ofConst1 loadA TK.isAgg asVar unA builtinA lenOpA lenA indexAddrA evPairs storeA AV.cellsOf pairsOf xI_nil binBool gcE evOpt runTr pairsOk pairOk sameVal AV.eqv lastOf lstAt eqvs boundA indexA regF twoOf prsOf memI runTrF selF runTr2 freshOp scals AV.scal xI_block xI_loopH xI_condM xI_exitM xI_skip xI_blk exitA List.getElem?_cons_zero List.getElem?_cons_succ List.getElem?_toArray List.getElem?_nil ileb_t ileb_f ieqb_t ieqb_f inB_t wrapA_id lp_read ieqb_self Nat.blt_eq cond_true cond_false ty2 ty3 ty4 ty9 ty22 ty25 ty41 ty48 ty58 ty76 ty90 ty92 ty97 ty99 ty101 ty104 ty115 ty143 ty177
/-! ### Contracts -/
/-! ### Sums -/
/-- A box with some cells. -/
def Bx (σ : St) (b : Nat) (vs : List AV) : Prop := (∃ n, σ.get b = some ⟨vs, n, false⟩) ∧ b < σ.n
theorem Bx.rd {σ : St} {b n : Nat} {vs : List AV} (h : Bx σ b vs) (hn : vs.length = n) : cellsAt σ (.ptr b 0) n = some vs := by
  obtain ⟨⟨m, h⟩, _⟩ := h
  simp only [cellsAt, h, getCells_eq]
  rw [if_pos (by omega), List.drop_zero, List.take_of_length_le (by omega)]
theorem Bx.st {σ : St} {b : Nat} {vs ws : List AV} (h : Bx σ b vs) (hl : ws.length = vs.length) (ho : allOne ws = true) : ∃ σ', storeCellsA σ b 0 ws = some σ' ∧ Bx σ' b ws ∧ But b σ σ' := by
  obtain ⟨⟨m, hg⟩, hlt⟩ := h
  refine ⟨σ.set b ⟨ws, m, false⟩, ?_, ⟨⟨m, get_set_eq hg⟩, hlt⟩, rfl, fun c hc => get_set_ne (fun e => hc e.symm)⟩
  rw [storeCellsA_eq, hg]
  simp only [putCells]
  rw [if_pos ⟨by omega, ho⟩, List.take_zero, List.nil_append, Nat.zero_add, List.drop_of_length_le (by omega), List.append_nil]
theorem Bx.old {σ σ' : St} {b : Nat} {vs : List AV} (h : Bx σ b vs) (k : Old σ σ') : Bx σ' b vs := by
  obtain ⟨⟨m, hg⟩, hlt⟩ := h
  exact ⟨⟨m, by rw [k.2 b hlt]; exact hg⟩, Nat.lt_of_lt_of_le hlt k.1⟩
theorem Bx.but {σ σ' : St} {b c : Nat} {vs : List AV} (h : Bx σ c vs) (hc : c ≠ b) (k : But b σ σ') : Bx σ' c vs := by
  obtain ⟨⟨m, hg⟩, hlt⟩ := h
  exact ⟨⟨m, by rw [k.2 c hc]; exact hg⟩, by rw [k.1]; exact hlt⟩
theorem Bx.push {σ : St} {vs : List AV} {m : Nat} : Bx (σ.push ⟨vs, m, false⟩) σ.n vs := ⟨⟨m, get_push_same⟩, Nat.lt_succ_self _⟩
theorem Bx.lt {σ : St} {b : Nat} {vs : List AV} (h : Bx σ b vs) : b < σ.n := h.2
/-- Rows of aggregates. -/
def flat {α : Type} (f : α → List AV) (l : List α) : List AV := l.flatMap f
theorem flat_len {α : Type} {f : α → List AV} {w : Nat} (hf : ∀ x, (f x).length = w) : ∀ l : List α, (flat f l).length = l.length * w
  | [] => by simp [flat]
  | x :: r => by
    have := flat_len hf r
    simp only [flat, List.flatMap_cons, List.length_append, List.length_cons] at this ⊢
    rw [this, hf, Nat.add_mul]; omega
theorem flat_get {α : Type} {f : α → List AV} {w : Nat} (hf : ∀ x, (f x).length = w) : ∀ (l : List α) (i : Nat) (x : α), l[i]? = some x → getCells (flat f l) (i * w) w = some (f x)
  | [], i, x, h => by simp at h
  | y :: r, 0, x, h => by
    simp at h; subst h
    rw [getCells_eq, flat, List.flatMap_cons, if_pos (by simp [hf]), Nat.zero_mul, List.drop_zero, List.take_left' (hf y)]
  | y :: r, i + 1, x, h => by
    have ih := flat_get hf r i x (by simpa using h)
    rw [getCells_eq] at ih ⊢
    split at ih
    · rename_i hl
      have e : (i + 1) * w = (f y).length + i * w := by rw [hf, Nat.add_mul]; omega
      simp only [flat, List.flatMap_cons, List.length_append] at hl ⊢
      rw [if_pos (by rw [e]; omega), e, ← List.drop_drop, List.drop_left]
      exact ih
    · cases ih
theorem flat_one {α : Type} {f : α → List AV} (hf : ∀ x, allOne (f x) = true) : ∀ l : List α, allOne (flat f l) = true
  | [] => rfl
  | x :: r => by
    have h2 := flat_one hf r
    have : ∀ (a b : List AV), allOne a = true → allOne b = true → allOne (a ++ b) = true := by
      intro a; induction a with
      | nil => intro b _ h; exact h
      | cons y t ih => intro b h1 h2; simp only [allOne, Bool.and_eq_true, List.cons_append] at h1 ⊢; exact ⟨h1.1, ih b h1.2 h2⟩
    exact this _ _ (hf x) h2
theorem mapO_app {α β : Type} {f : α → Option β} : ∀ {a : List α} {b : List α} {x y : List β}, mapO f a = some x → mapO f b = some y → mapO f (a ++ b) = some (x ++ y)
  | [], b, x, y, h1, h2 => by simp only [mapO] at h1; cases h1; exact h2
  | z :: r, b, x, y, h1, h2 => by
    simp only [mapO] at h1
    split at h1
    · rename_i u v hu hv
      cases h1
      exact mapO_cons hu (mapO_app hv h2)
    · cases h1
theorem flat_frz {α : Type} {f : α → List AV} {σ : St} {d : Nat} (hf : ∀ x, mapO (frzV σ d) (f x) = some (f x)) : ∀ l : List α, mapO (frzV σ d) (flat f l) = some (flat f l)
  | [] => rfl
  | x :: r => mapO_app (hf x) (flat_frz hf r)
theorem flat_app {α : Type} (f : α → List AV) (a b : List α) : flat f (a ++ b) = flat f a ++ flat f b := by simp [flat]
/-- Rows whose cells are told, whatever their elements' size. -/
def RowE (σ : St) (b e : Nat) (cs : List AV) : Prop := ∃ o, σ.get b = some ⟨cs, e, o⟩ ∧ b < σ.n
theorem RowE.lt {σ : St} {b e : Nat} {cs : List AV} (h : RowE σ b e cs) : b < σ.n := by obtain ⟨_, _, h⟩ := h; exact h
theorem RowE.old {σ σ' : St} {b e : Nat} {cs : List AV} (h : RowE σ b e cs) (k : Old σ σ') : RowE σ' b e cs := by
  obtain ⟨o, hg, hlt⟩ := h; exact ⟨o, by rw [k.2 b hlt]; exact hg, Nat.lt_of_lt_of_le hlt k.1⟩
theorem RowE.but {σ σ' : St} {b c e : Nat} {cs : List AV} (h : RowE σ c e cs) (hc : c ≠ b) (k : But b σ σ') : RowE σ' c e cs := by
  obtain ⟨o, hg, hlt⟩ := h; exact ⟨o, by rw [k.2 c hc]; exact hg, by rw [k.1]; exact hlt⟩
theorem RowE.push {σ : St} {cs : List AV} {e : Nat} {o : Bool} : RowE (σ.push ⟨cs, e, o⟩) σ.n e cs := ⟨o, get_push_same, Nat.lt_succ_self _⟩
theorem RowE.pushed {σ : St} {b e : Nat} {cs : List AV} {x : Blk} (h : RowE σ b e cs) : RowE (σ.push x) b e cs := h.old Old.push
theorem RowE.frz {σ : St} {b e n c d : Nat} {cs : List AV} (h : RowE σ b e cs) (hl : cs.length = n * e) (hf : mapO (frzV σ (d + 1)) cs = some cs) (hc : n ≤ c) : frzV σ (d + 2) (.sl b 0 n c) = some (.lst n cs) := by
  obtain ⟨o, hg, _⟩ := h
  unfold frzV
  simp only [hg]
  rw [getCells_eq, if_pos (by omega), List.drop_zero, List.take_of_length_le (by omega)]
  simp only [hf, hc, if_true]
theorem RowE.rd {σ : St} {b e i w : Nat} {cs v : List AV} (h : RowE σ b e cs) (hv : getCells cs i w = some v) : cellsAt σ (.ptr b i) w = some v := by
  obtain ⟨o, h, _⟩ := h
  simp only [cellsAt, h]; exact hv
theorem RowE.st {σ : St} {b e i : Nat} {cs ws : List AV} (h : RowE σ b e cs) (hi : i + ws.length ≤ cs.length) (ho : allOne ws = true) : ∃ σ', storeCellsA σ b i ws = some σ' ∧ RowE σ' b e (putCells cs i ws) ∧ But b σ σ' := by
  obtain ⟨o, hg, hlt⟩ := h
  refine ⟨σ.set b ⟨putCells cs i ws, e, o⟩, ?_, ⟨o, get_set_eq hg, hlt⟩, rfl, fun c hc => get_set_ne (fun e => hc e.symm)⟩
  rw [storeCellsA_eq, hg]
  simp only []
  rw [if_pos ⟨hi, ho⟩]
theorem build_el {T : Tab} {σ : St} {st e : TypeId} {k : TK} {es y : Nat} {z w : List AV} (ht : T.ty st = some ⟨.slice e, 1, 24, [.nilS]⟩) (he : T.ty e = some ⟨k, es, y, z⟩) (hes : es ≤ 1000) (hw : w.length = es) (hz : z.length = es) (h1 : allOne w = true) : buildSliceA T σ st 1 [(0, .agg w)] = some (.sl σ.n 0 1 1, σ.push ⟨w, es, false⟩) := by
  have hp : putCells (z ++ []) (0 * es) w = w := by
    rw [List.append_nil, Nat.zero_mul, putCells, List.take_zero, List.nil_append, Nat.zero_add, List.drop_of_length_le (by omega), List.append_nil]
  simp only [buildSliceA, ht, he, repeatCells, fillA, AV.cellsOf]
  rw [if_pos (by omega)]
  rw [List.append_nil, Nat.zero_mul] at hp
  simp [hw, h1, hz, hp]
theorem build_e0 {T : Tab} {σ : St} {st e : TypeId} {k : TK} {es y : Nat} {z : List AV} (ht : T.ty st = some ⟨.slice e, 1, 24, [.nilS]⟩) (he : T.ty e = some ⟨k, es, y, z⟩) : buildSliceA T σ st 0 [] = some (.sl σ.n 0 0 0, σ.push ⟨[], es, false⟩) := by
  simp [buildSliceA, ht, he, fillA, repeatCells]
theorem append_el {T : Tab} {σ : St} {b n : Nat} {cs w : List AV} {st e : TypeId} {k : TK} {es y : Nat} {z : List AV} (ht : T.ty st = some ⟨.slice e, 1, 24, [.nilS]⟩) (he : T.ty e = some ⟨k, es, y, z⟩) (hk : ∀ j, k ≠ .int j → True) (hy : 0 < y ∧ y ≤ 100)
    (hw : w.length = es) (h1 : allOne w = true) (hcs : cs.length = n * es) (hb : RowE σ b es cs) (hs : n < 100000000000) :
    ∃ σ', appendA T (σ.push ⟨w, es, false⟩) st st (.sl b 0 n n) (.sl σ.n 0 1 1) = some (.sl (σ.n + 1) 0 (n + 1) (n + 1), σ') ∧ RowE σ' (σ.n + 1) es (cs ++ w) ∧ ∀ c, c ≠ b → c < σ.n → σ'.get c = σ.get c := by
  obtain ⟨o, hg, hlt⟩ := hb
  have hf : firstA (σ.push ⟨w, es, false⟩) es 1 (.sl σ.n 0 1 1) = some w := by
    simp only [firstA, get_push_same]
    rw [getCells_eq, if_pos (by omega), List.drop_zero, List.take_of_length_le (by omega)]
  have hg2 : (σ.push ⟨w, es, false⟩).get b = some ⟨cs, es, o⟩ := by rw [get_push_lt hlt]; exact hg
  have hc : getCells cs 0 (n * es) = some cs := by rw [getCells_eq, if_pos (by omega), List.drop_zero, List.take_of_length_le (by omega)]
  have hyb : (n + 1) * y ≤ 140737488355328 := by
    have : (n + 1) * y ≤ 100000000000 * 100 := Nat.mul_le_mul (by omega) hy.2
    omega
  refine ⟨(if o then (σ.push ⟨w, es, false⟩).del b else σ.push ⟨w, es, false⟩).push ⟨cs ++ w, es, true⟩, ?_, ⟨true, ?_, ?_⟩, ?_⟩
  · unfold appendA
    simp only [ht, he, lenA, hf, h1, hg2, hc]
    rw [if_neg (by simp), if_neg (by omega), if_pos ⟨hyb, by omega, trivial, by omega, hy.1⟩]
    cases o <;> simp [n_push]
  · cases o <;> exact get_push_same
  · cases o <;> simp [n_push, n_del]
  · intro c hc hcn
    cases o
    · simp only [Bool.false_eq_true, if_false]
      rw [get_push_lt (by show c < σ.n + 1; omega), get_push_lt hcn]
    · simp only [if_true]
      rw [get_push_lt (by show c < σ.n + 1; omega), get_del_ne (fun e => hc e.symm), get_push_lt hcn]
/-- Fractions as they come in. -/
def FC (x : Int × Int) : List AV := [.int .i64 x.1, .int .i64 x.2]
theorem FC_len (x : Int × Int) : (FC x).length = 2 := rfl
def FS (l : List (Int × Int)) : AV := .lst l.length (flat FC l)
theorem FS_get {l : List (Int × Int)} {i : Nat} (h : i < l.length) (σ : St) : cellsAt σ (.lp (flat FC l) (i * 2)) 2 = some (FC l[i]) := flat_get FC_len l i _ (List.getElem?_eq_getElem h)
def vfl (l : List (Int × Int)) : Bool := l.all fun x => vfr x.1 x.2
def rq (x : Int × Int) : Rat := mkRat x.1 x.2.toNat
def sumQ (l : List (Int × Int)) : Rat := l.foldl (fun s x => s + rq x) 0
/-- Chances. -/
def isCh (l : List (Int × Int)) : Bool := (decide (1 ≤ l.length) && decide (l.length ≤ 16)) && (vfl l && ((l.all fun x => decide (0 ≤ x.1)) && decide (sumQ l = 1)))

theorem v130 (l : List (Int × Int)) : FnV TT 130 [FS l] (.int .i64 l.length) := by
  refine FnV.mk (c := Try.f130.body.getD .skip) fn130 rfl md130 (ex1 ?_) (fun _ => rfl) rfl
  rw [fi130]
  simp only [Try.f130, Option.getD]
  unfold FS
  simp (maxSteps := 1000000) (disch := omega) [cellsAt, getCells, takeN, dropN, fieldAddrA, allOne, AV.one, n_push, storeCellsA, putN, overN, St.push, St.get, St.set, hget, hset, blt_dec, buildA, sizesOf, fillA, putCells, List.take_succ_cons, List.take_zero, List.drop_succ_cons, List.drop_zero, List.nil_append, List.cons_append, List.length_cons, List.length_nil, eqvs_dgs]

theorem pow_sh (i : Nat) (hi : i ≤ 60) : wrapA .i64 (shlA (1 : Int) (min i IntKind.i64.bits)) = ((2 ^ i : Nat) : Int) := by
  rw [Nat.min_eq_left (by simp [IntKind.bits]; omega)]
  have e : shlA (1 : Int) i = ((1 * 2 ^ i : Nat) : Int) := rfl
  have h : 2 ^ i ≤ 2 ^ 60 := Nat.pow_le_pow_right (by decide) hi
  rw [e, Nat.one_mul]
  exact wi64 (Nat.le_trans h (by decide))
/-- The number of bits of a source, from i on; 0 for none. -/
def bitsF (l : List (Int × Int)) : Nat → Nat → Nat
  | 0, _ => 0
  | m + 1, i => if l.length = 2 ^ i ∧ isCh l = true then i else bitsF l m (i + 1)
def srcBits (l : List (Int × Int)) : Nat := bitsF l 4 1
/-- A source. -/
def isSrc (l : List (Int × Int)) : Bool := decide (0 < srcBits l)

theorem r174 (n d : Int) : FnV TT 174 [.agg [.int .i64 n, .int .i64 d]] (.bool (!vfr n d)) := by
  refine FnV.mk (c := Try.f174.body.getD .skip) fn174 rfl md174 (ex1 ?_) (fun _ => rfl) rfl
  have c1 := fun σ : St => v175 n d σ [.agg [.int .i64 n, .int .i64 d]] rfl
  rw [fi174]
  simp only [Try.f174, Option.getD]
  simp (maxSteps := 1000000) (disch := omega) [cellsAt, getCells, takeN, dropN, fieldAddrA, allOne, AV.one, n_push, storeCellsA, putN, overN, St.push, St.get, St.set, hget, hset, blt_dec, buildA, sizesOf, fillA, putCells, List.take_succ_cons, List.take_zero, List.drop_succ_cons, List.drop_zero, List.nil_append, List.cons_append, List.length_cons, List.length_nil, eqvs_dgs, c1]

noncomputable def b192 : Code := Try.f192.body.getD .skip
noncomputable def B192_0 : Code := (bodyC (bodyC (sndC (fstC (sndC b192)))))
noncomputable def K192_0 : List It := .lp B192_0 :: .blk 0 :: .code (sndC (sndC b192)) :: []
theorem xl192_0 {fi : FI} {env : Env} {σ : St} : exI TT fi K192_0 env σ = exI TT fi (.code B192_0 :: K192_0) env σ := by unfold K192_0; exact xI_lp
noncomputable def R192_0_0 : List It := .code (sndC (sndC b192)) :: []
theorem eK192_0_0 : exitA 0 K192_0 = some R192_0_0 := rfl
theorem s192t (n i : Nat) (cells x : List AV) (σ : St) (hi : i < n) (r1 : cellsAt σ (.lp cells (i * 2)) 2 = some x) (c1 : callI TT 174 [.agg x] σ = some (.bool true, σ)) :
    exI TT (FI.of Try.f192 (TT.an 192)) K192_0 [(0, .lst n cells), (1, .fn 174 [] []), (7, .int .i64 n), (8, .int .i64 i)] σ = some (.int .i64 i, σ) := by
  rw [fi192, xl192_0]
  simp only [B192_0, b192, Try.f192, Option.getD, fstC, sndC, bodyC, thnC, elsC]
  simp (maxSteps := 1000000) (disch := omega) [eK192_0_0, r1, c1, List.append_nil, List.nil_append]
theorem s192f (n i : Nat) (cells x : List AV) (σ : St) (hi : i < n) (r1 : cellsAt σ (.lp cells (i * 2)) 2 = some x) (c1 : callI TT 174 [.agg x] σ = some (.bool false, σ)) (hw : wrapA .i64 ((i : Int) + 1) = (i : Int) + 1) :
    exI TT (FI.of Try.f192 (TT.an 192)) K192_0 [(0, .lst n cells), (1, .fn 174 [] []), (7, .int .i64 n), (8, .int .i64 i)] σ = exI TT (FI.of Try.f192 (TT.an 192)) K192_0 [(0, .lst n cells), (1, .fn 174 [] []), (7, .int .i64 n), (8, .int .i64 ((i : Int) + 1))] σ := by
  rw [fi192]
  conv => lhs; rw [xl192_0]
  simp only [B192_0, b192, Try.f192, Option.getD, fstC, sndC, bodyC, thnC, elsC]
  simp (maxSteps := 1000000) (disch := omega) [eK192_0_0, r1, c1, hw, List.append_nil, List.nil_append]
theorem e192 (n : Nat) (cells : List AV) (σ : St) : exI TT (FI.of Try.f192 (TT.an 192)) K192_0 [(0, .lst n cells), (1, .fn 174 [] []), (7, .int .i64 n), (8, .int .i64 n)] σ = some (.int .i64 (-1), σ) := by
  rw [fi192, xl192_0]
  simp only [B192_0, b192, Try.f192, Option.getD, fstC, sndC, bodyC, thnC, elsC]
  simp (maxSteps := 1000000) (disch := omega) [eK192_0_0]
  simp only [R192_0_0, b192, Try.f192, Option.getD, fstC, sndC, bodyC, thnC, elsC]
  simp (maxSteps := 1000000) (disch := omega) [eK192_0_0]
theorem l192 (l : List (Int × Int)) (hs : l.length ≤ 10000000) (σ : St) : ∀ (m i : Nat), i + m = l.length → ∃ z : Int, exI TT (FI.of Try.f192 (TT.an 192)) K192_0 [(0, FS l), (1, .fn 174 [] []), (7, .int .i64 l.length), (8, .int .i64 i)] σ = some (.int .i64 z, σ) ∧ (0 ≤ z ↔ vfl (l.drop i) = false) := by
  intro m
  induction m with
  | zero =>
    intro i hi
    obtain rfl : i = l.length := by omega
    rw [List.drop_of_length_le (Nat.le_refl _)]
    exact ⟨-1, e192 l.length (flat FC l) σ, by simp [vfl]⟩
  | succ m ih =>
    intro i hi
    have hil : i < l.length := by omega
    have c1 := r174 l[i].1 l[i].2 σ [.agg (FC l[i])] rfl
    rw [List.drop_eq_getElem_cons hil]
    have hi1 : ((i + 1 : Nat) : Int) = (i : Int) + 1 := by omega
    cases hv : vfr l[i].1 l[i].2 with
    | true =>
      rw [hv] at c1
      obtain ⟨z, h1, h2⟩ := ih (i + 1) (by omega)
      rw [hi1] at h1
      have e : vfl (l[i] :: l.drop (i + 1)) = vfl (l.drop (i + 1)) := by unfold vfl; rw [List.all_cons, hv, Bool.true_and]
      refine ⟨z, ?_, by rw [e]; exact h2⟩
      rw [← h1]
      exact s192f l.length i (flat FC l) _ σ hil (FS_get hil σ) c1 (wrapA_id (by omega) (by omega))
    | false =>
      rw [hv] at c1
      have e : vfl (l[i] :: l.drop (i + 1)) = false := by unfold vfl; rw [List.all_cons, hv, Bool.false_and]
      exact ⟨i, s192t l.length i (flat FC l) _ σ hil (FS_get hil σ) c1, by rw [e]; simp⟩
theorem r192 (l : List (Int × Int)) (hs : l.length ≤ 10000000) (σ : St) : ∃ z : Int, callI TT 192 [FS l, .fn 174 [] []] σ = some (.int .i64 z, σ) ∧ (0 ≤ z ↔ vfl l = false) := by
  obtain ⟨z, h1, h2⟩ := l192 l hs σ l.length 0 (by omega)
  rw [List.drop_zero] at h2
  refine ⟨z, ?_, h2⟩
  rw [← h1, cI_0 fn192 rfl md192, fi192]
  unfold FS
  simp (maxSteps := 1000000) (disch := omega) [eK192_0_0]
  rfl

theorem r173 (l : List (Int × Int)) (hs : l.length ≤ 10000000) (σ : St) : callI TT 173 [FS l, .fn 174 [] []] σ = some (.bool (!vfl l), σ) := by
  obtain ⟨z, h1, h2⟩ := r192 l hs σ
  rw [cI_0 fn173 rfl md173, fi173]
  unfold FS at *
  cases hv : vfl l with
  | true =>
    have : z < 0 := by
      rw [hv] at h2
      refine Int.not_le.1 fun h => ?_
      have := h2.1 h
      cases this
    simp (maxSteps := 1000000) (disch := omega) [h1]
  | false =>
    have : 0 ≤ z := h2.2 hv
    simp (maxSteps := 1000000) (disch := omega) [h1]

theorem r132 (l : List (Int × Int)) (hs : l.length ≤ 10000000) : FnV TT 132 [FS l] (.bool (vfl l)) := by
  have c1 := r173 l hs
  refine FnV.mk (c := Try.f132.body.getD .skip) fn132 rfl md132 ⟨⟨[], 0⟩, ?_⟩ (fun _ => rfl) rfl
  rw [fi132]
  simp only [Try.f132, Option.getD]
  unfold FS at *
  simp (maxSteps := 1000000) (disch := omega) [c1]

noncomputable def b67 : Code := Try.f67.body.getD .skip
noncomputable def B67_0 : Code := (bodyC (bodyC (sndC (fstC (sndC (sndC (sndC b67)))))))
noncomputable def K67_0 : List It := .lp B67_0 :: .blk 0 :: .code (sndC (sndC (sndC (sndC b67)))) :: []
theorem xl67_0 {fi : FI} {env : Env} {σ : St} : exI TT fi K67_0 env σ = exI TT fi (.code B67_0 :: K67_0) env σ := by unfold K67_0; exact xI_lp
noncomputable def R67_0_0 : List It := .code (sndC (sndC (sndC (sndC b67)))) :: []
theorem eK67_0_0 : exitA 0 K67_0 = some R67_0_0 := rfl
def RC (q : Rat) : List AV := [.bool (ng q), NA (nm q), NA q.den]
theorem RC_one (q : Rat) : allOne (RC q) = true := rfl
theorem RC_eqv (q : Rat) : eqvs (RC q) (RC q) = true := by simp [RC, eqvs, AV.eqv, NA, eqvs_dgs]
set_option maxHeartbeats 1000000 in
theorem s67t (n i : Nat) (cells x s r t : List AV) (a : Int) (σ σ1 σ2 σ3 : St) (hi : i < n) (l1 : cellsAt σ (.lp cells (i * 2)) 2 = some x) (h2 : σ.push ⟨[.int .i64 0, .int .i64 0], 2, false⟩ = σ1) (hx : x.length = 2) (s1 : storeCellsA σ1 σ.n 0 x = some σ2) (l2 : cellsAt σ2 (.ptr σ.n 0) 1 = some [.int .i64 a]) (ha : 0 ≤ a) (l3 : cellsAt σ2 (.ptr 0 0) 3 = some s) (l4 : cellsAt σ2 (.ptr σ.n 0) 2 = some x)
    (c1 : callI TT 72 [.agg x] σ2 = some (.agg r, σ2)) (c2 : callI TT 85 [.agg s, .agg r] σ2 = some (.agg t, σ2)) (ht : t.length = 3) (s2 : storeCellsA σ2 0 0 t = some σ3) (hes : eqvs s s = true) (hw : wrapA .i64 ((i : Int) + 1) = (i : Int) + 1) :
    exI TT (FI.of Try.f67 (TT.an 67)) K67_0 [(3, .ptr 0 0), (16, .lst n cells), (17, .int .i64 n), (18, .int .i64 i)] σ = exI TT (FI.of Try.f67 (TT.an 67)) K67_0 [(3, .ptr 0 0), (16, .lst n cells), (17, .int .i64 n), (18, .int .i64 ((i : Int) + 1))] σ3 := by
  rw [fi67]
  conv => lhs; rw [xl67_0]
  simp only [B67_0, b67, Try.f67, Option.getD, fstC, sndC, bodyC, thnC, elsC]
  simp (maxSteps := 1000000) (disch := omega) [eK67_0_0, fieldAddrA, blt_dec, l1, h2, hx, s1, l2, l3, l4, c1, c2, ht, s2, hes, hw]
theorem s67f (n i : Nat) (cells x : List AV) (a : Int) (σ σ1 σ2 : St) (hi : i < n) (l1 : cellsAt σ (.lp cells (i * 2)) 2 = some x) (h2 : σ.push ⟨[.int .i64 0, .int .i64 0], 2, false⟩ = σ1) (hx : x.length = 2) (s1 : storeCellsA σ1 σ.n 0 x = some σ2) (l2 : cellsAt σ2 (.ptr σ.n 0) 1 = some [.int .i64 a]) (ha : a < 0) :
    exI TT (FI.of Try.f67 (TT.an 67)) K67_0 [(3, .ptr 0 0), (16, .lst n cells), (17, .int .i64 n), (18, .int .i64 i)] σ = some (.bool false, σ2) := by
  rw [fi67, xl67_0]
  simp only [B67_0, b67, Try.f67, Option.getD, fstC, sndC, bodyC, thnC, elsC]
  simp (maxSteps := 1000000) (disch := omega) [eK67_0_0, fieldAddrA, l1, h2, hx, s1, l2]
theorem e67 (n : Nat) (cells s o : List AV) (z : Int) (q : Bool) (σ : St) (l3 : cellsAt σ (.ptr 0 0) 3 = some s) (c1 : callI TT 84 [.int .i64 1] σ = some (.agg o, σ)) (c2 : callI TT 73 [.agg s, .agg o] σ = some (.int .i64 z, σ)) (hes : eqvs s s = true) (hq : decide (z = 0) = q) : exI TT (FI.of Try.f67 (TT.an 67)) K67_0 [(3, .ptr 0 0), (16, .lst n cells), (17, .int .i64 n), (18, .int .i64 n)] σ = some (.bool q, σ) := by
  subst hq
  rw [fi67, xl67_0]
  simp only [B67_0, b67, Try.f67, Option.getD, fstC, sndC, bodyC, thnC, elsC]
  simp (maxSteps := 1000000) (disch := omega) [eK67_0_0]
  simp only [R67_0_0, b67, Try.f67, Option.getD, fstC, sndC, bodyC, thnC, elsC]
  simp (maxSteps := 1000000) [-ieqb_t, -ieqb_f, -ieqb_self, eK67_0_0, takeN, dropN, fieldAddrA, allOne, AV.one, n_push, putN, overN, blt_dec, buildA, sizesOf, fillA, putCells, List.take_succ_cons, List.take_zero, List.drop_succ_cons, List.drop_zero, List.nil_append, List.cons_append, List.length_cons, List.length_nil, eqvs_dgs, l3, c1, c2, hes, ieqb_dec]
theorem b67f (n : Nat) (cells : List AV) (q1 q2 : Bool) (σ : St) (c0 : callI TT 130 [.lst n cells] σ = some (.int .i64 n, σ)) (c1 : callI TT 63 [.int .i64 n, .int .i64 1, .int .i64 16] σ = some (.bool q1, σ)) (c2 : callI TT 132 [.lst n cells] σ = some (.bool q2, σ)) (h : (q1 && q2) = false) : exI TT (FI.of Try.f67 (TT.an 67)) [.code b67] (paramsE 0 [.lst n cells]) σ = some (.bool false, σ) := by
  rw [fi67]
  simp only [b67, Try.f67, Option.getD, fstC, sndC, bodyC, thnC, elsC]
  cases q1 with
  | false =>
    simp (maxSteps := 1000000) (disch := omega) [eK67_0_0, c0, c1]
  | true => cases q2 with
    | true => exact absurd h (by decide)
    | false =>
      simp (maxSteps := 1000000) (disch := omega) [eK67_0_0, c0, c1, c2]
theorem b67t (n : Nat) (cells o : List AV) (σ1 : St) (c0 : callI TT 130 [.lst n cells] ⟨[], 0⟩ = some (.int .i64 n, ⟨[], 0⟩)) (c1 : callI TT 63 [.int .i64 n, .int .i64 1, .int .i64 16] ⟨[], 0⟩ = some (.bool true, ⟨[], 0⟩)) (c2 : callI TT 132 [.lst n cells] ⟨[], 0⟩ = some (.bool true, ⟨[], 0⟩)) (c3 : callI TT 84 [.int .i64 0] ⟨[], 0⟩ = some (.agg o, ⟨[], 0⟩)) (ho : o.length = 3) (s1 : storeCellsA ((⟨[], 0⟩ : St).push ⟨[.bool false, .nilS, .nilS], 3, false⟩) 0 0 o = some σ1) : exI TT (FI.of Try.f67 (TT.an 67)) [.code b67] (paramsE 0 [.lst n cells]) ⟨[], 0⟩ = exI TT (FI.of Try.f67 (TT.an 67)) K67_0 [(3, .ptr 0 0), (16, .lst n cells), (17, .int .i64 n), (18, .int .i64 0)] σ1 := by
  rw [fi67]
  simp only [b67, Try.f67, Option.getD, fstC, sndC, bodyC, thnC, elsC]
  simp (maxSteps := 1000000) (disch := omega) [eK67_0_0, c0, c1, c2, c3, ho, s1]
  rfl
theorem sumQ_succ (l : List (Int × Int)) (i : Nat) (h : i < l.length) : sumQ (l.take (i + 1)) = sumQ (l.take i) + rq l[i] := by
  rw [List.take_succ_eq_append_getElem h, sumQ, List.foldl_append]; rfl
theorem rq_bd {x : Int × Int} (h : vfr x.1 x.2 = true) : Bd 60 (rq x) := fits_bd (vfr_rat h).2.2
theorem l67 (l : List (Int × Int)) (hv : vfl l = true) (hs : l.length ≤ 16) : ∀ (m i : Nat) (σ : St), i + m = l.length → Bx σ 0 (RC (sumQ (l.take i))) → Bd (1 + i * 61) (sumQ (l.take i)) →
    ∃ σ', exI TT (FI.of Try.f67 (TT.an 67)) K67_0 [(3, .ptr 0 0), (16, FS l), (17, .int .i64 l.length), (18, .int .i64 i)] σ = some (.bool (((l.drop i).all fun x => decide (0 ≤ x.1)) && decide (sumQ l = 1)), σ') := by
  intro m
  induction m with
  | zero =>
    intro i σ hi hb hbd
    obtain rfl : i = l.length := by omega
    rw [List.take_of_length_le (Nat.le_refl _)] at hb hbd
    rw [List.drop_of_length_le (Nat.le_refl _)]
    have co := (r84 (n := 1) (by decide) (by decide)).pure σ rfl rfl
    have b1 : Bd (1 + l.length * 61) (mkRat 1 1) := (show Bd 1 (mkRat 1 1) from ⟨by decide, by decide⟩).mono (by omega)
    have cc := r73 hbd b1 (by omega) σ [RT (sumQ l), RT (mkRat 1 1)] rfl
    have e1 : decide (cmpR (sumQ l) (mkRat 1 1) = 0) = decide (sumQ l = 1) := by
      by_cases hh : sumQ l = 1
      · rw [decide_eq_true hh, decide_eq_true (show cmpR (sumQ l) (mkRat 1 1) = 0 from cmpR_zero.2 (by rw [hh]; rfl))]
      · rw [decide_eq_false hh, decide_eq_false (show ¬ cmpR (sumQ l) (mkRat 1 1) = 0 from fun h => hh ((cmpR_zero.1 h).trans rfl))]
    exact ⟨σ, e67 l.length (flat FC l) (RC (sumQ l)) _ _ _ σ (hb.rd rfl) co cc (RC_eqv _) e1⟩
  | succ m ih =>
    intro i σ hi hb hbd
    have hil : i < l.length := by omega
    have hvi : vfr l[i].1 l[i].2 = true := by
      simp only [vfl, List.all_eq_true] at hv
      exact hv _ (List.getElem_mem hil)
    have hx1 : Bx (σ.push ⟨[.int .i64 0, .int .i64 0], 2, false⟩) σ.n [.int .i64 0, .int .i64 0] := Bx.push
    obtain ⟨σ2, a1, a2, a3⟩ := hx1.st (ws := FC l[i]) rfl rfl
    have hlt := hb.lt
    have hb2 : Bx σ2 0 (RC (sumQ (l.take i))) := (hb.old Old.push).but (by omega) a3
    have l4 := a2.rd (n := 2) rfl
    have l2 : cellsAt σ2 (.ptr σ.n 0) 1 = some [.int .i64 l[i].1] := by
      obtain ⟨⟨mm, hg⟩, _⟩ := a2
      simp [cellsAt, hg, getCells, dropN, takeN, FC]
    rw [List.drop_eq_getElem_cons hil, List.all_cons]
    by_cases ha : 0 ≤ l[i].1
    · have c1 := (r72 hvi).pure σ2 rfl rfl
      have hrb := rq_bd hvi
      have c2 := (r85 (hbd.mono (show 1 + i * 61 ≤ 1 + i * 61 + 60 by omega)) (hrb.mono (show 60 ≤ 1 + i * 61 + 60 by omega)) (by omega)).pure σ2 rfl rfl
      have hsum : RT (sumQ (l.take i) + rq l[i]) = .agg (RC (sumQ (l.take (i + 1)))) := by rw [sumQ_succ l i hil]; rfl
      obtain ⟨σ3, d1, d2, d3⟩ := hb2.st (ws := RC (sumQ (l.take (i + 1)))) rfl (RC_one _)
      have hbd2 : Bd (1 + (i + 1) * 61) (sumQ (l.take (i + 1))) := by
        rw [sumQ_succ l i hil]
        exact (hbd.add hrb).mono (by omega)
      obtain ⟨σ', k1⟩ := ih (i + 1) σ3 (by omega) d2 hbd2
      have hi1 : ((i + 1 : Nat) : Int) = (i : Int) + 1 := by omega
      rw [hi1] at k1
      refine ⟨σ', ?_⟩
      rw [decide_eq_true ha, Bool.true_and, ← k1]
      exact s67t l.length i (flat FC l) (FC l[i]) _ _ _ _ σ _ σ2 σ3 hil (FS_get hil σ) rfl rfl a1 l2 ha (hb2.rd rfl) l4 c1 (c2.trans (by rw [hsum])) rfl d1 (RC_eqv _) (wrapA_id (by omega) (by omega))
    · rw [decide_eq_false ha]
      exact ⟨σ2, s67f l.length i (flat FC l) (FC l[i]) _ σ _ σ2 hil (FS_get hil σ) rfl rfl a1 l2 (by omega)⟩
theorem r67 (l : List (Int × Int)) (hs : l.length ≤ 10000000) : FnV TT 67 [FS l] (.bool (isCh l)) := by
  have c0 := v130 l ⟨[], 0⟩ [FS l] rfl
  have c1 := v63 l.length 1 16 ⟨[], 0⟩ [.int .i64 l.length, .int .i64 1, .int .i64 16] rfl
  have c2 := r132 l hs ⟨[], 0⟩ [FS l] rfl
  by_cases h : 1 ≤ l.length ∧ l.length ≤ 16 ∧ vfl l = true
  · obtain ⟨h1, h2, h3⟩ := h
    rw [decide_eq_true (by omega), decide_eq_true (by omega)] at c1
    rw [h3] at c2
    have c3 := (r84 (n := 0) (by decide) (by decide)).pure ⟨[], 0⟩ rfl rfl
    have hb0 : Bx ((⟨[], 0⟩ : St).push ⟨[.bool false, .nilS, .nilS], 3, false⟩) 0 [.bool false, .nilS, .nilS] := Bx.push
    obtain ⟨σ1, a1, a2, a3⟩ := hb0.st (ws := RC 0) rfl (RC_one _)
    obtain ⟨σ', k1⟩ := l67 l h3 h2 l.length 0 σ1 (by omega) (by rw [List.take_zero]; exact a2) (by rw [List.take_zero]; exact ⟨by decide, by decide⟩)
    rw [List.drop_zero] at k1
    have e2 : isCh l = ((l.all fun x => decide (0 ≤ x.1)) && decide (sumQ l = 1)) := by
      unfold isCh; rw [decide_eq_true h1, decide_eq_true h2, h3]; rfl
    rw [e2]
    exact FnV.mk (c := b67) fn67 rfl md67 ⟨σ', (b67t l.length (flat FC l) (RC 0) σ1 c0 c1 c2 c3 rfl a1).trans k1⟩ (fun _ => rfl) rfl
  · have e2 : isCh l = false := by
      cases hx : isCh l with
      | false => rfl
      | true =>
        simp only [isCh, Bool.and_eq_true, decide_eq_true_eq] at hx
        exact absurd ⟨hx.1.1, hx.1.2, hx.2.1⟩ h
    rw [e2]
    refine FnV.mk (c := b67) fn67 rfl md67 ⟨⟨[], 0⟩, b67f l.length (flat FC l) _ _ _ c0 c1 c2 ?_⟩ (fun _ => rfl) rfl
    cases hq : (decide (1 ≤ (l.length : Int)) && decide ((l.length : Int) ≤ 16)) with
    | false => rfl
    | true =>
      cases hv : vfl l with
      | false => rfl
      | true =>
        simp only [Bool.and_eq_true, decide_eq_true_eq] at hq
        exact absurd ⟨by omega, by omega, hv⟩ h

set_option maxHeartbeats 2000000 in
theorem k59 (n : Nat) (cells : List AV) (d : Int) (q : Bool) (P : Int) (res : Bool) (c0 : ∀ σ, callI TT 130 [.lst n cells] σ = some (.int .i64 n, σ)) (c1 : ∀ σ, callI TT 129 [.int .i64 n] σ = some (.int .i64 d, σ)) (c2 : ∀ σ, callI TT 67 [.lst n cells] σ = some (.bool q, σ)) (hP : q = true → 1 ≤ d → wrapA .i64 (shlA 1 (min d.toNat IntKind.i64.bits)) = P) (hr : (q && (decide (1 ≤ d) && decide ((n : Int) = P))) = res) :
    ∃ σ1, exI TT (FI.of Try.f59 (TT.an 59)) [.code (Try.f59.body.getD .skip)] (paramsE 0 [.lst n cells]) ⟨[], 0⟩ = some (.tup [.int .i64 d, .bool res], σ1) := by
  refine ex1 ?_
  rw [fi59]
  simp only [Try.f59, Option.getD]
  cases q with
  | false =>
    subst hr
    simp (maxSteps := 1000000) (disch := omega) [cellsAt, getCells, takeN, dropN, fieldAddrA, allOne, AV.one, n_push, storeCellsA, putN, overN, St.push, St.get, St.set, hget, hset, blt_dec, buildA, sizesOf, fillA, putCells, List.take_succ_cons, List.take_zero, List.drop_succ_cons, List.drop_zero, List.nil_append, List.cons_append, List.length_cons, List.length_nil, eqvs_dgs, c0, c1, c2]
  | true =>
    by_cases h1 : 1 ≤ d
    · have hP := hP rfl h1
      have h0 : 0 ≤ d := by omega
      rw [decide_eq_true h1] at hr
      by_cases h2 : (n : Int) = P
      · rw [decide_eq_true h2] at hr
        subst hr
        subst h2
        simp (maxSteps := 1000000) (disch := omega) [cellsAt, getCells, takeN, dropN, fieldAddrA, allOne, AV.one, n_push, storeCellsA, putN, overN, St.push, St.get, St.set, hget, hset, blt_dec, buildA, sizesOf, fillA, putCells, List.take_succ_cons, List.take_zero, List.drop_succ_cons, List.drop_zero, List.nil_append, List.cons_append, List.length_cons, List.length_nil, eqvs_dgs, c0, c1, c2, hP]
      · rw [decide_eq_false h2] at hr
        subst hr
        simp (maxSteps := 1000000) (disch := omega) [cellsAt, getCells, takeN, dropN, fieldAddrA, allOne, AV.one, n_push, storeCellsA, putN, overN, St.push, St.get, St.set, hget, hset, blt_dec, buildA, sizesOf, fillA, putCells, List.take_succ_cons, List.take_zero, List.drop_succ_cons, List.drop_zero, List.nil_append, List.cons_append, List.length_cons, List.length_nil, eqvs_dgs, c0, c1, c2, hP, h2]
    · rw [decide_eq_false h1] at hr
      subst hr
      simp (maxSteps := 1000000) (disch := omega) [cellsAt, getCells, takeN, dropN, fieldAddrA, allOne, AV.one, n_push, storeCellsA, putN, overN, St.push, St.get, St.set, hget, hset, blt_dec, buildA, sizesOf, fillA, putCells, List.take_succ_cons, List.take_zero, List.drop_succ_cons, List.drop_zero, List.nil_append, List.cons_append, List.length_cons, List.length_nil, eqvs_dgs, c0, c1, c2]
theorem src_tab : ((List.range 17).all fun n => (n == 0) || ((decide (n = 2) || decide (n = 4) || decide (n = 8) || decide (n = 16)) == (decide (1 ≤ ((bl n : Nat) : Int) - 1) && decide (n = 2 ^ (bl n - 1)))) && decide (bl n ≤ 5)) = true := by decide +kernel
theorem isSrc_eq (l : List (Int × Int)) : isSrc l = (isCh l && (decide (l.length = 2) || decide (l.length = 4) || decide (l.length = 8) || decide (l.length = 16))) := by
  unfold isSrc srcBits
  cases hc : isCh l with
  | false => simp [bitsF, hc]
  | true =>
    simp only [bitsF, hc, and_true, Bool.true_and]
    by_cases h2 : l.length = 2 <;> by_cases h4 : l.length = 4 <;> by_cases h8 : l.length = 8 <;> by_cases h16 : l.length = 16 <;> simp [h2, h4, h8, h16] <;> omega
theorem r59 (l : List (Int × Int)) (hs : l.length ≤ 10000000) : FnV TT 59 [FS l] (.tup [.int .i64 ((bl l.length : Int) - 1), .bool (isSrc l)]) := by
  refine FnV.mk fn59 rfl md59 (k59 l.length (flat FC l) ((bl l.length : Int) - 1) (isCh l) ((2 ^ (bl l.length - 1) : Nat) : Int) (isSrc l) (fun σ => v130 l σ [FS l] rfl) (fun σ => v129 l.length (by omega) σ _ rfl) (fun σ => r67 l hs σ [FS l] rfl) (fun h1 h2 => ?_) ?_) (fun _ => rfl) rfl
  · have hb := bl_le (x := l.length) (k := 30) (by omega)
    rw [show ((bl l.length : Int) - 1).toNat = bl l.length - 1 by omega]
    exact pow_sh _ (by omega)
  · rw [isSrc_eq]
    cases hc : isCh l with
    | false => rfl
    | true =>
      have h12 : 1 ≤ l.length ∧ l.length ≤ 16 := by
        simp only [isCh, Bool.and_eq_true, decide_eq_true_eq] at hc; exact hc.1
      have ht := src_tab
      rw [List.all_eq_true] at ht
      have ht := ht l.length (List.mem_range.2 (by omega))
      have h0 : (l.length == 0) = false := by simp; intro h; rw [h] at h12; simp at h12
      rw [h0, Bool.false_or, Bool.and_eq_true, beq_iff_eq] at ht
      rw [ht.1]
      have hcast : decide ((l.length : Int) = ((2 ^ (bl l.length - 1) : Nat) : Int)) = decide (l.length = 2 ^ (bl l.length - 1)) := by
        generalize 2 ^ (bl l.length - 1) = P
        by_cases h : l.length = P
        · rw [decide_eq_true h, decide_eq_true (by omega)]
        · rw [decide_eq_false h, decide_eq_false (by omega)]
      rw [hcast]

theorem put_el {pre z w suf : List AV} (hz : z.length = w.length) : putCells (pre ++ (z ++ suf)) pre.length w = pre ++ (w ++ suf) := by
  unfold putCells
  rw [List.take_left' rfl, ← List.drop_drop, List.drop_left, ← hz, List.drop_left, List.append_assoc]
theorem make_el {T : Tab} {σ : St} {st e : TypeId} {k : TK} {es y n : Nat} {z : List AV} (ht : T.ty st = some ⟨.slice e, 1, 24, [.nilS]⟩) (he : T.ty e = some ⟨k, es, y, z⟩) (hy : y ≤ 100) (hn : n ≤ 100000000000) :
    makeSliceA T σ st (.int .i64 n) (.int .i64 n) = some (.sl σ.n 0 n n, σ.push ⟨repeatCells z n, es, false⟩) := by
  unfold makeSliceA
  simp only [ht, he]
  have h1 : (n : Int) * (y : Int) ≤ 140737488355328 := by
    have : n * y ≤ 100000000000 * 100 := Nat.mul_le_mul hn hy
    rw [← Int.natCast_mul]; omega
  rw [if_pos ⟨by omega, by omega, h1, by omega⟩]
  simp
theorem FC_frz (σ : St) (d : Nat) (x : Int × Int) : mapO (frzV σ (d + 1)) (FC x) = some (FC x) := rfl
theorem RC_len (q : Rat) : (RC q).length = 3 := rfl
theorem RC_frz (σ : St) (d : Nat) (q : Rat) : mapO (frzV σ (d + 1)) (RC q) = some (RC q) := rfl
/-- A list of ratios. -/
def RS (l : List Rat) : AV := .lst l.length (flat RC l)
theorem RS_get {l : List Rat} {i : Nat} (h : i < l.length) (σ : St) : cellsAt σ (.lp (flat RC l) (i * 3)) 3 = some (RC l[i]) := flat_get RC_len l i _ (List.getElem?_eq_getElem h)
/-- A variable of a loop: a new box. -/
theorem new_box {σ : St} {z x : List AV} {m : Nat} (hz : z.length = x.length) (hx : allOne x = true) : ∃ σ2, storeCellsA (σ.push ⟨z, m, false⟩) σ.n 0 x = some σ2 ∧ Bx σ2 σ.n x ∧ Old σ σ2 ∧ σ2.n = σ.n + 1 := by
  have h1 : Bx (σ.push ⟨z, m, false⟩) σ.n z := Bx.push
  obtain ⟨σ2, a1, a2, a3⟩ := h1.st (ws := x) hz.symm hx
  exact ⟨σ2, a1, a2, ⟨by rw [a3.1]; exact Nat.le_succ _, fun c hc => by rw [a3.2 c (by omega)]; exact get_push_lt hc⟩, a3.1⟩
theorem flat_rows {α : Type} {f : α → List AV} {σ : St} {d : Nat} (hf : ∀ x, (f x).flatMap (rowsV σ d) = []) (l : List α) : (flat f l).flatMap (rowsV σ d) = [] := by
  induction l with
  | nil => rfl
  | cons x r ih => rw [flat, List.flatMap_cons, List.flatMap_append, hf]; exact ih
/-- Sums. -/
def sumI (f : Nat → Rat) : Nat → Rat
  | 0 => 0
  | n + 1 => sumI f n + f n
def adQ (p q : List Rat) (i : Nat) : Rat := (p.getD i 0 - q.getD i 0).abs
def distQ (p q : List Rat) : Rat := sumI (adQ p q) p.length / 2
theorem getD_of {α : Type} {l : List α} {i : Nat} {d : α} (h : i < l.length) : l.getD i d = l[i] := by simp [List.getD_eq_getElem?_getD, h]
theorem adQ_of {p q : List Rat} {i : Nat} (h : i < p.length) (k : i < q.length) : adQ p q i = (p[i] - q[i]).abs := by rw [adQ, getD_of h, getD_of k]

noncomputable def b79 : Code := Try.f79.body.getD .skip
noncomputable def B79_0 : Code := (bodyC (bodyC (sndC (fstC (sndC (sndC b79))))))
noncomputable def K79_0 : List It := .lp B79_0 :: .blk 0 :: .code (sndC (sndC (sndC b79))) :: []
theorem xl79_0 {fi : FI} {env : Env} {σ : St} : exI TT fi K79_0 env σ = exI TT fi (.code B79_0 :: K79_0) env σ := by unfold K79_0; exact xI_lp
noncomputable def R79_0_0 : List It := .code (sndC (sndC (sndC b79))) :: []
theorem eK79_0_0 : exitA 0 K79_0 = some R79_0_0 := rfl
set_option maxHeartbeats 4000000 in
theorem s79 (n i b m b2 m2 : Nat) (cells x r : List AV) (σ σ2 σ3 σ4 : St) (hi : i < n) (l1 : cellsAt σ (.lp cells (i * 2)) 2 = some x) (hx : x.length = 2) (s1 : storeCellsA (σ.push ⟨[.int .i64 0, .int .i64 0], 2, false⟩) σ.n 0 x = some σ2) (l4 : cellsAt σ2 (.ptr σ.n 0) 2 = some x) (c1 : callI TT 72 [.agg x] σ2 = some (.agg r, σ2)) (c2 : buildSliceA TT σ2 104 1 [(0, .agg r)] = some (.sl σ2.n 0 1 1, σ3)) (c3 : appendA TT σ3 104 104 (.sl b 0 m m) (.sl σ2.n 0 1 1) = some (.sl b2 0 m2 m2, σ4)) (hw : wrapA .i64 ((i : Int) + 1) = (i : Int) + 1) :
    exI TT (FI.of Try.f79 (TT.an 79)) K79_0 [(3, .sl b 0 m m), (7, .lst n cells), (8, .int .i64 n), (9, .int .i64 i)] σ = exI TT (FI.of Try.f79 (TT.an 79)) K79_0 [(3, .sl b2 0 m2 m2), (7, .lst n cells), (8, .int .i64 n), (9, .int .i64 ((i : Int) + 1))] σ4 := by
  rw [fi79]
  conv => lhs; rw [xl79_0]
  simp only [B79_0, b79, Try.f79, Option.getD, fstC, sndC, bodyC, thnC, elsC]
  simp (maxSteps := 1000000) (disch := omega) [eK79_0_0, getCells, takeN, dropN, fieldAddrA, allOne, AV.one, n_push, putN, overN, blt_dec, buildA, sizesOf, fillA, putCells, List.take_succ_cons, List.take_zero, List.drop_succ_cons, List.drop_zero, List.nil_append, List.cons_append, List.length_cons, List.length_nil, eqvs_dgs, hi, l1, hx, s1, l4, c1, c2, c3, hw]
set_option maxHeartbeats 4000000 in
theorem e79 (n b m : Nat) (cells : List AV) (σ : St)  :
    exI TT (FI.of Try.f79 (TT.an 79)) K79_0 [(3, .sl b 0 m m), (7, .lst n cells), (8, .int .i64 n), (9, .int .i64 n)] σ = some (.sl b 0 m m, σ) := by
  rw [fi79]
  conv => lhs; rw [xl79_0]
  simp only [B79_0, b79, Try.f79, Option.getD, fstC, sndC, bodyC, thnC, elsC]
  simp (maxSteps := 1000000) (disch := omega) [eK79_0_0, cellsAt, getCells, takeN, dropN, fieldAddrA, allOne, AV.one, n_push, storeCellsA, putN, overN, St.push, St.get, St.set, hget, hset, blt_dec, buildA, sizesOf, fillA, putCells, List.take_succ_cons, List.take_zero, List.drop_succ_cons, List.drop_zero, List.nil_append, List.cons_append, List.length_cons, List.length_nil, eqvs_dgs]
  simp only [R79_0_0, b79, Try.f79, Option.getD, fstC, sndC, bodyC, thnC, elsC]
  simp (maxSteps := 1000000) (disch := omega) [eK79_0_0, cellsAt, getCells, takeN, dropN, fieldAddrA, allOne, AV.one, n_push, storeCellsA, putN, overN, St.push, St.get, St.set, hget, hset, blt_dec, buildA, sizesOf, fillA, putCells, List.take_succ_cons, List.take_zero, List.drop_succ_cons, List.drop_zero, List.nil_append, List.cons_append, List.length_cons, List.length_nil, eqvs_dgs]
set_option maxHeartbeats 4000000 in
theorem b79e (n : Nat) (cells : List AV) (σ1 : St) (c1 : buildSliceA TT ⟨[], 0⟩ 104 0 [] = some (.sl 0 0 0 0, σ1)) :
    exI TT (FI.of Try.f79 (TT.an 79)) [.code b79] (paramsE 0 [.lst n cells]) ⟨[], 0⟩ = exI TT (FI.of Try.f79 (TT.an 79)) K79_0 [(3, .sl 0 0 0 0), (7, .lst n cells), (8, .int .i64 n), (9, .int .i64 0)] σ1 := by
  rw [fi79]
  simp only [b79, Try.f79, Option.getD, fstC, sndC, bodyC, thnC, elsC]
  simp (maxSteps := 1000000) (disch := omega) [eK79_0_0, cellsAt, getCells, takeN, dropN, fieldAddrA, allOne, AV.one, n_push, storeCellsA, putN, overN, St.push, St.get, St.set, hget, hset, blt_dec, buildA, sizesOf, fillA, putCells, List.take_succ_cons, List.take_zero, List.drop_succ_cons, List.drop_zero, List.nil_append, List.cons_append, List.length_cons, List.length_nil, eqvs_dgs, c1]
  rfl
theorem l79 (l : List (Int × Int)) (hv : vfl l = true) (hs : l.length ≤ 1000000) : ∀ (m i b : Nat) (σ : St), i + m = l.length → RowE σ b 3 (flat RC ((l.take i).map rq)) →
    ∃ b' σ', exI TT (FI.of Try.f79 (TT.an 79)) K79_0 [(3, .sl b 0 i i), (7, FS l), (8, .int .i64 l.length), (9, .int .i64 i)] σ = some (.sl b' 0 l.length l.length, σ') ∧ RowE σ' b' 3 (flat RC (l.map rq)) := by
  intro m
  induction m with
  | zero =>
    intro i b σ hi hr
    obtain rfl : i = l.length := by omega
    rw [List.take_of_length_le (Nat.le_refl _)] at hr
    exact ⟨b, σ, e79 l.length b l.length (flat FC l) σ, hr⟩
  | succ m ih =>
    intro i b σ hi hr
    have hil : i < l.length := by omega
    have hvi : vfr l[i].1 l[i].2 = true := by
      simp only [vfl, List.all_eq_true] at hv
      exact hv _ (List.getElem_mem hil)
    obtain ⟨σ2, a1, a2, a3, a4⟩ := new_box (σ := σ) (z := [.int .i64 0, .int .i64 0]) (x := FC l[i]) (m := 2) rfl rfl
    have c1 := (r72 hvi).pure σ2 rfl rfl
    have c2 := build_el (T := TT) (σ := σ2) (st := 104) (w := RC (rq l[i])) ty104 ty92 (by decide) rfl rfl rfl
    have hr2 := hr.old a3
    obtain ⟨σ4, d1, d2, _⟩ := append_el (T := TT) (st := 104) (n := i) ty104 ty92 (fun _ _ => trivial) (by decide) (RC_len (rq l[i])) (RC_one _) (by rw [flat_len RC_len]; simp; omega) hr2 (by omega)
    have e : flat RC ((l.take i).map rq) ++ RC (rq l[i]) = flat RC ((l.take (i + 1)).map rq) := by
      rw [List.take_succ_eq_append_getElem hil, List.map_append, flat_app]; simp [flat]
    rw [e] at d2
    obtain ⟨b', σ', k1, k2⟩ := ih (i + 1) (σ2.n + 1) σ4 (by omega) d2
    refine ⟨b', σ', ?_, k2⟩
    rw [← k1]
    have hi1 : ((i + 1 : Nat) : Int) = (i : Int) + 1 := by omega
    rw [hi1]
    exact s79 l.length i b i (σ2.n + 1) (i + 1) (flat FC l) (FC l[i]) (RC (rq l[i])) σ σ2 _ σ4 hil (FS_get hil σ) rfl a1 (a2.rd rfl) c1 c2 d1 (wrapA_id (by omega) (by omega))
theorem r79 (l : List (Int × Int)) (hv : vfl l = true) (hs : l.length ≤ 1000000) : FnF TT 79 [FS l] (RS (l.map rq)) := by
  have hb := build_e0 (T := TT) (σ := ⟨[], 0⟩) (st := 104) ty104 ty92
  obtain ⟨b', σ', k1, k2⟩ := l79 l hv hs l.length 0 0 _ (by omega) (RowE.push (σ := ⟨[], 0⟩) (cs := []) (e := 3) (o := false))
  refine FnF.mk (c := b79) fn79 rfl md79 ⟨σ', _, (b79e _ _ _ hb).trans k1, ?_⟩
  have := k2.frz (d := 4) (n := l.length) (c := l.length) (by rw [flat_len RC_len]; simp) (flat_frz (fun v => RC_frz σ' 4 v) _) (Nat.le_refl _)
  rw [show RS (l.map rq) = .lst l.length (flat RC (l.map rq)) by simp [RS]]
  exact this

noncomputable def b78 : Code := Try.f78.body.getD .skip
noncomputable def B78_0 : Code := (bodyC (bodyC (sndC (fstC (sndC (sndC b78))))))
noncomputable def K78_0 : List It := .lp B78_0 :: .blk 0 :: .code (sndC (sndC (sndC b78))) :: []
theorem xl78_0 {fi : FI} {env : Env} {σ : St} : exI TT fi K78_0 env σ = exI TT fi (.code B78_0 :: K78_0) env σ := by unfold K78_0; exact xI_lp
noncomputable def R78_0_0 : List It := .code (sndC (sndC (sndC b78))) :: []
theorem eK78_0_0 : exitA 0 K78_0 = some R78_0_0 := rfl
set_option maxHeartbeats 4000000 in
theorem s78 (n i n2 : Nat) (cells cells2 x y s u v t : List AV) (σ σ2 σ3 : St) (hi : i < n) (hi2 : i < n2) (l1 : cellsAt σ (.lp cells (i * 3)) 3 = some x) (hx : x.length = 3) (s1 : storeCellsA (σ.push ⟨[.bool false, .nilS, .nilS], 3, false⟩) σ.n 0 x = some σ2) (l3 : cellsAt σ2 (.ptr 1 0) 3 = some s) (l4 : cellsAt σ2 (.ptr σ.n 0) 3 = some x) (l5 : cellsAt σ2 (.lp cells2 (i * 3)) 3 = some y) (c1 : callI TT 109 [.agg x, .agg y] σ2 = some (.agg u, σ2)) (c2 : callI TT 110 [.agg u] σ2 = some (.agg v, σ2)) (c3 : callI TT 85 [.agg s, .agg v] σ2 = some (.agg t, σ2)) (ht : t.length = 3) (s2 : storeCellsA σ2 1 0 t = some σ3) (hes : eqvs s s = true) (hw : wrapA .i64 ((i : Int) + 1) = (i : Int) + 1) :
    exI TT (FI.of Try.f78 (TT.an 78)) K78_0 [(1, .lst n2 cells2), (4, .ptr 0 0), (5, .ptr 1 0), (9, .lst n cells), (10, .int .i64 n), (11, .int .i64 i)] σ = exI TT (FI.of Try.f78 (TT.an 78)) K78_0 [(1, .lst n2 cells2), (4, .ptr 0 0), (5, .ptr 1 0), (9, .lst n cells), (10, .int .i64 n), (11, .int .i64 ((i : Int) + 1))] σ3 := by
  rw [fi78]
  conv => lhs; rw [xl78_0]
  simp only [B78_0, b78, Try.f78, Option.getD, fstC, sndC, bodyC, thnC, elsC]
  simp (maxSteps := 1000000) (disch := omega) [eK78_0_0, getCells, takeN, dropN, fieldAddrA, allOne, AV.one, n_push, putN, overN, blt_dec, buildA, sizesOf, fillA, putCells, List.take_succ_cons, List.take_zero, List.drop_succ_cons, List.drop_zero, List.nil_append, List.cons_append, List.length_cons, List.length_nil, eqvs_dgs, hi, hi2, l1, hx, s1, l3, l4, l5, c1, c2, c3, ht, s2, hes, hw]
set_option maxHeartbeats 4000000 in
theorem e78 (n n2 : Nat) (cells cells2 s o t : List AV) (σ σ1 : St) (l3 : cellsAt σ (.ptr 1 0) 3 = some s) (c1 : callI TT 84 [.int .i64 2] σ = some (.agg o, σ)) (c2 : callI TT 111 [.agg s, .agg o] σ = some (.agg t, σ)) (ht : t.length = 3) (s1 : storeCellsA σ 0 0 t = some σ1) (l4 : cellsAt σ1 (.ptr 0 0) 3 = some t) (hes : eqvs s s = true) :
    exI TT (FI.of Try.f78 (TT.an 78)) K78_0 [(1, .lst n2 cells2), (4, .ptr 0 0), (5, .ptr 1 0), (9, .lst n cells), (10, .int .i64 n), (11, .int .i64 n)] σ = some (.agg t, σ1) := by
  rw [fi78]
  conv => lhs; rw [xl78_0]
  simp only [B78_0, b78, Try.f78, Option.getD, fstC, sndC, bodyC, thnC, elsC]
  simp (maxSteps := 1000000) (disch := omega) [eK78_0_0, cellsAt, getCells, takeN, dropN, fieldAddrA, allOne, AV.one, n_push, storeCellsA, putN, overN, St.push, St.get, St.set, hget, hset, blt_dec, buildA, sizesOf, fillA, putCells, List.take_succ_cons, List.take_zero, List.drop_succ_cons, List.drop_zero, List.nil_append, List.cons_append, List.length_cons, List.length_nil, eqvs_dgs]
  simp only [R78_0_0, b78, Try.f78, Option.getD, fstC, sndC, bodyC, thnC, elsC]
  simp (maxSteps := 1000000) (disch := omega) [eK78_0_0, getCells, takeN, dropN, fieldAddrA, allOne, AV.one, n_push, putN, overN, blt_dec, buildA, sizesOf, fillA, putCells, List.take_succ_cons, List.take_zero, List.drop_succ_cons, List.drop_zero, List.nil_append, List.cons_append, List.length_cons, List.length_nil, eqvs_dgs, l3, c1, c2, ht, s1, l4, hes]
set_option maxHeartbeats 4000000 in
theorem b78e (n n2 : Nat) (cells cells2 o : List AV) (σ1 σ2 σ3 : St) (h1 : (⟨[], 0⟩ : St).push ⟨[.bool false, .nilS, .nilS], 3, false⟩ = σ1) (hn : σ1.n = 1) (c1 : callI TT 84 [.int .i64 0] σ1 = some (.agg o, σ1)) (ho : o.length = 3) (h2 : σ1.push ⟨[.bool false, .nilS, .nilS], 3, false⟩ = σ2) (s1 : storeCellsA σ2 1 0 o = some σ3) :
    exI TT (FI.of Try.f78 (TT.an 78)) [.code b78] (paramsE 0 [.lst n cells, .lst n2 cells2]) ⟨[], 0⟩ = exI TT (FI.of Try.f78 (TT.an 78)) K78_0 [(1, .lst n2 cells2), (4, .ptr 0 0), (5, .ptr 1 0), (9, .lst n cells), (10, .int .i64 n), (11, .int .i64 0)] σ3 := by
  rw [fi78]
  simp only [b78, Try.f78, Option.getD, fstC, sndC, bodyC, thnC, elsC]
  simp (maxSteps := 1000000) (disch := omega) [eK78_0_0, getCells, takeN, dropN, fieldAddrA, allOne, AV.one, n_push, putN, overN, blt_dec, buildA, sizesOf, fillA, putCells, List.take_succ_cons, List.take_zero, List.drop_succ_cons, List.drop_zero, List.nil_append, List.cons_append, List.length_cons, List.length_nil, eqvs_dgs, h1, hn, c1, ho, h2, s1]
  rfl
theorem l78 (p q : List Rat) (hpq : q.length = p.length) (k : Nat) (hp : ∀ x ∈ p, Bd k x) (hq : ∀ x ∈ q, Bd k x) (hk : (p.length + 1) * (2 * k + 3) ≤ 400000000) : ∀ (m i : Nat) (σ : St), i + m = p.length → Bx σ 1 (RC (sumI (adQ p q) i)) → Bd (2 + i * (2 * k + 2)) (sumI (adQ p q) i) → (∃ z, Bx σ 0 z ∧ z.length = 3) →
    ∃ σ', exI TT (FI.of Try.f78 (TT.an 78)) K78_0 [(1, RS q), (4, .ptr 0 0), (5, .ptr 1 0), (9, RS p), (10, .int .i64 p.length), (11, .int .i64 i)] σ = some (RT (distQ p q), σ') := by
  have hkk : p.length * (2 * k + 2) + (2 * k + 3) ≤ 400000000 := by
    have e : (p.length + 1) * (2 * k + 3) = p.length * (2 * k + 3) + (2 * k + 3) := by rw [Nat.add_mul, Nat.one_mul]
    have : p.length * (2 * k + 2) ≤ p.length * (2 * k + 3) := Nat.mul_le_mul_left _ (by omega)
    omega
  have hpl : p.length ≤ p.length * (2 * k + 2) := Nat.le_mul_of_pos_right _ (by omega)
  intro m
  induction m with
  | zero =>
    intro i σ hi hb hbd hz
    obtain rfl : i = p.length := by omega
    have co := (r84 (n := 2) (by decide) (by decide)).pure σ rfl rfl
    have b2 : Bd (2 + p.length * (2 * k + 2)) (mkRat 2 1) := (show Bd 2 (mkRat 2 1) from ⟨by decide, by decide⟩).mono (by omega)
    have cv := (r111 hbd b2 (by decide) (by omega)).pure σ rfl rfl
    obtain ⟨z, hz, hzl⟩ := hz
    obtain ⟨σ1, a1, a2, a3⟩ := hz.st (ws := RC (sumI (adQ p q) p.length / mkRat 2 1)) (by rw [hzl]; rfl) (RC_one _)
    exact ⟨σ1, e78 p.length q.length (flat RC p) (flat RC q) _ _ _ σ σ1 (hb.rd rfl) co cv rfl a1 (a2.rd rfl) (RC_eqv _)⟩
  | succ m ih =>
    intro i σ hi hb hbd hz
    have hil : i < p.length := by omega
    have hiq : i < q.length := by omega
    obtain ⟨σ2, a1, a2, a3, a4⟩ := new_box (σ := σ) (z := [.bool false, .nilS, .nilS]) (x := RC p[i]) (m := 3) rfl rfl
    have hb2 := hb.old a3
    obtain ⟨z, hz, hzl⟩ := hz
    have hz2 := hz.old a3
    have bp := hp _ (List.getElem_mem hil)
    have bq := hq _ (List.getElem_mem hiq)
    have cm := (r109 bp bq (by omega)).pure σ2 rfl rfl
    have bm := bp.sub bq
    have ca := (r110 (p[i] - q[i])).pure σ2 rfl rfl
    have hmul : i * (2 * k + 2) ≤ p.length * (2 * k + 2) := Nat.mul_le_mul_right _ (by omega)
    have cp := (r85 (hbd.mono (show _ ≤ 2 + i * (2 * k + 2) + (k + k + 1) by omega)) (bm.abs.mono (show _ ≤ 2 + i * (2 * k + 2) + (k + k + 1) by omega)) (by omega)).pure σ2 rfl rfl
    have hs : sumI (adQ p q) (i + 1) = sumI (adQ p q) i + (p[i] - q[i]).abs := by rw [sumI, adQ_of hil hiq]
    obtain ⟨σ3, d1, d2, d3⟩ := hb2.st (ws := RC (sumI (adQ p q) (i + 1))) rfl (RC_one _)
    have hbd2 : Bd (2 + (i + 1) * (2 * k + 2)) (sumI (adQ p q) (i + 1)) := by
      rw [hs]
      exact (hbd.add bm.abs).mono (by rw [Nat.add_mul]; omega)
    obtain ⟨σ', k1⟩ := ih (i + 1) σ3 (by omega) d2 hbd2 ⟨z, hz2.but (by decide) d3, hzl⟩
    have hi1 : ((i + 1 : Nat) : Int) = (i : Int) + 1 := by omega
    rw [hi1] at k1
    refine ⟨σ', ?_⟩
    rw [← k1]
    exact s78 p.length i q.length (flat RC p) (flat RC q) (RC p[i]) (RC q[i]) _ _ _ (RC (sumI (adQ p q) (i + 1))) σ σ2 σ3 hil hiq (RS_get hil σ) rfl a1 (hb2.rd rfl) (a2.rd rfl) (RS_get hiq σ2) cm ca (cp.trans (by rw [hs]; rfl)) rfl d1 (RC_eqv _) (wrapA_id (by omega) (by omega))
theorem r78 (p q : List Rat) (hpq : q.length = p.length) (k : Nat) (hp : ∀ x ∈ p, Bd k x) (hq : ∀ x ∈ q, Bd k x) (hk : (p.length + 1) * (2 * k + 3) ≤ 400000000) : FnF TT 78 [RS p, RS q] (RT (distQ p q)) := by
  have co := fun σ : St => (r84 (n := 0) (by decide) (by decide)).pure σ rfl rfl
  have hb1 : Bx (((⟨[], 0⟩ : St).push ⟨[.bool false, .nilS, .nilS], 3, false⟩).push ⟨[.bool false, .nilS, .nilS], 3, false⟩) 1 [.bool false, .nilS, .nilS] := Bx.push
  have hb0 : Bx (((⟨[], 0⟩ : St).push ⟨[.bool false, .nilS, .nilS], 3, false⟩).push ⟨[.bool false, .nilS, .nilS], 3, false⟩) 0 [.bool false, .nilS, .nilS] := Bx.push.old Old.push
  obtain ⟨σ3, a1, a2, a3⟩ := hb1.st (ws := RC (mkRat 0 1)) rfl (RC_one _)
  obtain ⟨σ', h1⟩ := l78 p q hpq k hp hq hk p.length 0 σ3 (by omega) a2 ((show Bd 2 (0 : Rat) from ⟨by decide +kernel, by decide +kernel⟩).mono (by omega)) ⟨_, hb0.but (by decide) a3, rfl⟩
  refine FnF.mkv (c := b78) fn78 rfl md78 ⟨σ', ?_⟩ (fun _ => rfl)
  refine Eq.trans ?_ h1
  exact b78e _ _ _ _ _ _ _ σ3 rfl rfl (co _) rfl rfl a1

theorem distQ_bd {p q : List Rat} {k : Nat} (hpq : q.length = p.length) (hp : ∀ x ∈ p, Bd k x) (hq : ∀ x ∈ q, Bd k x) : Bd (4 + p.length * (2 * k + 2)) (distQ p q) := by
  have h : ∀ n, n ≤ p.length → Bd (2 + n * (2 * k + 2)) (sumI (adQ p q) n) := by
    intro n
    induction n with
    | zero => intro _; exact (show Bd 2 (0 : Rat) from ⟨by decide +kernel, by decide +kernel⟩).mono (by omega)
    | succ n ih =>
      intro hn
      have h1 : n < p.length := by omega
      have h2 : n < q.length := by omega
      rw [sumI, adQ_of h1 h2]
      exact ((ih (by omega)).add ((hp _ (List.getElem_mem h1)).sub (hq _ (List.getElem_mem h2))).abs).mono (by rw [Nat.add_mul]; omega)
  have h2 : Bd 2 ((2 : Rat)⁻¹) := ⟨by decide +kernel, by decide +kernel⟩
  rw [distQ, Rat.div_def]
  exact ((h p.length (Nat.le_refl _)).mul h2).mono (by omega)
def inR (n lo hi : Int) : Bool := decide (lo ≤ n) && decide (n ≤ hi)
theorem c63 (n lo hi : Int) (σ : St) : callI TT 63 [.int .i64 n, .int .i64 lo, .int .i64 hi] σ = some (.bool (inR n lo hi), σ) := by
  refine (FnV.mk (args' := [.int .i64 n, .int .i64 lo, .int .i64 hi]) fn63 rfl md63 ⟨⟨[], 0⟩, ?_⟩ (fun _ => rfl) rfl) σ _ rfl
  rw [fi63]
  by_cases h1 : lo ≤ n <;> simp [xI_seq, xI_region, xI_ret, regA, regOps, runOps, opStep, wantedA, opA, evo, evos, calleeA, lk, nif_eq, putE, paramsE, valS, val2, keepE, restrict, finA, resA, binA, binInt, ofConst, ofConst1, loadA, TK.isAgg, asVar, unA, builtinA, lenOpA, lenA, ileb_cast, ileb_eq, ieqb_dec, indexAddrA, inB_dec, evPairs, storeA, AV.cellsOf, pairsOf, xI_nil, binBool, gcE, evOpt, inR, h1]

theorem v98 (l : List Int) (n : Nat) : FnV TT 98 [.lst n (ints l)] (.int .i64 n) := by
  refine FnV.mk fn98 rfl md98 ⟨⟨[], 0⟩, ?_⟩ (fun _ => rfl) rfl
  rw [fi98]
  simp [xI_seq, xI_region, xI_ret, regA, regOps, runOps, opStep, wantedA, opA, evo, evos, calleeA, lk, nif_eq, putE, paramsE, valS, val2, keepE, restrict, finA, resA, binA, binInt, ofConst, ofConst1, loadA, TK.isAgg, asVar, unA, builtinA, lenOpA, lenA, ileb_cast, ileb_eq, ieqb_dec, indexAddrA, inB_dec, evPairs, storeA, AV.cellsOf, pairsOf, xI_nil, binBool, gcE, evOpt, ty2, ty48]
def allR (l : List Int) (lo hi : Int) : Bool := l.all fun n => inR n lo hi
theorem c184 (n lo hi : Int) (σ : St) (p q : Nat) (x y : Blk) (hp : σ.get p = some x) (hx : x.cells = [.int .i64 lo]) (hq : σ.get q = some y) (hy : y.cells = [.int .i64 hi]) : callI TT 184 [.int .i64 n, .ptr p 0, .ptr q 0] σ = some (.bool (!inR n lo hi), σ) := by
  rw [cI_0 fn184 rfl md184, fi184]
  simp [xI_seq, xI_region, xI_ret, regA, regOps, runOps, opStep, wantedA, opA, evo, evos, calleeA, lk, nif_eq, putE, paramsE, valS, val2, keepE, restrict, finA, resA, binA, binInt, ofConst, ofConst1, loadA, TK.isAgg, asVar, unA, builtinA, lenOpA, lenA, ileb_cast, ileb_eq, ieqb_dec, indexAddrA, inB_dec, evPairs, storeA, AV.cellsOf, pairsOf, xI_nil, binBool, gcE, evOpt, xI_block, xI_loopH, xI_condM, xI_exitM, xI_skip, xI_blk, exitA, ty2, ty4, c63, cellsAt, hp, hx, hq, hy, getCells, takeN, dropN]

noncomputable def b198 : Code := Try.f198.body.getD .skip
noncomputable def B198_0 : Code := (bodyC (bodyC (sndC (fstC (sndC b198)))))
noncomputable def K198_0 : List It := .lp B198_0 :: .blk 0 :: .code (sndC (sndC b198)) :: []
theorem xl198_0 {fi : FI} {env : Env} {σ : St} : exI TT fi K198_0 env σ = exI TT fi (.code B198_0 :: K198_0) env σ := by unfold K198_0; exact xI_lp
noncomputable def R198_0_0 : List It := .code (sndC (sndC b198)) :: []
theorem eK198_0_0 : exitA 0 K198_0 = some R198_0_0 := rfl
theorem l198 (l : List Int) (len : Nat) (hlen : len = l.length) (hs : len < 3000000) (lo hi : Int) (σ : St) (p q : Nat) (x y : Blk) (hp : σ.get p = some x) (hx : x.cells = [.int .i64 lo]) (hq : σ.get q = some y) (hy : y.cells = [.int .i64 hi]) : ∀ (suf pre : List Int), l = pre ++ suf →
    ∃ r : Int, exI TT (FI.of Try.f198 (TT.an 198)) K198_0 [(0, .lst len (ints l)), (1, .fn 184 [] [.ptr p 0, .ptr q 0]), (7, .int .i64 len), (8, .int .i64 pre.length)] σ = some (.int .i64 r, σ) ∧ decide (0 ≤ r) = !allR suf lo hi := by
  intro suf
  induction suf with
  | nil =>
    intro pre hl
    refine ⟨-1, ?_, by simp [allR]⟩
    have hl : len = pre.length := by rw [hlen, hl]; simp
    subst hl
    rw [fi198]
    rw [xl198_0]
    simp only [B198_0, b198, Try.f198, Option.getD, fstC, sndC, bodyC, thnC, elsC]
    simp [xI_seq, xI_region, xI_ret, regA, regOps, runOps, opStep, wantedA, opA, evo, evos, calleeA, lk, nif_eq, putE, paramsE, valS, val2, keepE, restrict, finA, resA, binA, binInt, ofConst, ofConst1, loadA, TK.isAgg, asVar, unA, builtinA, lenOpA, lenA, ileb_cast, ileb_eq, ieqb_dec, indexAddrA, inB_dec, evPairs, storeA, AV.cellsOf, pairsOf, xI_nil, binBool, gcE, evOpt, xI_block, xI_loopH, xI_condM, xI_exitM, xI_skip, xI_blk, exitA, ty2, ty3, ty48, eK198_0_0]
    simp only [R198_0_0, b198, Try.f198, Option.getD, fstC, sndC, bodyC, thnC, elsC]
    simp [xI_seq, xI_region, xI_ret, regA, regOps, runOps, opStep, wantedA, opA, evo, evos, calleeA, lk, nif_eq, putE, paramsE, valS, val2, keepE, restrict, finA, resA, binA, binInt, ofConst, ofConst1, loadA, TK.isAgg, asVar, unA, builtinA, lenOpA, lenA, ileb_cast, ileb_eq, ieqb_dec, indexAddrA, inB_dec, evPairs, storeA, AV.cellsOf, pairsOf, xI_nil, binBool, gcE, evOpt, xI_block, xI_loopH, xI_condM, xI_exitM, xI_skip, xI_blk, exitA, ty2, ty3, ty48, eK198_0_0]
  | cons n suf ih =>
    intro pre hl
    have hll : len = pre.length + (suf.length + 1) := by rw [hlen, hl]; simp
    have hg : l[pre.length]? = some n := by simp [hl]
    obtain ⟨r, h1, h2⟩ := ih (pre ++ [n]) (by simp [hl])
    have hlt : ¬ len ≤ pre.length := by omega
    have hlt2 : pre.length < len := by omega
    have hw := wrapS (n := pre.length) (by omega)
    have hc := c184 n lo hi σ p q x y hp hx hq hy
    simp only [List.length_append, List.length_singleton] at h1
    cases hin : inR n lo hi with
    | true =>
      rw [hin] at hc
      refine ⟨r, ?_, by rw [h2]; simp [allR, hin]⟩
      rw [fi198] at h1 ⊢
      rw [xl198_0]
      simp only [B198_0, b198, Try.f198, Option.getD, fstC, sndC, bodyC, thnC, elsC]
      simp [xI_seq, xI_region, xI_ret, regA, regOps, runOps, opStep, wantedA, opA, evo, evos, calleeA, lk, nif_eq, putE, paramsE, valS, val2, keepE, restrict, finA, resA, binA, binInt, ofConst, ofConst1, loadA, TK.isAgg, asVar, unA, builtinA, lenOpA, lenA, ileb_cast, ileb_eq, ieqb_dec, indexAddrA, inB_dec, evPairs, storeA, AV.cellsOf, pairsOf, xI_nil, binBool, gcE, evOpt, xI_block, xI_loopH, xI_condM, xI_exitM, xI_skip, xI_blk, exitA, ty2, ty3, ty48, eK198_0_0, hw, hlt, hlt2, lst_read hg, hc]
      simpa using h1
    | false =>
      rw [hin] at hc
      refine ⟨pre.length, ?_, by simp [allR, hin]⟩
      rw [fi198]
      rw [xl198_0]
      simp only [B198_0, b198, Try.f198, Option.getD, fstC, sndC, bodyC, thnC, elsC]
      simp [xI_seq, xI_region, xI_ret, regA, regOps, runOps, opStep, wantedA, opA, evo, evos, calleeA, lk, nif_eq, putE, paramsE, valS, val2, keepE, restrict, finA, resA, binA, binInt, ofConst, ofConst1, loadA, TK.isAgg, asVar, unA, builtinA, lenOpA, lenA, ileb_cast, ileb_eq, ieqb_dec, indexAddrA, inB_dec, evPairs, storeA, AV.cellsOf, pairsOf, xI_nil, binBool, gcE, evOpt, xI_block, xI_loopH, xI_condM, xI_exitM, xI_skip, xI_blk, exitA, ty2, ty3, ty48, eK198_0_0, hw, hlt, hlt2, lst_read hg, hc]

theorem c183 (l : List Int) (len : Nat) (hlen : len = l.length) (hs : len < 3000000) (lo hi : Int) (σ : St) (p q : Nat) (x y : Blk) (hp : σ.get p = some x) (hx : x.cells = [.int .i64 lo]) (hq : σ.get q = some y) (hy : y.cells = [.int .i64 hi]) :
    callI TT 183 [.lst len (ints l), .fn 184 [] [.ptr p 0, .ptr q 0]] σ = some (.bool (!allR l lo hi), σ) := by
  obtain ⟨r, h1, h2⟩ := l198 l len hlen hs lo hi σ p q x y hp hx hq hy l [] rfl
  have hc : callI TT 198 [.lst len (ints l), .fn 184 [] [.ptr p 0, .ptr q 0]] σ = some (.int .i64 r, σ) := by
    rw [cI_0 fn198 rfl md198, ← h1, fi198]
    simp [xI_seq, xI_region, xI_ret, regA, regOps, runOps, opStep, wantedA, opA, evo, evos, calleeA, lk, nif_eq, putE, paramsE, valS, val2, keepE, restrict, finA, resA, binA, binInt, ofConst, ofConst1, loadA, TK.isAgg, asVar, unA, builtinA, lenOpA, lenA, ileb_cast, ileb_eq, ieqb_dec, indexAddrA, inB_dec, evPairs, storeA, AV.cellsOf, pairsOf, xI_nil, binBool, gcE, evOpt, xI_block, xI_loopH, xI_condM, xI_exitM, xI_skip, xI_blk, exitA, ty2, ty3, ty48, eK198_0_0]
    rfl
  rw [cI_0 fn183 rfl md183, fi183]
  simp [xI_seq, xI_region, xI_ret, regA, regOps, runOps, opStep, wantedA, opA, evo, evos, calleeA, lk, nif_eq, putE, paramsE, valS, val2, keepE, restrict, finA, resA, binA, binInt, ofConst, ofConst1, loadA, TK.isAgg, asVar, unA, builtinA, lenOpA, lenA, ileb_cast, ileb_eq, ieqb_dec, indexAddrA, inB_dec, evPairs, storeA, AV.cellsOf, pairsOf, xI_nil, binBool, gcE, evOpt, xI_block, xI_loopH, xI_condM, xI_exitM, xI_skip, xI_blk, exitA, ty3, hc, h2]

theorem v153 (l : List Int) (len : Nat) (hlen : len = l.length) (hs : len < 3000000) (lo hi : Int) : FnV TT 153 [.lst len (ints l), .int .i64 lo, .int .i64 hi] (.bool (allR l lo hi)) := by
  have h := c183 l len hlen hs lo hi (((⟨[], 0⟩ : St).push ⟨[.int .i64 lo], 1, false⟩).push ⟨[.int .i64 hi], 1, false⟩) 0 1 _ _ rfl rfl rfl rfl
  refine FnV.mk fn153 rfl md153 ⟨((⟨[], 0⟩ : St).push ⟨[.int .i64 lo], 1, false⟩).push ⟨[.int .i64 hi], 1, false⟩, ?_⟩ (fun _ => rfl) rfl
  rw [fi153]
  simp [xI_seq, xI_region, xI_ret, regA, regOps, runOps, opStep, wantedA, opA, evo, evos, calleeA, lk, nif_eq, putE, paramsE, valS, val2, keepE, restrict, finA, resA, binA, binInt, ofConst, ofConst1, loadA, TK.isAgg, asVar, unA, builtinA, lenOpA, lenA, ileb_cast, ileb_eq, ieqb_dec, indexAddrA, inB_dec, evPairs, storeA, AV.cellsOf, pairsOf, xI_nil, binBool, gcE, evOpt, xI_block, xI_loopH, xI_condM, xI_exitM, xI_skip, xI_blk, exitA, ty2, ty4, h, allOne, AV.one, n_push]

theorem inR_iff {n lo hi : Int} : inR n lo hi = true ↔ lo ≤ n ∧ n ≤ hi := by simp [inR]
/-- A number put among rising ones, once. -/
def put (x : Int) : List Int → List Int
  | [] => [x]
  | y :: r => if x ≤ y then (if x < y then x :: y :: r else y :: r) else y :: put x r
/-! ### Sinking numbers are put -/
/-! ### Rising sequences: plain law -/
/-! ### Pascal's numbers -/
def ch : Nat → Nat → Nat
  | _, 0 => 1
  | 0, _ + 1 => 0
  | n + 1, k + 1 => ch n k + ch n (k + 1)
theorem and32 (a : Nat) (h : a ≤ 18446744073709551615) : bitsA .and .u64 (a : Int) 4294967295 = some (.int .u64 ((a % 4294967296 : Nat) : Int)) := by
  have h1 : smallNat .u64 (a : Int) 4294967295 = some (a, 4294967295) := by
    show (bif Nat.ble a (topOf .u64) && Nat.ble 4294967295 (topOf .u64) then some (a, 4294967295) else none) = _
    have : Nat.ble a (topOf .u64) = true := by rw [Nat.ble_eq]; exact h
    rw [this]; rfl
  simp only [bitsA, h1]
  have : Nat.land a 4294967295 = a % 4294967296 := Nat.and_two_pow_sub_one_eq_mod a 32
  rw [this]; rfl
theorem shr32 (a : Nat) : shrA (a : Int) 32 = ((a / 4294967296 : Nat) : Int) := rfl
theorem wrapU {n : Nat} (h : n ≤ 18446744073709551615) : wrapA .u64 (n : Int) = n := by
  rw [wrapA_eq]; simp [IntKind.wrap, IntKind.bits, IntKind.signed]; omega

theorem c188 (a b : Nat) (ha : a < 144115188075855872) (hb : b < 64) (σ : St) : callI TT 188 [.int .u64 a, .int .u64 b] σ = some (.tup [.int .u64 0, .int .u64 ((a * b : Nat) : Int)], σ) := by
  refine (FnV.mk (args' := [.int .u64 a, .int .u64 b]) fn188 rfl md188 ⟨⟨[], 0⟩, ?_⟩ (fun _ => rfl) rfl) σ _ rfl
  obtain ⟨x0, hx0⟩ : ∃ x, x = a % 4294967296 := ⟨_, rfl⟩
  obtain ⟨x1, hx1⟩ : ∃ x, x = a / 4294967296 := ⟨_, rfl⟩
  have hx0l : x0 < 4294967296 := by omega
  have hx1l : x1 < 33554432 := by omega
  have e1 := and32 a (by omega)
  have e2 := shr32 a
  have e3 := and32 b (by omega)
  have e4 := shr32 b
  rw [← hx0] at e1
  rw [← hx1] at e2
  rw [show b % 4294967296 = b by omega] at e3
  rw [show b / 4294967296 = 0 by omega] at e4
  obtain ⟨w0, hw0⟩ : ∃ w, w = x0 * b := ⟨_, rfl⟩
  have hw0l : w0 < 4294967296 * 64 := by rw [hw0]; exact Nat.mul_lt_mul'' hx0l hb
  have m1 : wrapA .u64 ((x0 : Int) * b) = w0 := by rw [← Int.natCast_mul, wrapU (by omega), hw0]
  obtain ⟨w1, hw1⟩ : ∃ w, w = x1 * b := ⟨_, rfl⟩
  have hw1l : w1 < 33554432 * 64 := by rw [hw1]; exact Nat.mul_lt_mul'' hx1l hb
  have m2 : wrapA .u64 ((x1 : Int) * b) = w1 := by rw [← Int.natCast_mul, wrapU (by omega), hw1]
  have e5 := shr32 w0
  obtain ⟨t, ht⟩ : ∃ t, t = w1 + w0 / 4294967296 := ⟨_, rfl⟩
  have htl : t < 4294967296 := by omega
  have m3 : wrapA .u64 ((w1 : Int) + (w0 / 4294967296 : Nat)) = t := by rw [← Int.natCast_add, wrapU (by omega), ht]
  have e6 := and32 t (by omega)
  have e7 := shr32 t
  rw [show t % 4294967296 = t by omega] at e6
  rw [show t / 4294967296 = 0 by omega] at e7
  have m4 : wrapA .u64 ((a : Int) * b) = ((a * b : Nat) : Int) := by
    have : a * b ≤ 144115188075855872 * 64 := Nat.mul_le_mul (by omega) (by omega)
    rw [← Int.natCast_mul, wrapU (by omega)]
  have m5 : wrapA .u64 (0 : Int) = 0 := rfl
  have m6 : wrapA .u64 (t : Int) = t := wrapU (by omega)
  obtain ⟨z, hz⟩ : ∃ z, z = w0 / 4294967296 := ⟨_, rfl⟩
  obtain ⟨ab, hab⟩ : ∃ z, z = a * b := ⟨_, rfl⟩
  rw [← hz] at e5 m3
  rw [← hab] at m4 ⊢
  rw [show ((0 : Nat) : Int) = 0 from rfl] at e4 e7
  have hmin : min 32 IntKind.u64.bits = 32 := rfl
  rw [fi188]
  simp [xI_seq, xI_region, xI_ret, regA, regOps, runOps, opStep, wantedA, opA, evo, evos, calleeA, lk, nif_eq, putE, paramsE, valS, val2, keepE, restrict, finA, resA, binA, binInt, ofConst, ofConst1, loadA, TK.isAgg, asVar, unA, builtinA, lenOpA, lenA, ileb_cast, ileb_eq, ieqb_dec, indexAddrA, inB_dec, evPairs, storeA, AV.cellsOf, pairsOf, xI_nil, binBool, gcE, evOpt, xI_block, xI_loopH, xI_condM, xI_exitM, xI_skip, xI_blk, exitA, ty143, e1, e2, e3, e4, m1, m2, e5, m3, e6, e7, m4, m5, m6, hmin]

theorem pow_sh2 (i : Nat) (hi : i ≤ 60) : wrapA .i64 (shlA (1 : Int) (min i IntKind.i64.bits)) = ((2 ^ i : Nat) : Int) := by
  rw [Nat.min_eq_left (by simp [IntKind.bits]; omega)]
  have e : shlA (1 : Int) i = ((1 * 2 ^ i : Nat) : Int) := rfl
  have h : 2 ^ i ≤ 2 ^ 60 := Nat.pow_le_pow_right (by decide) hi
  rw [e, Nat.one_mul]
  exact wi64 (Nat.le_trans h (by decide))

theorem frA_yes {q : Rat} (h : fits q = true) : frA q = .tup [.agg [.int .i64 q.num, .int .i64 q.den], .bool true] := by rw [frA, if_pos h]
/-- The chance of an order of n things with s rising sequences after r riffles. -/
def chance (n s r : Nat) : Rat := mkRat (ch (2 ^ r + n - s) n : Nat) (2 ^ (r * n))
/-- How many orders of n things have how many rising sequences. -/
def eul : Nat → List Int
  | 1 => [0, 1, 0, 0, 0, 0, 0, 0, 0, 0, 0, 0, 0]
  | 2 => [0, 1, 1, 0, 0, 0, 0, 0, 0, 0, 0, 0, 0]
  | 3 => [0, 1, 4, 1, 0, 0, 0, 0, 0, 0, 0, 0, 0]
  | 4 => [0, 1, 11, 11, 1, 0, 0, 0, 0, 0, 0, 0, 0]
  | 5 => [0, 1, 26, 66, 26, 1, 0, 0, 0, 0, 0, 0, 0]
  | 6 => [0, 1, 57, 302, 302, 57, 1, 0, 0, 0, 0, 0, 0]
  | 7 => [0, 1, 120, 1191, 2416, 1191, 120, 1, 0, 0, 0, 0, 0]
  | 8 => [0, 1, 247, 4293, 15619, 15619, 4293, 247, 1, 0, 0, 0, 0]
  | _ => []
def facN : Nat → Nat
  | 1 => 1
  | 2 => 2
  | 3 => 6
  | 4 => 24
  | 5 => 120
  | 6 => 720
  | 7 => 5040
  | 8 => 40320
  | _ => 1
theorem n8 {P : Nat → Prop} (h1 : P 1) (h2 : P 2) (h3 : P 3) (h4 : P 4) (h5 : P 5) (h6 : P 6) (h7 : P 7) (h8 : P 8) : ∀ n, 1 ≤ n → n ≤ 8 → P n := by
  intro n h h'
  have : n = 1 ∨ n = 2 ∨ n = 3 ∨ n = 4 ∨ n = 5 ∨ n = 6 ∨ n = 7 ∨ n = 8 := by omega
  rcases this with rfl | rfl | rfl | rfl | rfl | rfl | rfl | rfl <;> assumption

def evenQ (n : Nat) : Rat := mkRat 1 (facN n)
def rdT (n r k : Nat) : Rat := if 0 < at0 (eul n) k then (chance n k r - evenQ n).abs * mkRat (at0 (eul n) k) 1 else 0
def rdQ (n r : Nat) : Rat := sumI (rdT n r) 13 / 2
def spT (n r k : Nat) : Rat := (chance n (k + 1) r - evenQ n).abs * mkRat (at0 (eul n) (k + 1)) 2
/-- What the two ways of reckoning need at all arguments. -/
def chkRD (n r : Nat) : Bool := ((List.range n).all fun k => fits (chance n (k + 1) r - evenQ n) && (fits (spT n r k) && (fits (sumI (spT n r) (k + 1)) && (fits (mkRat (at0 (eul n) (k + 1)) 2) && decide (0 ≤ at0 (eul n) (k + 1) ∧ at0 (eul n) (k + 1) ≤ 100000))))) && (fits (evenQ n) && (decide (sumI (spT n r) n = rdQ n r) && (decide ((eul n).length = 13) && (((List.range 13).all fun k => (decide (0 < at0 (eul n) k) == (decide (1 ≤ k) && decide (k ≤ n))) && decide (at0 (eul n) k ≤ 100000 ∧ 0 ≤ at0 (eul n) k)) && decide (1 ≤ facN n ∧ facN n ≤ 40320)))))

theorem chk_1 : ((List.range 6).all fun r => chkRD 1 r) = true := by decide +kernel
theorem chk_2 : ((List.range 6).all fun r => chkRD 2 r) = true := by decide +kernel
theorem chk_3 : ((List.range 6).all fun r => chkRD 3 r) = true := by decide +kernel
theorem chk_4 : ((List.range 6).all fun r => chkRD 4 r) = true := by decide +kernel
theorem chk_5 : ((List.range 6).all fun r => chkRD 5 r) = true := by decide +kernel
theorem chk_6 : ((List.range 6).all fun r => chkRD 6 r) = true := by decide +kernel
theorem chk_7 : ((List.range 6).all fun r => chkRD 7 r) = true := by decide +kernel
theorem chk_8 : ((List.range 6).all fun r => chkRD 8 r) = true := by decide +kernel
theorem chk_all (n r : Nat) (h1 : 1 ≤ n) (h2 : n ≤ 8) (hr : r ≤ 5) : chkRD n r = true := by
  have := n8 (P := fun n => ((List.range 6).all fun r => chkRD n r) = true) chk_1 chk_2 chk_3 chk_4 chk_5 chk_6 chk_7 chk_8 n h1 h2
  rw [List.all_eq_true] at this
  exact this r (List.mem_range.2 (by omega))
structure RD (n r : Nat) : Prop where
  d : ∀ k, k < n → fits (chance n (k + 1) r - evenQ n) = true
  t : ∀ k, k < n → fits (spT n r k) = true
  s : ∀ k, k < n → fits (sumI (spT n r) (k + 1)) = true
  m : ∀ k, k < n → fits (mkRat (at0 (eul n) (k + 1)) 2) = true
  b : ∀ k, k < n → 0 ≤ at0 (eul n) (k + 1) ∧ at0 (eul n) (k + 1) ≤ 100000
  e : fits (evenQ n) = true
  q : sumI (spT n r) n = rdQ n r
  l : (eul n).length = 13
  p : ∀ k, k < 13 → (0 < at0 (eul n) k ↔ (1 ≤ k ∧ k ≤ n))
  c : ∀ k, k < 13 → at0 (eul n) k ≤ 100000 ∧ 0 ≤ at0 (eul n) k
  f : 1 ≤ facN n ∧ facN n ≤ 40320
theorem rd (n r : Nat) (h1 : 1 ≤ n) (h2 : n ≤ 8) (hr : r ≤ 5) : RD n r := by
  have h := chk_all n r h1 h2 hr
  simp only [chkRD, Bool.and_eq_true, List.all_eq_true, List.mem_range, decide_eq_true_eq, beq_iff_eq] at h
  obtain ⟨a, b, c, d, e, f⟩ := h
  refine ⟨fun k hk => (a k hk).1, fun k hk => (a k hk).2.1, fun k hk => (a k hk).2.2.1, fun k hk => (a k hk).2.2.2.1, fun k hk => (a k hk).2.2.2.2, b, c, d, fun k hk => ?_, fun k hk => (e k hk).2, f⟩
  have := (e k hk).1
  rw [← Bool.decide_and, decide_eq_decide] at this
  exact this
theorem sumI_bd {f : Nat → Rat} {k : Nat} : ∀ n, (∀ i, i < n → Bd k (f i)) → Bd (2 + n * (k + 1)) (sumI f n)
  | 0, _ => (show Bd 2 (0 : Rat) from ⟨by decide +kernel, by decide +kernel⟩).mono (by omega)
  | n + 1, h => by
    rw [sumI]
    exact ((sumI_bd n fun i hi => h i (by omega)).add (h n (by omega))).mono (by rw [Nat.add_mul]; omega)
def QC (q : Rat) : List AV := [.int .i64 q.num, .int .i64 q.den]
theorem mk_self {q : Rat} : mkRat q.num (q.den : Int).toNat = q := by rw [Int.toNat_natCast, Rat.mkRat_self]
set_option maxHeartbeats 4000000 in
theorem k120 (x1 x2 y1 y2 : Int) (z : Int) (c1 : ∀ σ, callI TT 170 [.agg [.int .i64 x1, .int .i64 x2]] σ = some (.bool true, σ)) (c2 : ∀ σ, callI TT 170 [.agg [.int .i64 y1, .int .i64 y2]] σ = some (.bool true, σ)) (c3 : ∀ σ, callI TT 69 [.agg [.int .i64 x1, .int .i64 x2], .agg [.int .i64 y1, .int .i64 y2]] σ = some (.int .i64 z, σ)) :
    ∃ σ', exI TT (FI.of Try.f120 (TT.an 120)) [.code (Try.f120.body.getD .skip)] (paramsE 0 [.agg [.int .i64 x1, .int .i64 x2], .agg [.int .i64 y1, .int .i64 y2]]) ⟨[], 0⟩ = some (.tup [.int .i64 z, .bool true], σ') := by
  refine ex1 ?_
  rw [fi120]
  simp only [Try.f120, Option.getD]
  simp (maxSteps := 1000000) (disch := omega) [cellsAt, getCells, takeN, dropN, fieldAddrA, allOne, AV.one, n_push, storeCellsA, putN, overN, St.push, St.get, St.set, hget, hset, blt_dec, buildA, sizesOf, fillA, putCells, List.take_succ_cons, List.take_zero, List.drop_succ_cons, List.drop_zero, List.nil_append, List.cons_append, List.length_cons, List.length_nil, eqvs_dgs, convA, c1, c2, c3]
set_option maxHeartbeats 4000000 in
theorem k46t (x1 x2 y1 y2 : Int) (z : Int) (c1 : ∀ σ, callI TT 120 [.agg [.int .i64 x1, .int .i64 x2], .agg [.int .i64 y1, .int .i64 y2]] σ = some (.tup [.int .i64 z, .bool true], σ)) (hb : z < 0) :
    ∃ σ', exI TT (FI.of Try.f46 (TT.an 46)) [.code (Try.f46.body.getD .skip)] (paramsE 0 [.agg [.int .i64 x1, .int .i64 x2], .agg [.int .i64 y1, .int .i64 y2]]) ⟨[], 0⟩ = some (.bool true, σ') := by
  refine ex1 ?_
  rw [fi46]
  simp only [Try.f46, Option.getD]
  simp (maxSteps := 1000000) (disch := omega) [cellsAt, getCells, takeN, dropN, fieldAddrA, allOne, AV.one, n_push, storeCellsA, putN, overN, St.push, St.get, St.set, hget, hset, blt_dec, buildA, sizesOf, fillA, putCells, List.take_succ_cons, List.take_zero, List.drop_succ_cons, List.drop_zero, List.nil_append, List.cons_append, List.length_cons, List.length_nil, eqvs_dgs, convA, c1, hb]
set_option maxHeartbeats 4000000 in
theorem k46f (x1 x2 y1 y2 : Int) (z : Int) (c1 : ∀ σ, callI TT 120 [.agg [.int .i64 x1, .int .i64 x2], .agg [.int .i64 y1, .int .i64 y2]] σ = some (.tup [.int .i64 z, .bool true], σ)) (hb : 0 ≤ z) :
    ∃ σ', exI TT (FI.of Try.f46 (TT.an 46)) [.code (Try.f46.body.getD .skip)] (paramsE 0 [.agg [.int .i64 x1, .int .i64 x2], .agg [.int .i64 y1, .int .i64 y2]]) ⟨[], 0⟩ = some (.bool false, σ') := by
  refine ex1 ?_
  rw [fi46]
  simp only [Try.f46, Option.getD]
  simp (maxSteps := 1000000) (disch := omega) [cellsAt, getCells, takeN, dropN, fieldAddrA, allOne, AV.one, n_push, storeCellsA, putN, overN, St.push, St.get, St.set, hget, hset, blt_dec, buildA, sizesOf, fillA, putCells, List.take_succ_cons, List.take_zero, List.drop_succ_cons, List.drop_zero, List.nil_append, List.cons_append, List.length_cons, List.length_nil, eqvs_dgs, convA, c1, hb]
theorem cmp_neg {p q : Rat} : cmpR p q < 0 ↔ p < q := by
  unfold cmpR
  constructor
  · intro h
    split at h
    · omega
    · split at h
      · rename_i h2
        have := ng_iff.1 h2
        grind
      · omega
  · intro h
    have h1 : ¬ p - q = 0 := by grind
    rw [if_neg h1, if_pos (ng_iff.2 (by grind))]
    decide
theorem r46 {a b : Rat} (ha : fits a = true) (hb : fits b = true) (σ : St) : callI TT 46 [.agg (QC a), .agg (QC b)] σ = some (.bool (decide (a < b)), σ) := by
  have c1 := fun σ : St => v170 a.num a.den σ [.agg (QC a)] rfl
  have c2 := fun σ : St => v170 b.num b.den σ [.agg (QC b)] rfl
  have c3 := fun σ : St => v69 (vfr_of ha) (vfr_of hb) σ [.agg (QC a), .agg (QC b)] rfl
  rw [mk_self, mk_self] at c3
  rw [vfr_of ha] at c1
  rw [vfr_of hb] at c2
  have c4 : FnV TT 120 [.agg (QC a), .agg (QC b)] (.tup [.int .i64 (cmpR a b), .bool true]) := FnV.mk fn120 rfl md120 (k120 _ _ _ _ _ c1 c2 c3) (fun _ => rfl) rfl
  by_cases h : a < b
  · rw [decide_eq_true h]
    have c5 : FnV TT 46 [.agg (QC a), .agg (QC b)] (.bool true) := FnV.mk fn46 rfl md46 (k46t _ _ _ _ _ (fun σ => c4 σ _ rfl) (cmp_neg.2 h)) (fun _ => rfl) rfl
    exact c5 σ _ rfl
  · rw [decide_eq_false h]
    have c5 : FnV TT 46 [.agg (QC a), .agg (QC b)] (.bool false) := FnV.mk fn46 rfl md46 (k46f _ _ _ _ _ (fun σ => c4 σ _ rfl) (Int.not_lt.1 fun hh => h (cmp_neg.1 hh))) (fun _ => rfl) rfl
    exact c5 σ _ rfl

theorem v39 (n m : Nat) (xs ys : List AV) : FnV TT 39 [.lst n xs, .lst m ys] (.bool (decide (1048576 < n) || decide (1048576 < m))) := by
  refine FnV.mk fn39 rfl md39 ⟨⟨[], 0⟩, ?_⟩ (fun _ => rfl) rfl
  rw [fi39]
  by_cases h : 1048576 < n
  · have h' : ¬ (n : Int) ≤ 1048576 := by omega
    simp [xI_seq, xI_region, xI_ret, regA, regOps, runOps, opStep, wantedA, opA, evo, evos, calleeA, lk, nif_eq, putE, paramsE, valS, val2, keepE, restrict, finA, resA, binA, binInt, ofConst, ofConst1, loadA, TK.isAgg, asVar, unA, builtinA, lenOpA, lenA, ileb_cast, ileb_eq, ieqb_dec, indexAddrA, inB_dec, evPairs, storeA, AV.cellsOf, pairsOf, xI_nil, binBool, gcE, evOpt, xI_block, xI_loopH, xI_condM, xI_exitM, xI_skip, xI_blk, exitA, ty3, ty5, ty55, h, h']
  · have h' : (n : Int) ≤ 1048576 := by omega
    by_cases h2 : 1048576 < m
    · have h2' : ¬ (m : Int) ≤ 1048576 := by omega
      simp [xI_seq, xI_region, xI_ret, regA, regOps, runOps, opStep, wantedA, opA, evo, evos, calleeA, lk, nif_eq, putE, paramsE, valS, val2, keepE, restrict, finA, resA, binA, binInt, ofConst, ofConst1, loadA, TK.isAgg, asVar, unA, builtinA, lenOpA, lenA, ileb_cast, ileb_eq, ieqb_dec, indexAddrA, inB_dec, evPairs, storeA, AV.cellsOf, pairsOf, xI_nil, binBool, gcE, evOpt, xI_block, xI_loopH, xI_condM, xI_exitM, xI_skip, xI_blk, exitA, ty3, ty5, ty55, h, h', h2, h2']
    · have h2' : (m : Int) ≤ 1048576 := by omega
      simp [xI_seq, xI_region, xI_ret, regA, regOps, runOps, opStep, wantedA, opA, evo, evos, calleeA, lk, nif_eq, putE, paramsE, valS, val2, keepE, restrict, finA, resA, binA, binInt, ofConst, ofConst1, loadA, TK.isAgg, asVar, unA, builtinA, lenOpA, lenA, ileb_cast, ileb_eq, ieqb_dec, indexAddrA, inB_dec, evPairs, storeA, AV.cellsOf, pairsOf, xI_nil, binBool, gcE, evOpt, xI_block, xI_loopH, xI_condM, xI_exitM, xI_skip, xI_blk, exitA, ty3, ty5, ty55, h, h', h2, h2']

theorem v41 (l : List Nat) (hl : ∀ x ∈ l, x < 256) (i n : Nat) (hn2 : n < 1000000) (hi : i < 1000000) : ∃ r : Nat, r < max 1 n ∧ FnV TT 41 [.lst l.length (byts l), .int .i64 i, .int .i64 n] (.int .i64 r) := by
  by_cases h1 : n ≤ 1
  · have h1' : (n : Int) ≤ 1 := by omega
    refine ⟨0, by omega, FnV.mk fn41 rfl md41 ⟨⟨[], 0⟩, ?_⟩ (fun _ => rfl) rfl⟩
    rw [fi41]
    simp [xI_seq, xI_region, xI_ret, regA, regOps, runOps, opStep, wantedA, opA, evo, evos, calleeA, lk, nif_eq, putE, paramsE, valS, val2, keepE, restrict, finA, resA, binA, binInt, ofConst, ofConst1, loadA, TK.isAgg, asVar, unA, builtinA, lenOpA, lenA, ileb_cast, ileb_eq, ieqb_dec, indexAddrA, inB_dec, evPairs, storeA, AV.cellsOf, pairsOf, xI_nil, binBool, gcE, evOpt, xI_block, xI_loopH, xI_condM, xI_exitM, xI_skip, xI_blk, exitA, ty2, ty5, ty55, h1, h1']
  have hn : 1 < n := by omega
  have h0 : ¬ (n : Int) ≤ 1 := by omega
  by_cases hil : i < l.length
  · obtain ⟨x, hx⟩ : ∃ x, l[i]? = some x := ⟨_, List.getElem?_eq_getElem hil⟩
    have hx2 : x < 256 := hl x (List.mem_of_getElem? hx)
    have hr : cellsAt (⟨[], 0⟩ : St) (.lp (byts l) i) 1 = some [.int .u8 x] := getCells_byt hx
    have hil2 : ¬ l.length ≤ i := by omega
    have hw : wrapA .i64 (x : Int) = x := wrapA_id (by omega) (by omega)
    have hm : (x : Int).tmod n = (x % n : Nat) := by rw [Int.tmod_eq_emod_of_nonneg (by omega)]; simp
    have hne : ¬ (n : Int) = 0 := by omega
    have hne2 : ¬ n = 0 := by omega
    have hlt := Nat.mod_lt x (show 0 < n by omega)
    refine ⟨x % n, by omega, FnV.mk fn41 rfl md41 ⟨⟨[], 0⟩, ?_⟩ (fun _ => rfl) rfl⟩
    rw [fi41]
    simp [xI_seq, xI_region, xI_ret, regA, regOps, runOps, opStep, wantedA, opA, evo, evos, calleeA, lk, nif_eq, putE, paramsE, valS, val2, keepE, restrict, finA, resA, binA, binInt, ofConst, ofConst1, loadA, TK.isAgg, asVar, unA, builtinA, lenOpA, lenA, ileb_cast, ileb_eq, ieqb_dec, indexAddrA, inB_dec, evPairs, storeA, AV.cellsOf, pairsOf, xI_nil, binBool, gcE, evOpt, xI_block, xI_loopH, xI_condM, xI_exitM, xI_skip, xI_blk, exitA, ty2, ty5, ty55, h0, hil, hil2, hr, convA, hw, hm, hne, hne2, ty5]
  · have hil2 : l.length ≤ i := by omega
    have hw : wrapA .i64 ((i : Int) * 37) = ((i * 37 : Nat) : Int) := by rw [wrapA_id (by omega) (by omega)]; omega
    have hw2 : wrapA .i64 (((i * 37 : Nat) : Int) + 11) = ((i * 37 + 11 : Nat) : Int) := by rw [wrapA_id (by omega) (by omega)]; omega
    have hm : ((i * 37 + 11 : Nat) : Int).tmod n = ((i * 37 + 11) % n : Nat) := by rw [Int.tmod_eq_emod_of_nonneg (by omega)]; simp
    have hne : ¬ (n : Int) = 0 := by omega
    have hne2 : ¬ n = 0 := by omega
    have hlt := Nat.mod_lt (i * 37 + 11) (show 0 < n by omega)
    refine ⟨(i * 37 + 11) % n, by omega, FnV.mk fn41 rfl md41 ⟨⟨[], 0⟩, ?_⟩ (fun _ => rfl) rfl⟩
    rw [fi41]
    generalize hz : i * 37 = z at *
    generalize hz2 : z + 11 = z2 at *
    simp [xI_seq, xI_region, xI_ret, regA, regOps, runOps, opStep, wantedA, opA, evo, evos, calleeA, lk, nif_eq, putE, paramsE, valS, val2, keepE, restrict, finA, resA, binA, binInt, ofConst, ofConst1, loadA, TK.isAgg, asVar, unA, builtinA, lenOpA, lenA, ileb_cast, ileb_eq, ieqb_dec, indexAddrA, inB_dec, evPairs, storeA, AV.cellsOf, pairsOf, xI_nil, binBool, gcE, evOpt, xI_block, xI_loopH, xI_condM, xI_exitM, xI_skip, xI_blk, exitA, ty2, ty5, ty55, h0, hil, hil2, hw, hw2, hm, hne, hne2, ty5]

theorem wrap_u (z : Int) : ∃ m : Nat, wrapA .u64 z = m ∧ m < 18446744073709551616 := by
  refine ⟨(wrapA .u64 z).toNat, ?_, ?_⟩ <;> (rw [wrapA_eq]; simp [IntKind.wrap, IntKind.bits, IntKind.signed]; omega)
/-- A source of choices in the heap. -/
def SRC (σ : St) (s : Nat) (l : List Nat) (k m : Nat) : Prop := s < σ.n ∧ σ.get s = some ⟨[.lst l.length (byts l), .int .i64 k, .int .u64 m], 3, false⟩ ∧ m < 18446744073709551616
theorem SRC.set {σ : St} {s : Nat} {l : List Nat} {k m k' m' : Nat} (h : SRC σ s l k m) (hm : m' < 18446744073709551616) : ∃ σ1 σ2, storeCellsA σ s 1 [.int .i64 (k' : Int)] = some σ1 ∧ cellsAt σ1 (.ptr s 2) 1 = some [.int .u64 m] ∧ storeCellsA σ1 s 2 [.int .u64 (m' : Int)] = some σ2 ∧ SRC σ2 s l k' m' ∧ σ2.n = σ.n ∧ ∀ c, c ≠ s → σ2.get c = σ.get c := by
  obtain ⟨h1, h2, _⟩ := h
  have e1 : (σ.set s ⟨[.lst l.length (byts l), .int .i64 k', .int .u64 m], 3, false⟩).get s = some ⟨[.lst l.length (byts l), .int .i64 k', .int .u64 m], 3, false⟩ := get_set_eq h2
  refine ⟨σ.set s ⟨[.lst l.length (byts l), .int .i64 k', .int .u64 m], 3, false⟩, (σ.set s ⟨[.lst l.length (byts l), .int .i64 k', .int .u64 m], 3, false⟩).set s ⟨[.lst l.length (byts l), .int .i64 k', .int .u64 m'], 3, false⟩, ?_, ?_, ?_, ⟨h1, get_set_eq e1, hm⟩, rfl, fun c hc => ?_⟩
  · simp [storeCellsA, h2, allOne, AV.one, putN, overN]
  · simp [cellsAt, e1, getCells, takeN, dropN]
  · simp [storeCellsA, e1, allOne, AV.one, putN, overN]
  · rw [get_set_ne (fun h => hc h.symm), get_set_ne (fun h => hc h.symm)]
theorem SRC.c0 {σ : St} {s : Nat} {l : List Nat} {k m : Nat} (h : SRC σ s l k m) : cellsAt σ (.ptr s 0) 1 = some [.lst l.length (byts l)] := by simp [cellsAt, h.2.1, getCells, takeN, dropN]
theorem SRC.c1 {σ : St} {s : Nat} {l : List Nat} {k m : Nat} (h : SRC σ s l k m) : cellsAt σ (.ptr s 1) 1 = some [.int .i64 k] := by simp [cellsAt, h.2.1, getCells, takeN, dropN]
theorem SRC.c2 {σ : St} {s : Nat} {l : List Nat} {k m : Nat} (h : SRC σ s l k m) : cellsAt σ (.ptr s 2) 1 = some [.int .u64 m] := by simp [cellsAt, h.2.1, getCells, takeN, dropN]
theorem c165 (l : List Nat) (hl : ∀ x ∈ l, x < 256) (hll : l.length ≤ 2000000) (k m : Nat) (hk : k ≤ 1000000) (σ : St) (s : Nat) (h : SRC σ s l k m) :
    ∃ (r m' : Nat) (σ' : St), callI TT 165 [.ptr s 0] σ = some (.int .i64 r, σ') ∧ r ≤ 255 ∧ SRC σ' s l (k + 1) m' ∧ σ'.n = σ.n ∧ ∀ c, c ≠ s → σ'.get c = σ.get c := by
  have c0 := h.c0
  have c1 := h.c1
  have hw := wrapS (n := k) (by omega)
  have step : ∀ b : Nat, ∃ (m3 : Nat) (σ1 σ2 : St), m3 < 18446744073709551616 ∧ storeCellsA σ s 1 [.int .i64 ((k : Int) + 1)] = some σ1 ∧ cellsAt σ1 (.ptr s 2) 1 = some [.int .u64 m] ∧ wrapA .u64 (wrapA .u64 (wrapA .u64 ((m : Int) * 6364136223846793005) + (b : Int)) + 1442695040888963407) = (m3 : Int) ∧ storeCellsA σ1 s 2 [.int .u64 (m3 : Int)] = some σ2 ∧ SRC σ2 s l (k + 1) m3 ∧ σ2.n = σ.n ∧ ∀ c, c ≠ s → σ2.get c = σ.get c := by
    intro b
    obtain ⟨m3, e3, h3⟩ := wrap_u (wrapA .u64 (wrapA .u64 ((m : Int) * 6364136223846793005) + (b : Int)) + 1442695040888963407)
    obtain ⟨σ1, σ2, a1, a2, a3, a4, a5, a6⟩ := h.set (k' := k + 1) h3
    exact ⟨m3, σ1, σ2, h3, by simpa using a1, a2, e3, a3, a4, a5, a6⟩
  by_cases hlt : k < l.length
  · obtain ⟨b, hb⟩ : ∃ b, l[k]? = some b := ⟨l[k], List.getElem?_eq_getElem hlt⟩
    have hb2 : b < 256 := hl b (List.mem_of_getElem? hb)
    obtain ⟨m3, σ1, σ2, h3, a1, a2, a3, a4, a5, a6, a7⟩ := step b
    have d0 := a5.c0
    have d1 := a5.c1
    have kb : ∀ σ, cellsAt σ (.lp (byts l) k) 1 = some [.int .u8 b] := fun σ => getCells_byt hb
    have u1 : wrapA .i64 (b : Int) = b := n_wrap (by omega)
    have u2 : wrapA .u64 (b : Int) = b := n_wrapu (by omega)
    have hlt2 : ¬ l.length ≤ k := by omega
    have hle : k + 1 ≤ l.length := by omega
    have hle' : (k : Int) + 1 ≤ l.length := by omega
    have hle2 : ¬ ((l.length : Int) < (k : Int) + 1) := by omega
    refine ⟨b, m3, σ2, ?_, by omega, a5, a6, a7⟩
    simp only [Int.natCast_add, show ((1 : Nat) : Int) = 1 from rfl] at d1
    rw [cI_0 fn165 rfl md165, fi165]
    simp [xI_seq, xI_region, xI_ret, regA, regOps, runOps, opStep, wantedA, opA, evo, evos, calleeA, lk, nif_eq, putE, paramsE, valS, val2, keepE, restrict, finA, resA, binA, binInt, ofConst, ofConst1, loadA, TK.isAgg, asVar, unA, builtinA, lenOpA, lenA, ileb_cast, ileb_eq, ieqb_dec, indexAddrA, inB_dec, evPairs, storeA, AV.cellsOf, pairsOf, xI_nil, binBool, gcE, evOpt, xI_block, xI_loopH, xI_condM, xI_exitM, xI_skip, xI_blk, exitA, ty2, ty3, ty5, ty55, ty143, ty169, fieldAddrA, allOne, AV.one, ty143, ty169, ty2, ty3, ty5, ty55, c0, c1, hw, hlt, hlt2, kb, u1, u2, a1, a2, a3, a4, d0, d1, hle, hle', hle2, convA]
  · obtain ⟨m3, σ1, σ2, h3, a1, a2, a3, a4, a5, a6, a7⟩ := step 0
    have d0 := a5.c0
    have d1 := a5.c1
    have d2 := a5.c2
    have u2 : wrapA .u64 (0 : Int) = 0 := by decide
    have hlt2 : l.length ≤ k := by omega
    have hle : ¬ k + 1 ≤ l.length := by omega
    have hle' : ¬ (k : Int) + 1 ≤ l.length := by omega
    have hle2 : (l.length : Int) < (k : Int) + 1 := by omega
    have e1 : shrA (m3 : Int) (min 40 IntKind.u64.bits) = ((shrN m3 40 : Nat) : Int) := rfl
    have e2 : bitsA .and .u64 ((shrN m3 40 : Nat) : Int) 255 = some (.int .u64 ((andN (shrN m3 40) 255 : Nat) : Int)) := w_and .u64 (a := shrN m3 40) (b := 255) (by show m3 / 2 ^ 40 ≤ _; simp only [topOf]; omega) (by decide)
    have e3 : andN (shrN m3 40) 255 ≤ 255 := Nat.and_le_right
    have e4 : wrapA .i64 ((andN (shrN m3 40) 255 : Nat) : Int) = ((andN (shrN m3 40) 255 : Nat) : Int) := n_wrap (by omega)
    refine ⟨andN (shrN m3 40) 255, m3, σ2, ?_, e3, a5, a6, a7⟩
    simp only [Int.natCast_add, show ((1 : Nat) : Int) = 1 from rfl] at d1
    simp only [show ((0 : Nat) : Int) = 0 from rfl, Int.add_zero] at a3
    rw [cI_0 fn165 rfl md165, fi165]
    simp [xI_seq, xI_region, xI_ret, regA, regOps, runOps, opStep, wantedA, opA, evo, evos, calleeA, lk, nif_eq, putE, paramsE, valS, val2, keepE, restrict, finA, resA, binA, binInt, ofConst, ofConst1, loadA, TK.isAgg, asVar, unA, builtinA, lenOpA, lenA, ileb_cast, ileb_eq, ieqb_dec, indexAddrA, inB_dec, evPairs, storeA, AV.cellsOf, pairsOf, xI_nil, binBool, gcE, evOpt, xI_block, xI_loopH, xI_condM, xI_exitM, xI_skip, xI_blk, exitA, ty2, ty3, ty5, ty55, ty143, ty169, fieldAddrA, allOne, AV.one, ty143, ty169, ty2, ty3, ty5, ty55, c0, c1, hw, hlt, hlt2, u2, a1, a2, a3, a4, d0, d1, d2, hle, hle', hle2, e1, e2, e4, convA]

theorem c113 (l : List Nat) (hl : ∀ x ∈ l, x < 256) (hll : l.length ≤ 2000000) (k m : Nat) (hk : k ≤ 999000) (n : Nat) (hn : n ≤ 1000000) (σ : St) (s : Nat) (h : SRC σ s l k m) :
    ∃ (r k' m' : Nat) (σ' : St), callI TT 113 [.ptr s 0, .int .i64 n] σ = some (.int .i64 r, σ') ∧ r < max 1 n ∧ SRC σ' s l k' m' ∧ k' ≤ k + 2 ∧ σ'.n = σ.n ∧ ∀ c, c ≠ s → σ'.get c = σ.get c := by
  by_cases h1 : n ≤ 1
  · have h1' : (n : Int) ≤ 1 := by omega
    refine ⟨0, k, m, σ, ?_, by omega, h, by omega, rfl, fun _ _ => rfl⟩
    rw [cI_0 fn113 rfl md113, fi113]
    simp [xI_seq, xI_region, xI_ret, regA, regOps, runOps, opStep, wantedA, opA, evo, evos, calleeA, lk, nif_eq, putE, paramsE, valS, val2, keepE, restrict, finA, resA, binA, binInt, ofConst, ofConst1, loadA, TK.isAgg, asVar, unA, builtinA, lenOpA, lenA, ileb_cast, ileb_eq, ieqb_dec, indexAddrA, inB_dec, evPairs, storeA, AV.cellsOf, pairsOf, xI_nil, binBool, gcE, evOpt, xI_block, xI_loopH, xI_condM, xI_exitM, xI_skip, xI_blk, exitA, ty2, h1, h1']
  · have h1' : ¬ (n : Int) ≤ 1 := by omega
    have h0 : ¬ (n : Int) = 0 := by omega
    have h00 : ¬ n = 0 := by omega
    obtain ⟨r1, m1, σ1, c1, b1, s1, e1, k1⟩ := c165 l hl hll k m (by omega) σ s h
    by_cases h2 : 200 < n
    · have h2' : (200 : Int) < (n : Int) := by omega
      obtain ⟨r2, m2, σ2, c2, b2, s2, e2, k2⟩ := c165 l hl hll (k + 1) m1 (by omega) σ1 s s1
      have w1 : wrapA .i64 ((r1 : Int) * 256) = ((mulN r1 256 : Nat) : Int) := n_wrap (a := mulN r1 256) (by show r1 * 256 ≤ _; omega)
      have w2 : wrapA .i64 (((mulN r1 256 : Nat) : Int) + (r2 : Int)) = ((addN (mulN r1 256) r2 : Nat) : Int) := by rw [← Int.natCast_add]; exact n_wrap (a := addN (mulN r1 256) r2) (by show r1 * 256 + r2 ≤ _; omega)
      have w3 : ((addN (mulN r1 256) r2 : Nat) : Int).tmod (n : Int) = ((modN (addN (mulN r1 256) r2) n : Nat) : Int) := rfl
      have w4 : ((addN (mulN r1 256) r2 : Nat) : Int) % (n : Int) = ((modN (addN (mulN r1 256) r2) n : Nat) : Int) := rfl
      have w5 : modN (addN (mulN r1 256) r2) n < n := Nat.mod_lt _ (by omega)
      refine ⟨modN (addN (mulN r1 256) r2) n, k + 2, m2, σ2, ?_, by omega, s2, Nat.le_refl _, by omega, fun c hc => (k2 c hc).trans (k1 c hc)⟩
      rw [cI_0 fn113 rfl md113, fi113]
      simp [xI_seq, xI_region, xI_ret, regA, regOps, runOps, opStep, wantedA, opA, evo, evos, calleeA, lk, nif_eq, putE, paramsE, valS, val2, keepE, restrict, finA, resA, binA, binInt, ofConst, ofConst1, loadA, TK.isAgg, asVar, unA, builtinA, lenOpA, lenA, ileb_cast, ileb_eq, ieqb_dec, indexAddrA, inB_dec, evPairs, storeA, AV.cellsOf, pairsOf, xI_nil, binBool, gcE, evOpt, xI_block, xI_loopH, xI_condM, xI_exitM, xI_skip, xI_blk, exitA, ty2, h1, h1', h0, h00, c1, h2, h2', w1, c2, w2, w3, w4]
    · have h2' : ¬ (200 : Int) < (n : Int) := by omega
      have w3 : (r1 : Int).tmod (n : Int) = ((modN r1 n : Nat) : Int) := rfl
      have w4 : (r1 : Int) % (n : Int) = ((modN r1 n : Nat) : Int) := rfl
      have w5 : modN r1 n < n := Nat.mod_lt _ (by omega)
      refine ⟨modN r1 n, k + 1, m1, σ1, ?_, by omega, s1, by omega, e1, k1⟩
      rw [cI_0 fn113 rfl md113, fi113]
      simp [xI_seq, xI_region, xI_ret, regA, regOps, runOps, opStep, wantedA, opA, evo, evos, calleeA, lk, nif_eq, putE, paramsE, valS, val2, keepE, restrict, finA, resA, binA, binInt, ofConst, ofConst1, loadA, TK.isAgg, asVar, unA, builtinA, lenOpA, lenA, ileb_cast, ileb_eq, ieqb_dec, indexAddrA, inB_dec, evPairs, storeA, AV.cellsOf, pairsOf, xI_nil, binBool, gcE, evOpt, xI_block, xI_loopH, xI_condM, xI_exitM, xI_skip, xI_blk, exitA, ty2, h1, h1', h0, h00, c1, h2, h2', w3, w4]

theorem c166 (l : List Nat) (hl : ∀ x ∈ l, x < 256) (hll : l.length ≤ 2000000) (k m : Nat) (hk : k ≤ 999000) (n : Nat) (hn : n ≤ 1000000) (σ : St) (s : Nat) (h : SRC σ s l k m) :
    ∃ (r : Bool) (k' m' : Nat) (σ' : St), callI TT 166 [.ptr s 0, .int .i64 n] σ = some (.bool r, σ') ∧ SRC σ' s l k' m' ∧ k' ≤ k + 2 ∧ σ'.n = σ.n ∧ ∀ c, c ≠ s → σ'.get c = σ.get c := by
  obtain ⟨r, k', m', σ', c1, _, s1, hk', hn', hc⟩ := c113 l hl hll k m hk n hn σ s h
  refine ⟨decide (r = 0), k', m', σ', ?_, s1, hk', hn', hc⟩
  rw [cI_0 fn166 rfl md166, fi166]
  simp [xI_seq, xI_region, xI_ret, regA, regOps, runOps, opStep, wantedA, opA, evo, evos, calleeA, lk, nif_eq, putE, paramsE, valS, val2, keepE, restrict, finA, resA, binA, binInt, ofConst, ofConst1, loadA, TK.isAgg, asVar, unA, builtinA, lenOpA, lenA, ileb_cast, ileb_eq, ieqb_dec, indexAddrA, inB_dec, evPairs, storeA, AV.cellsOf, pairsOf, xI_nil, binBool, gcE, evOpt, xI_block, xI_loopH, xI_condM, xI_exitM, xI_skip, xI_blk, exitA, ty2, c1]

theorem c112 (l : List Nat) (σ : St) : ∃ σ', callI TT 112 [.lst l.length (byts l)] σ = some (.ptr σ.n 0, σ') ∧ SRC σ' σ.n l 0 0 ∧ σ'.n = σ.n + 1 ∧ Old σ σ' := by
  refine ⟨σ.push ⟨[.lst l.length (byts l), .int .i64 0, .int .u64 0], 3, false⟩, ?_, ⟨Nat.lt_succ_self _, get_push_same, by decide⟩, rfl, Old.push⟩
  rw [cI_0 fn112 rfl md112, fi112]
  simp [xI_seq, xI_region, xI_ret, regA, regOps, runOps, opStep, wantedA, opA, evo, evos, calleeA, lk, nif_eq, putE, paramsE, valS, val2, keepE, restrict, finA, resA, binA, binInt, ofConst, ofConst1, loadA, TK.isAgg, asVar, unA, builtinA, lenOpA, lenA, ileb_cast, ileb_eq, ieqb_dec, indexAddrA, inB_dec, evPairs, storeA, AV.cellsOf, pairsOf, xI_nil, binBool, gcE, evOpt, xI_block, xI_loopH, xI_condM, xI_exitM, xI_skip, xI_blk, exitA, ty169, allOne, AV.one, buildA, sizesOf, fillA, putCells, fieldAddrA, allOne, AV.one, ty143, ty169, ty2, ty3, ty5, ty55]

noncomputable def b114 : Code := Try.f114.body.getD .skip
noncomputable def B114_0 : Code := (bodyC (bodyC (sndC (fstC (sndC (sndC (sndC (sndC b114))))))))
noncomputable def K114_0 : List It := .lp B114_0 :: .blk 0 :: .code (sndC (sndC (sndC (sndC (sndC b114))))) :: []
theorem xl114_0 {fi : FI} {env : Env} {σ : St} : exI TT fi K114_0 env σ = exI TT fi (.code B114_0 :: K114_0) env σ := by unfold K114_0; exact xI_lp
noncomputable def R114_0_0 : List It := .code (sndC (sndC (sndC (sndC (sndC b114))))) :: []
theorem eK114_0_0 : exitA 0 K114_0 = some R114_0_0 := rfl
noncomputable def B114_1 : Code := (bodyC (bodyC (sndC (fstC (sndC (sndC (sndC (sndC (sndC (sndC (sndC b114)))))))))))
noncomputable def K114_1 : List It := .lp B114_1 :: .blk 2 :: .code (sndC (sndC (sndC (sndC (sndC (sndC (sndC (sndC b114)))))))) :: []
theorem xl114_1 {fi : FI} {env : Env} {σ : St} : exI TT fi K114_1 env σ = exI TT fi (.code B114_1 :: K114_1) env σ := by unfold K114_1; exact xI_lp
noncomputable def R114_1_2 : List It := .code (sndC (sndC (sndC (sndC (sndC (sndC (sndC (sndC b114)))))))) :: []
theorem eK114_1_2 : exitA 2 K114_1 = some R114_1_2 := rfl
set_option maxHeartbeats 4000000 in
theorem s114y (s b m b2 m2 : Nat) (n a a2 z x : Int) (i : Nat) (σ σ1 σ2 σ3 σ4 : St) (hi : (i : Int) < n) (c1 : callI TT 113 [.ptr s 0, .int .i64 5] σ = some (.int .i64 x, σ1)) (c2 : callI TT 166 [.ptr s 0, .int .i64 z] σ1 = some (.bool true, σ2)) (c3 : buildSliceA TT σ2 48 1 [(0, .int .i64 0)] = some (.sl σ2.n 0 1 1, σ3)) (c4 : appendA TT σ3 48 48 (.sl b 0 m m) (.sl σ2.n 0 1 1) = some (.sl b2 0 m2 m2, σ4)) (ha : wrapA .i64 a = a2) (hw : wrapA .i64 ((i : Int) + 1) = (i : Int) + 1) :
    exI TT (FI.of Try.f114 (TT.an 114)) K114_0 [(0, .ptr s 0), (1, .int .i64 n), (5, .sl b 0 m m), (6, .int .i64 a), (7, .int .i64 z), (8, .int .i64 i)] σ = exI TT (FI.of Try.f114 (TT.an 114)) K114_0 [(0, .ptr s 0), (1, .int .i64 n), (5, .sl b2 0 m2 m2), (6, .int .i64 a2), (7, .int .i64 z), (8, .int .i64 ((i : Int) + 1))] σ4 := by
  rw [fi114]
  conv => lhs; rw [xl114_0]
  simp only [B114_0, b114, Try.f114, Option.getD, fstC, sndC, bodyC, thnC, elsC]
  simp (maxSteps := 1000000) (disch := omega) [eK114_0_0, eK114_1_2, getCells, takeN, dropN, fieldAddrA, allOne, AV.one, n_push, putN, overN, blt_dec, buildA, sizesOf, fillA, putCells, List.take_succ_cons, List.take_zero, List.drop_succ_cons, List.drop_zero, List.nil_append, List.cons_append, List.length_cons, List.length_nil, eqvs_dgs, convA, hi, c1, c2, c3, c4, ha, hw]
set_option maxHeartbeats 4000000 in
theorem s114k (s b m b2 m2 : Nat) (n a a2 z x : Int) (i : Nat) (σ σ1 σ2 σ3 σ4 : St) (hi : (i : Int) < n) (c1 : callI TT 113 [.ptr s 0, .int .i64 5] σ = some (.int .i64 x, σ1)) (c2 : callI TT 166 [.ptr s 0, .int .i64 z] σ1 = some (.bool false, σ2)) (c3 : buildSliceA TT σ2 48 1 [(0, .int .i64 x)] = some (.sl σ2.n 0 1 1, σ3)) (c4 : appendA TT σ3 48 48 (.sl b 0 m m) (.sl σ2.n 0 1 1) = some (.sl b2 0 m2 m2, σ4)) (ha : wrapA .i64 (a + x) = a2) (hw : wrapA .i64 ((i : Int) + 1) = (i : Int) + 1) :
    exI TT (FI.of Try.f114 (TT.an 114)) K114_0 [(0, .ptr s 0), (1, .int .i64 n), (5, .sl b 0 m m), (6, .int .i64 a), (7, .int .i64 z), (8, .int .i64 i)] σ = exI TT (FI.of Try.f114 (TT.an 114)) K114_0 [(0, .ptr s 0), (1, .int .i64 n), (5, .sl b2 0 m2 m2), (6, .int .i64 a2), (7, .int .i64 z), (8, .int .i64 ((i : Int) + 1))] σ4 := by
  rw [fi114]
  conv => lhs; rw [xl114_0]
  simp only [B114_0, b114, Try.f114, Option.getD, fstC, sndC, bodyC, thnC, elsC]
  simp (maxSteps := 1000000) (disch := omega) [eK114_0_0, eK114_1_2, getCells, takeN, dropN, fieldAddrA, allOne, AV.one, n_push, putN, overN, blt_dec, buildA, sizesOf, fillA, putCells, List.take_succ_cons, List.take_zero, List.drop_succ_cons, List.drop_zero, List.nil_append, List.cons_append, List.length_cons, List.length_nil, eqvs_dgs, convA, hi, c1, c2, c3, c4, ha, hw]
set_option maxHeartbeats 4000000 in
theorem e114p (s b m : Nat) (n a z : Int) (i : Nat) (σ σ1 : St) (hi : n = i) (ha : ¬ a = 0) (c1 : buildSliceA TT σ 25 0 [] = some (.sl σ.n 0 0 0, σ1)) :
    exI TT (FI.of Try.f114 (TT.an 114)) K114_0 [(0, .ptr s 0), (1, .int .i64 n), (5, .sl b 0 m m), (6, .int .i64 a), (7, .int .i64 z), (8, .int .i64 i)] σ = exI TT (FI.of Try.f114 (TT.an 114)) K114_1 [(1, .int .i64 n), (5, .sl b 0 m m), (6, .int .i64 a), (10, .sl σ.n 0 0 0), (11, .int .i64 0)] σ1 := by
  rw [fi114]
  conv => lhs; rw [xl114_0]
  simp only [B114_0, b114, Try.f114, Option.getD, fstC, sndC, bodyC, thnC, elsC]
  simp (maxSteps := 1000000) (disch := omega) [eK114_0_0, eK114_1_2, getCells, takeN, dropN, fieldAddrA, allOne, AV.one, n_push, putN, overN, blt_dec, buildA, sizesOf, fillA, putCells, List.take_succ_cons, List.take_zero, List.drop_succ_cons, List.drop_zero, List.nil_append, List.cons_append, List.length_cons, List.length_nil, eqvs_dgs, convA, hi, ha, c1]
  simp only [R114_0_0, b114, Try.f114, Option.getD, fstC, sndC, bodyC, thnC, elsC]
  simp (maxSteps := 1000000) (disch := omega) [eK114_0_0, eK114_1_2, getCells, takeN, dropN, fieldAddrA, allOne, AV.one, n_push, putN, overN, blt_dec, buildA, sizesOf, fillA, putCells, List.take_succ_cons, List.take_zero, List.drop_succ_cons, List.drop_zero, List.nil_append, List.cons_append, List.length_cons, List.length_nil, eqvs_dgs, convA, hi, ha, c1]
  rfl
set_option maxHeartbeats 4000000 in
theorem e114z (s b m r : Nat) (n z : Int) (i : Nat) (σ σ1 σ2 σ3 : St) (hi : n = i) (c0 : callI TT 113 [.ptr s 0, .int .i64 i] σ = some (.int .i64 r, σ1)) (hr : r < m) (s1 : storeCellsA σ1 b r [.int .i64 1] = some σ2) (c1 : buildSliceA TT σ2 25 0 [] = some (.sl σ2.n 0 0 0, σ3)) :
    exI TT (FI.of Try.f114 (TT.an 114)) K114_0 [(0, .ptr s 0), (1, .int .i64 n), (5, .sl b 0 m m), (6, .int .i64 0), (7, .int .i64 z), (8, .int .i64 i)] σ = exI TT (FI.of Try.f114 (TT.an 114)) K114_1 [(1, .int .i64 n), (5, .sl b 0 m m), (6, .int .i64 1), (10, .sl σ2.n 0 0 0), (11, .int .i64 0)] σ3 := by
  rw [fi114]
  conv => lhs; rw [xl114_0]
  simp only [B114_0, b114, Try.f114, Option.getD, fstC, sndC, bodyC, thnC, elsC]
  simp (maxSteps := 1000000) (disch := omega) [eK114_0_0, eK114_1_2, getCells, takeN, dropN, fieldAddrA, allOne, AV.one, n_push, putN, overN, blt_dec, buildA, sizesOf, fillA, putCells, List.take_succ_cons, List.take_zero, List.drop_succ_cons, List.drop_zero, List.nil_append, List.cons_append, List.length_cons, List.length_nil, eqvs_dgs, convA, hi, c0, hr, s1, c1]
  simp only [R114_0_0, b114, Try.f114, Option.getD, fstC, sndC, bodyC, thnC, elsC]
  simp (maxSteps := 1000000) (disch := omega) [eK114_0_0, eK114_1_2, getCells, takeN, dropN, fieldAddrA, allOne, AV.one, n_push, putN, overN, blt_dec, buildA, sizesOf, fillA, putCells, List.take_succ_cons, List.take_zero, List.drop_succ_cons, List.drop_zero, List.nil_append, List.cons_append, List.length_cons, List.length_nil, eqvs_dgs, convA, hi, c0, hr, s1, c1]
  rfl
set_option maxHeartbeats 4000000 in
theorem t114 (b m d j d2 j2 : Nat) (n a w x y : Int) (i : Nat) (σ σ1 σ2 : St) (hi : (i : Int) < n) (him : i < m) (l1 : cellsAt σ (.ptr b i) 1 = some [.int .i64 w]) (c1 : callI TT 100 [.int .i64 w, .int .i64 a] σ = some (.agg [.int .i64 x, .int .i64 y], σ)) (c2 : buildSliceA TT σ 25 1 [(0, .agg [.int .i64 x, .int .i64 y])] = some (.sl σ.n 0 1 1, σ1)) (c3 : appendA TT σ1 25 25 (.sl d 0 j j) (.sl σ.n 0 1 1) = some (.sl d2 0 j2 j2, σ2)) (hw : wrapA .i64 ((i : Int) + 1) = (i : Int) + 1) :
    exI TT (FI.of Try.f114 (TT.an 114)) K114_1 [(1, .int .i64 n), (5, .sl b 0 m m), (6, .int .i64 a), (10, .sl d 0 j j), (11, .int .i64 i)] σ = exI TT (FI.of Try.f114 (TT.an 114)) K114_1 [(1, .int .i64 n), (5, .sl b 0 m m), (6, .int .i64 a), (10, .sl d2 0 j2 j2), (11, .int .i64 ((i : Int) + 1))] σ2 := by
  rw [fi114]
  conv => lhs; rw [xl114_1]
  simp only [B114_1, b114, Try.f114, Option.getD, fstC, sndC, bodyC, thnC, elsC]
  simp (maxSteps := 1000000) (disch := omega) [eK114_0_0, eK114_1_2, getCells, takeN, dropN, fieldAddrA, allOne, AV.one, n_push, putN, overN, blt_dec, buildA, sizesOf, fillA, putCells, List.take_succ_cons, List.take_zero, List.drop_succ_cons, List.drop_zero, List.nil_append, List.cons_append, List.length_cons, List.length_nil, eqvs_dgs, convA, hi, him, l1, c1, c2, c3, hw]
set_option maxHeartbeats 4000000 in
theorem u114 (b m d j : Nat) (n a : Int) (i : Nat) (σ : St) (hi : n = i) :
    exI TT (FI.of Try.f114 (TT.an 114)) K114_1 [(1, .int .i64 n), (5, .sl b 0 m m), (6, .int .i64 a), (10, .sl d 0 j j), (11, .int .i64 i)] σ = some (.sl d 0 j j, σ) := by
  rw [fi114]
  conv => lhs; rw [xl114_1]
  simp only [B114_1, b114, Try.f114, Option.getD, fstC, sndC, bodyC, thnC, elsC]
  simp (maxSteps := 1000000) (disch := omega) [eK114_0_0, eK114_1_2, getCells, takeN, dropN, fieldAddrA, allOne, AV.one, n_push, putN, overN, blt_dec, buildA, sizesOf, fillA, putCells, List.take_succ_cons, List.take_zero, List.drop_succ_cons, List.drop_zero, List.nil_append, List.cons_append, List.length_cons, List.length_nil, eqvs_dgs, convA, hi]
  simp only [R114_1_2, b114, Try.f114, Option.getD, fstC, sndC, bodyC, thnC, elsC]
  simp (maxSteps := 1000000) (disch := omega) [eK114_0_0, eK114_1_2, getCells, takeN, dropN, fieldAddrA, allOne, AV.one, n_push, putN, overN, blt_dec, buildA, sizesOf, fillA, putCells, List.take_succ_cons, List.take_zero, List.drop_succ_cons, List.drop_zero, List.nil_append, List.cons_append, List.length_cons, List.length_nil, eqvs_dgs, convA, hi]
set_option maxHeartbeats 4000000 in
theorem b114e (s z : Nat) (n : Int) (σ σ1 σ2 : St) (c1 : buildSliceA TT σ 48 0 [] = some (.sl σ.n 0 0 0, σ1)) (c2 : callI TT 113 [.ptr s 0, .int .i64 4] σ1 = some (.int .i64 z, σ2)) (hz : wrapA .i64 (1 + (z : Int)) = 1 + (z : Int)) :
    exI TT (FI.of Try.f114 (TT.an 114)) [.code b114] (paramsE 0 [.ptr s 0, .int .i64 n]) σ = exI TT (FI.of Try.f114 (TT.an 114)) K114_0 [(0, .ptr s 0), (1, .int .i64 n), (5, .sl σ.n 0 0 0), (6, .int .i64 0), (7, .int .i64 (1 + (z : Int))), (8, .int .i64 0)] σ2 := by
  rw [fi114]
  simp only [b114, Try.f114, Option.getD, fstC, sndC, bodyC, thnC, elsC]
  simp (maxSteps := 1000000) (disch := omega) [eK114_0_0, eK114_1_2, getCells, takeN, dropN, fieldAddrA, allOne, AV.one, n_push, putN, overN, blt_dec, buildA, sizesOf, fillA, putCells, List.take_succ_cons, List.take_zero, List.drop_succ_cons, List.drop_zero, List.nil_append, List.cons_append, List.length_cons, List.length_nil, eqvs_dgs, convA, c1, c2, hz]
  rfl
/-- The weights of drawn chances as numbers. -/
def wints (ws : List Nat) : List Int := ws.map fun (x : Nat) => (x : Int)
/-- Drawn chances. -/
def chsL (ws : List Nat) : List (Int × Int) := ws.map fun (x : Nat) => ((mkRat x ws.sum).num, ((mkRat x ws.sum).den : Int))
def chsT (T : Nat) (ws : List Nat) : List (Int × Int) := ws.map fun (x : Nat) => ((mkRat x T).num, ((mkRat x T).den : Int))
def W4 (ws : List Nat) : Prop := ∀ x ∈ ws, x ≤ 4
theorem W4.sum : ∀ {ws : List Nat}, W4 ws → ws.sum ≤ 4 * ws.length
  | [], _ => by simp
  | x :: r, h => by
    have h1 := h x (by simp)
    have h2 := W4.sum (ws := r) fun y hy => h y (by simp [hy])
    simp only [List.sum_cons, List.length_cons]; omega
theorem l114A (l : List Nat) (hl : ∀ x ∈ l, x < 256) (hll : l.length ≤ 2000000) (s n z : Nat) (hz : z ≤ 100) (hn : n ≤ 16) : ∀ (m i : Nat) (ws : List Nat) (b k mm : Nat) (σ : St), i + m = n → ws.length = i → W4 ws → Row σ b (wints ws) → b ≠ s → SRC σ s l k mm → k + 4 * m ≤ 900000 →
    ∃ ws' b' k' mm' σ', exI TT (FI.of Try.f114 (TT.an 114)) K114_0 [(0, .ptr s 0), (1, .int .i64 n), (5, .sl b 0 i i), (6, .int .i64 ws.sum), (7, .int .i64 z), (8, .int .i64 i)] σ = exI TT (FI.of Try.f114 (TT.an 114)) K114_0 [(0, .ptr s 0), (1, .int .i64 n), (5, .sl b' 0 n n), (6, .int .i64 ws'.sum), (7, .int .i64 z), (8, .int .i64 n)] σ' ∧ ws'.length = n ∧ W4 ws' ∧ Row σ' b' (wints ws') ∧ b' ≠ s ∧ SRC σ' s l k' mm' ∧ k' ≤ k + 4 * m ∧ σ.n ≤ σ'.n ∧ (b = b' ∨ σ.n ≤ b') ∧ ∀ c, c ≠ s → c ≠ b → c < σ.n → σ'.get c = σ.get c := by
  intro m
  induction m with
  | zero =>
    intro i ws b k mm σ hi hw h4 hr hbs hs hk
    obtain rfl : i = n := by omega
    exact ⟨ws, b, k, mm, σ, rfl, hw, h4, hr, hbs, hs, by omega, Nat.le_refl _, .inl rfl, fun _ _ _ _ => rfl⟩
  | succ m ih =>
    intro i ws b k mm σ hi hw h4 hr hbs hs hk
    obtain ⟨x, k1, m1, σ1, c1, hx, s1, hk1, n1, o1⟩ := c113 l hl hll k mm (by omega) 5 (by decide) σ s hs
    obtain ⟨y, k2, m2, σ2, c2, s2, hk2, n2, o2⟩ := c166 l hl hll k1 m1 (by omega) z (by omega) σ1 s s1
    have hr2 : Row σ2 b (wints ws) := (hr.keep (Nat.le_of_eq n1.symm) (o1 b hbs)).keep (Nat.le_of_eq n2.symm) (o2 b hbs)
    have hi1 : ((i + 1 : Nat) : Int) = (i : Int) + 1 := by omega
    have hw1 : wrapA .i64 ((i : Int) + 1) = (i : Int) + 1 := wrapA_id (by omega) (by omega)
    have hsum := h4.sum
    have step : ∀ v : Nat, v ≤ 4 → ∃ σ4, buildSliceA TT σ2 48 1 [(0, .int .i64 v)] = some (.sl σ2.n 0 1 1, σ2.push ⟨[.int .i64 v], 1, false⟩) ∧ appendA TT (σ2.push ⟨[.int .i64 v], 1, false⟩) 48 48 (.sl b 0 i i) (.sl σ2.n 0 1 1) = some (.sl (σ2.n + 1) 0 (i + 1) (i + 1), σ4) ∧ Row σ4 (σ2.n + 1) (wints (ws ++ [v])) ∧ σ4.n = σ2.n + 2 ∧ (∀ c, c ≠ b → c < σ2.n → σ4.get c = σ2.get c) := by
      intro v hv
      obtain ⟨σ4, a1, a2, a3, a4⟩ := append_row (T := TT) (st := 48) (x := (v : Int)) ty48 ty2 hr2 (n := i) (by simp [wints, hw]) (by omega)
      refine ⟨σ4, build_one ty48 ty2, a1, ?_, a3, a4⟩
      have : wints (ws ++ [v]) = wints ws ++ [(v : Int)] := by simp [wints]
      rw [this]; exact a2
    have fin : ∀ (v : Nat), v ≤ 4 → ∀ σ4, Row σ4 (σ2.n + 1) (wints (ws ++ [v])) → σ4.n = σ2.n + 2 → (∀ c, c ≠ b → c < σ2.n → σ4.get c = σ2.get c) → exI TT (FI.of Try.f114 (TT.an 114)) K114_0 [(0, .ptr s 0), (1, .int .i64 n), (5, .sl b 0 i i), (6, .int .i64 ws.sum), (7, .int .i64 z), (8, .int .i64 i)] σ = exI TT (FI.of Try.f114 (TT.an 114)) K114_0 [(0, .ptr s 0), (1, .int .i64 n), (5, .sl (σ2.n + 1) 0 (i + 1) (i + 1)), (6, .int .i64 (ws ++ [v]).sum), (7, .int .i64 z), (8, .int .i64 ((i : Int) + 1))] σ4 →
        ∃ ws' b' k' mm' σ', exI TT (FI.of Try.f114 (TT.an 114)) K114_0 [(0, .ptr s 0), (1, .int .i64 n), (5, .sl b 0 i i), (6, .int .i64 ws.sum), (7, .int .i64 z), (8, .int .i64 i)] σ = exI TT (FI.of Try.f114 (TT.an 114)) K114_0 [(0, .ptr s 0), (1, .int .i64 n), (5, .sl b' 0 n n), (6, .int .i64 ws'.sum), (7, .int .i64 z), (8, .int .i64 n)] σ' ∧ ws'.length = n ∧ W4 ws' ∧ Row σ' b' (wints ws') ∧ b' ≠ s ∧ SRC σ' s l k' mm' ∧ k' ≤ k + 4 * (m + 1) ∧ σ.n ≤ σ'.n ∧ (b = b' ∨ σ.n ≤ b') ∧ ∀ c, c ≠ s → c ≠ b → c < σ.n → σ'.get c = σ.get c := by
      intro v hv σ4 a2 a3 a4 he
      have hsl := s2.1
      have s4 : SRC σ4 s l k2 m2 := ⟨by omega, by rw [a4 s (fun e => hbs e.symm) hsl]; exact s2.2.1, s2.2.2⟩
      obtain ⟨ws', b', k', mm', σ', e1, e2, e3, e4, e5, e6, e7, e8, e9, e10⟩ := ih (i + 1) (ws ++ [v]) (σ2.n + 1) k2 m2 σ4 (by omega) (by simp [hw]) (fun x hx => by
        rcases List.mem_append.1 hx with hx | hx
        · exact h4 x hx
        · rw [List.mem_singleton.1 hx]; exact hv) a2 (by omega) s4 (by omega)
      rw [hi1] at e1
      refine ⟨ws', b', k', mm', σ', he.trans e1, e2, e3, e4, e5, e6, by omega, by omega, .inr ?_, fun c hc hcb hcn => ?_⟩
      · rcases e9 with e9 | e9 <;> omega
      · rw [e10 c hc (by omega) (by omega), a4 c hcb (by omega), o2 c hc, o1 c hc]
    cases y with
    | true =>
      obtain ⟨σ4, b1, b2, b3, b4, b5⟩ := step 0 (by decide)
      refine fin 0 (by decide) σ4 b3 b4 b5 ?_
      exact s114y s b i (σ2.n + 1) (i + 1) n _ _ z x i σ σ1 σ2 _ σ4 (by omega) c1 c2 b1 b2 (by rw [List.sum_append]; simp only [List.sum_cons, List.sum_nil, Nat.add_zero]; exact wrapA_id (by omega) (by omega)) hw1
    | false =>
      have hx4 : x ≤ 4 := by omega
      obtain ⟨σ4, b1, b2, b3, b4, b5⟩ := step x hx4
      refine fin x hx4 σ4 b3 b4 b5 ?_
      exact s114k s b i (σ2.n + 1) (i + 1) n _ _ z x i σ σ1 σ2 _ σ4 (by omega) c1 c2 b1 b2 (by rw [List.sum_append]; simp only [List.sum_cons, List.sum_nil, Nat.add_zero, Int.natCast_add]; exact wrapA_id (by omega) (by omega)) hw1
theorem l114B (n T : Nat) (hn : n ≤ 16) (hT : 1 ≤ T) (hT2 : T ≤ 100) (ws : List Nat) (hw : ws.length = n) (h4 : W4 ws) (b : Nat) : ∀ (m i d : Nat) (σ : St), i + m = n → Row σ b (wints ws) → RowE σ d 2 (flat FC (chsT T (ws.take i))) → d ≠ b →
    ∃ d' σ', exI TT (FI.of Try.f114 (TT.an 114)) K114_1 [(1, .int .i64 n), (5, .sl b 0 n n), (6, .int .i64 T), (10, .sl d 0 i i), (11, .int .i64 i)] σ = some (.sl d' 0 n n, σ') ∧ RowE σ' d' 2 (flat FC (chsT T ws)) ∧ σ.n ≤ σ'.n ∧ (d = d' ∨ σ.n ≤ d') ∧ ∀ c, c ≠ d → c < σ.n → σ'.get c = σ.get c := by
  intro m
  induction m with
  | zero =>
    intro i d σ hi hr hd hdb
    obtain rfl : i = n := by omega
    rw [← hw, List.take_of_length_le (Nat.le_refl _)] at hd
    exact ⟨d, σ, u114 b i d i i T i σ rfl, hd, Nat.le_refl _, .inl rfl, fun _ _ _ => rfl⟩
  | succ m ih =>
    intro i d σ hi hr hd hdb
    have hil : i < ws.length := by omega
    have hi1 : ((i + 1 : Nat) : Int) = (i : Int) + 1 := by omega
    have hx := h4 _ (List.getElem_mem hil)
    have l1 : cellsAt σ (.ptr b i) 1 = some [.int .i64 (ws[i] : Nat)] := hr.read (by simp [wints, hil])
    have c1 := v100 (ws[i] : Nat) T (by omega) (by omega) hT (by omega) σ [.int .i64 (ws[i] : Nat), .int .i64 T] rfl
    have c2 := build_el (T := TT) (σ := σ) (st := 25) (w := [.int .i64 (mkRat (ws[i] : Nat) T).num, .int .i64 (mkRat (ws[i] : Nat) T).den]) ty25 ty41 (by decide) rfl rfl rfl
    obtain ⟨σ2, a1, a2, a3⟩ := append_el (T := TT) (st := 25) (n := i) (w := [.int .i64 (mkRat (ws[i] : Nat) T).num, .int .i64 (mkRat (ws[i] : Nat) T).den]) ty25 ty41 (fun _ _ => trivial) (by decide) rfl rfl (by rw [flat_len FC_len]; simp [chsT]; omega) hd (by omega)
    have e : flat FC (chsT T (ws.take i)) ++ [.int .i64 (mkRat (ws[i] : Nat) T).num, .int .i64 (mkRat (ws[i] : Nat) T).den] = flat FC (chsT T (ws.take (i + 1))) := by
      rw [List.take_succ_eq_append_getElem hil, chsT, chsT, List.map_append, flat_app]; simp [flat, FC]
    rw [e] at a2
    have hbl := hr.lt
    have hlt2 := a2.lt
    have hr2 : Row σ2 b (wints ws) := hr.keep (by omega) (a3 b (fun h => hdb h.symm) hbl)
    obtain ⟨d', σ', k1, k2, k3, k4, k5⟩ := ih (i + 1) (σ.n + 1) σ2 (by omega) hr2 a2 (by omega)
    rw [hi1] at k1
    refine ⟨d', σ', ?_, k2, by omega, .inr (by rcases k4 with h | h <;> omega), fun c hc hcn => by rw [k5 c (by omega) (by omega), a3 c hc hcn]⟩
    rw [← k1]
    exact t114 b n d i (σ.n + 1) (i + 1) n T _ _ _ i σ _ σ2 (by omega) (by omega) l1 c1 c2 a1 (wrapA_id (by omega) (by omega))
theorem c114 (l : List Nat) (hl : ∀ x ∈ l, x < 256) (hll : l.length ≤ 2000000) (k mm n : Nat) (hk : k ≤ 800000) (hn1 : 1 ≤ n) (hn : n ≤ 16) (σ : St) (s : Nat) (h : SRC σ s l k mm) :
    ∃ ws d k' mm' σ', callI TT 114 [.ptr s 0, .int .i64 n] σ = some (.sl d 0 n n, σ') ∧ ws.length = n ∧ W4 ws ∧ 1 ≤ ws.sum ∧ RowE σ' d 2 (flat FC (chsL ws)) ∧ SRC σ' s l k' mm' ∧ k' ≤ k + 100 ∧ σ.n ≤ σ'.n ∧ σ.n ≤ d ∧ ∀ c, c ≠ s → c < σ.n → σ'.get c = σ.get c := by
  have hb := build_nil (T := TT) (σ := σ) (st := 48) ty48 ty2
  have hsl := h.1
  have h1 : SRC (σ.push ⟨ints [], 1, false⟩) s l k mm := ⟨by show s < σ.n + 1; omega, by rw [get_push_lt hsl]; exact h.2.1, h.2.2⟩
  obtain ⟨z, k1, m1, σ2, c1, hz, s2, hk1, n2, o2⟩ := c113 l hl hll k mm (by omega) 4 (by decide) _ s h1
  have hn2 : σ2.n = σ.n + 1 := n2
  have hr0 : Row σ2 σ.n (wints []) := by
    have : Row (σ.push ⟨ints [], 1, false⟩) σ.n [] := Row.push
    exact this.keep (Nat.le_of_eq n2.symm) (o2 σ.n (by omega))
  obtain ⟨ws, b, k2, m2, σ3, e1, e2, e3, e4, e5, e6, e7, e8, e9, e10⟩ := l114A l hl hll s n (1 + z) (by omega) hn n 0 [] σ.n k1 m1 σ2 (by omega) rfl (by intro x hx; cases hx) hr0 (by omega) s2 (by omega)
  have hbeg := b114e s z n σ _ σ2 hb c1 (wrapA_id (by omega) (by omega))
  have hcast : (1 + (z : Int)) = ((1 + z : Nat) : Int) := by omega
  rw [hcast] at hbeg
  have hbn : σ.n ≤ b := by rcases e9 with h | h <;> omega
  have hbl := e4.lt
  rw [cI_0 (c := b114) fn114 rfl md114]
  by_cases hz0 : ws.sum = 0
  · obtain ⟨r, k3, m3, σ4, c4, hr, s4, hk3, n4, o4⟩ := c113 l hl hll k2 m2 (by omega) n (by omega) σ3 s e6
    have hr4 : Row σ4 b (wints ws) := e4.keep (Nat.le_of_eq n4.symm) (o4 b e5)
    have hrn : r < n := by omega
    obtain ⟨σ5, t1, t2, t3, t4⟩ := store_row (i := r) (x := (1 : Int)) hr4 (by simp [wints, e2]; exact hrn)
    have hws : ∀ x ∈ ws, x = 0 := fun x hx => by
      have : ∀ (l : List Nat), l.sum = 0 → ∀ x ∈ l, x = 0 := by
        intro l
        induction l with
        | nil => intro _ x hx; cases hx
        | cons y r ih =>
          intro h x hx
          simp only [List.sum_cons] at h
          rcases List.mem_cons.1 hx with rfl | hx
          · omega
          · exact ih (by omega) x hx
      exact this ws hz0 x hx
    have hset : (wints ws).set r 1 = wints (ws.set r 1) := by simp [wints, List.map_set]
    rw [hset] at t2
    have h4' : W4 (ws.set r 1) := fun x hx => by
      rcases List.mem_or_eq_of_mem_set hx with hx | hx
      · exact e3 x hx
      · omega
    have hsum : (ws.set r 1).sum = 1 := by
      have : ∀ (l : List Nat) (r : Nat), r < l.length → (∀ x ∈ l, x = 0) → (l.set r 1).sum = 1 := by
        intro l
        induction l with
        | nil => intro r h; simp at h
        | cons y t ih =>
          intro r h hz
          have hs0 : ∀ (l : List Nat), (∀ x ∈ l, x = 0) → l.sum = 0 := by
            intro l
            induction l with
            | nil => intro _; rfl
            | cons y r ih => intro h; rw [List.sum_cons, h y (by simp), ih fun x hx => h x (by simp [hx])]
          cases r with
          | zero => simp only [List.set_cons_zero, List.sum_cons]; rw [hs0 t fun x hx => hz x (by simp [hx])]
          | succ r => simp only [List.set_cons_succ, List.sum_cons]; rw [hz y (by simp), ih r (by simpa using h) fun x hx => hz x (by simp [hx])]
      exact this ws r (by omega) hws
    have hσ5 := t3
    have c5 := build_e0 (T := TT) (σ := σ5) (st := 25) ty25 ty41
    obtain ⟨d, σ', g1, g2, g3, g4, g5⟩ := l114B n 1 hn (by decide) (by decide) (ws.set r 1) (by simp [e2]) h4' b n 0 σ5.n (σ5.push ⟨[], 2, false⟩) (by omega) (t2.keep (Nat.le_succ _) (get_push_lt (by omega))) (RowE.push (σ := σ5) (cs := []) (e := 2) (o := false)) (by omega)
    rw [hz0] at e1
    refine ⟨ws.set r 1, d, k3, m3, σ', ?_, by simp [e2], h4', by omega, ?_, ?_, by omega, ?_, ?_, ?_⟩
    · refine hbeg.trans ?_
      refine Eq.trans e1 ?_
      refine Eq.trans ?_ g1
      exact e114z s b n r n _ n σ3 σ4 σ5 _ rfl c4 hrn t1 c5
    · rw [chsL, hsum]; exact g2
    · have hs5 : σ5.get s = σ4.get s := t4 s (fun e => e5 e.symm)
      have hsl4 := s4.1
      exact ⟨by have := g3; simp only [n_push] at this; omega, by rw [g5 s (by omega) (by simp only [n_push]; omega), get_push_lt (by omega), hs5]; exact s4.2.1, s4.2.2⟩
    · have := g3; simp only [n_push] at this; omega
    · rcases g4 with g4 | g4
      · omega
      · simp only [n_push] at g4; omega
    · intro c hc hcn
      rw [g5 c (by omega) (by simp only [n_push]; omega), get_push_lt (by omega), t4 c (by omega), o4 c hc, e10 c hc (by omega) (by omega), o2 c hc, get_push_lt hcn]
  · have c5 := build_e0 (T := TT) (σ := σ3) (st := 25) ty25 ty41
    have hs4 := e3.sum
    obtain ⟨d, σ', g1, g2, g3, g4, g5⟩ := l114B n ws.sum hn (by omega) (by omega) ws e2 e3 b n 0 σ3.n (σ3.push ⟨[], 2, false⟩) (by omega) (e4.keep (Nat.le_succ _) (get_push_lt (by omega))) (RowE.push (σ := σ3) (cs := []) (e := 2) (o := false)) (by omega)
    refine ⟨ws, d, k2, m2, σ', ?_, e2, e3, by omega, g2, ?_, by omega, ?_, ?_, ?_⟩
    · refine hbeg.trans ?_
      refine Eq.trans e1 ?_
      refine Eq.trans ?_ g1
      exact e114p s b n n _ _ n σ3 _ rfl (by omega) c5
    · have hsl6 := e6.1
      exact ⟨by have := g3; simp only [n_push] at this; omega, by rw [g5 s (by omega) (by simp only [n_push]; omega), get_push_lt (by omega)]; exact e6.2.1, e6.2.2⟩
    · have := g3; simp only [n_push] at this; omega
    · rcases g4 with g4 | g4
      · omega
      · simp only [n_push] at g4; omega
    · intro c hc hcn
      rw [g5 c (by omega) (by simp only [n_push]; omega), get_push_lt (by omega), e10 c hc (by omega) (by omega), o2 c hc, get_push_lt hcn]

theorem chsL_len (ws : List Nat) : (chsL ws).length = ws.length := by simp [chsL]
theorem FC_frz' (σ : St) (d : Nat) (l : List (Int × Int)) : mapO (frzV σ (d + 1)) (flat FC l) = some (flat FC l) := flat_frz (fun x => FC_frz σ d x) l
/-- Weights of drawn chances. -/
def Wts (n : Nat) (ws : List Nat) : Prop := ws.length = n ∧ W4 ws ∧ 1 ≤ ws.sum
set_option maxHeartbeats 4000000 in
theorem k191 (a b : Int) (h l : Int) (c1 : ∀ σ, callI TT 188 [.int .u64 a, .int .u64 b] σ = some (.tup [.int .u64 h, .int .u64 l], σ)) :
    ∃ σ', exI TT (FI.of Try.f191 (TT.an 191)) [.code (Try.f191.body.getD .skip)] (paramsE 0 [.int .u64 a, .int .u64 b]) ⟨[], 0⟩ = some (.tup [.int .u64 h, .int .u64 l], σ') := by
  refine ex1 ?_
  rw [fi191]
  simp only [Try.f191, Option.getD]
  simp (maxSteps := 1000000) (disch := omega) [cellsAt, getCells, takeN, dropN, fieldAddrA, allOne, AV.one, n_push, storeCellsA, putN, overN, St.push, St.get, St.set, hget, hset, blt_dec, buildA, sizesOf, fillA, putCells, List.take_succ_cons, List.take_zero, List.drop_succ_cons, List.drop_zero, List.nil_append, List.cons_append, List.length_cons, List.length_nil, eqvs_dgs, convA, c1]
theorem r191 (a b : Nat) (ha : a < 144115188075855872) (hb : b < 64) : FnV TT 191 [.int .u64 a, .int .u64 b] (.tup [.int .u64 0, .int .u64 ((a * b : Nat) : Int)]) :=
  FnV.mk fn191 rfl md191 (k191 _ _ _ _ (fun σ => c188 a b ha hb σ)) (fun _ => rfl) rfl
theorem repeat_add (z : List AV) : ∀ a b : Nat, repeatCells z (a + b) = repeatCells z a ++ repeatCells z b
  | 0, b => by rw [Nat.zero_add]; rfl
  | a + 1, b => by rw [show a + 1 + b = (a + b) + 1 by omega, repeatCells, repeatCells, repeat_add z a b, List.append_assoc]
theorem repeat_len (z : List AV) : ∀ a : Nat, (repeatCells z a).length = a * z.length
  | 0 => by simp [repeatCells]
  | a + 1 => by rw [repeatCells, List.length_append, repeat_len z a, Nat.add_mul]; omega
def repQ (q : Rat) (n : Nat) : List Rat := List.replicate n q
/-- A row of ratios, filled up to a place. -/
def filled (q : Rat) (k m : Nat) : List AV := flat RC (repQ q k) ++ repeatCells [.bool false, .nilS, .nilS] m
theorem filled_len (q : Rat) (k m : Nat) : (filled q k m).length = (k + m) * 3 := by
  rw [filled, List.length_append, flat_len RC_len, repeat_len]; simp [repQ]; omega
theorem rep_app (q : Rat) (a b : Nat) : flat RC (repQ q (a + b)) = flat RC (repQ q a) ++ flat RC (repQ q b) := by
  rw [← flat_app, repQ, repQ, repQ, List.replicate_append_replicate]
theorem put_filled (q : Rat) (k c m : Nat) : putCells (filled q k (c + m)) (k * 3) (flat RC (repQ q c)) = filled q (k + c) m := by
  have hl : (flat RC (repQ q k)).length = k * 3 := by rw [flat_len RC_len]; simp [repQ]
  have := put_el (pre := flat RC (repQ q k)) (z := repeatCells [.bool false, .nilS, .nilS] c) (w := flat RC (repQ q c)) (suf := repeatCells [.bool false, .nilS, .nilS] m) (by rw [repeat_len, flat_len RC_len]; simp [repQ])
  rw [hl] at this
  rw [filled, repeat_add, this, filled, rep_app, List.append_assoc]
theorem rep_one (q : Rat) (n : Nat) : allOne (flat RC (repQ q n)) = true := flat_one RC_one _
theorem copy_rep {σ : St} {b k c m n : Nat} {q : Rat} (h : RowE σ b 3 (filled q k (c + m))) (hc : c ≤ k) (hn : n = c + m) : ∃ σ', copyA TT σ 104 (.sl b (k * 3) n n) (.sl b 0 k (k + n)) = some (.int .i64 (Nat.min k n), σ') ∧ (Nat.min k n = c → RowE σ' b 3 (filled q (k + c) m) ∧ But b σ σ') := by
  have hcells : ∀ j, j ≤ k → firstA σ 3 j (.sl b 0 k (k + n)) = some (flat RC (repQ q j)) := fun j hj => by
    obtain ⟨o, hg, _⟩ := h
    simp only [firstA, hg]
    have e : filled q k (c + m) = flat RC (repQ q j) ++ (flat RC (repQ q (k - j)) ++ repeatCells [.bool false, .nilS, .nilS] (c + m)) := by
      rw [filled, show k = j + (k - j) by omega, rep_app, List.append_assoc]; simp
    rw [e, getCells_eq, if_pos (by rw [List.length_append, flat_len RC_len]; simp [repQ]), List.drop_zero, List.take_left' (by rw [flat_len RC_len]; simp [repQ])]
  have hmin : Nat.min k n ≤ k := Nat.min_le_left _ _
  have hmin2 : Nat.min k n ≤ n := Nat.min_le_right _ _
  have hf := hcells _ hmin
  obtain ⟨σ', a1, a2, a3⟩ := h.st (i := k * 3) (ws := flat RC (repQ q (Nat.min k n))) (by rw [filled_len, flat_len RC_len]; simp only [repQ, List.length_replicate]; omega) (rep_one q _)
  refine ⟨σ', ?_, fun hcc => ⟨?_, a3⟩⟩
  · simp only [copyA, ty104, ty92, lenA, hf, a1]
  · rw [hcc, put_filled] at a2; exact a2
theorem copy_one {σ : St} {b c n : Nat} {q : Rat} (h : RowE σ b 3 (filled q 0 (1 + n))) (hs : RowE σ c 3 (RC q)) : ∃ σ', copyA TT σ 104 (.sl b 0 (1 + n) (1 + n)) (.sl c 0 1 1) = some (.int .i64 1, σ') ∧ RowE σ' b 3 (filled q 1 n) ∧ But b σ σ' := by
  have hf : firstA σ 3 1 (.sl c 0 1 1) = some (flat RC (repQ q 1)) := by
    obtain ⟨o, hg, _⟩ := hs
    simp only [firstA, hg]
    rfl
  obtain ⟨σ', a1, a2, a3⟩ := h.st (i := 0) (ws := flat RC (repQ q 1)) (by rw [filled_len, flat_len RC_len]; simp only [repQ, List.length_replicate]; omega) (rep_one q _)
  have hmin : Nat.min 1 (1 + n) = 1 := Nat.min_eq_left (by omega)
  refine ⟨σ', ?_, ?_, a3⟩
  · simp only [copyA, ty104, ty92, lenA, hmin, hf, a1]; rfl
  · have := put_filled q 0 1 n
    rw [Nat.zero_mul, Nat.zero_add] at this
    rw [this] at a2; exact a2

noncomputable def b168 : Code := Try.f168.body.getD .skip
noncomputable def B168_0 : Code := (bodyC (bodyC (fstC (sndC (sndC (sndC (sndC (sndC (sndC b168)))))))))
noncomputable def K168_0 : List It := .lp B168_0 :: .blk 0 :: .code (sndC (sndC (sndC (sndC (sndC (sndC (sndC b168))))))) :: []
theorem xl168_0 {fi : FI} {env : Env} {σ : St} : exI TT fi K168_0 env σ = exI TT fi (.code B168_0 :: K168_0) env σ := by unfold K168_0; exact xI_lp
noncomputable def R168_0_0 : List It := .code (sndC (sndC (sndC (sndC (sndC (sndC (sndC b168))))))) :: []
theorem eK168_0_0 : exitA 0 K168_0 = some R168_0_0 := rfl
set_option maxHeartbeats 4000000 in
theorem s168 (b n k z : Nat) (v1 v2 : AV) (σ σ1 : St) (hk : k < n) (s1 : sliceA TT σ 104 (.sl b 0 n n) (some (.int .i64 k)) none = some v1) (s2 : sliceA TT σ 104 (.sl b 0 n n) none (some (.int .i64 k)) = some v2) (c1 : copyA TT σ 104 v1 v2 = some (.int .i64 z, σ1)) (hw : wrapA .i64 ((k : Int) + (z : Int)) = ((k + z : Nat) : Int)) :
    exI TT (FI.of Try.f168 (TT.an 168)) K168_0 [(7, .sl b 0 n n), (8, .int .i64 k)] σ = exI TT (FI.of Try.f168 (TT.an 168)) K168_0 [(7, .sl b 0 n n), (8, .int .i64 (k + z : Nat))] σ1 := by
  rw [fi168]
  conv => lhs; rw [xl168_0]
  simp only [B168_0, b168, Try.f168, Option.getD, fstC, sndC, bodyC, thnC, elsC]
  simp (maxSteps := 1000000) (disch := omega) [eK168_0_0, getCells, takeN, dropN, fieldAddrA, allOne, AV.one, n_push, putN, overN, blt_dec, buildA, sizesOf, fillA, putCells, List.take_succ_cons, List.take_zero, List.drop_succ_cons, List.drop_zero, List.nil_append, List.cons_append, List.length_cons, List.length_nil, eqvs_dgs, convA, hk, s1, s2, c1, hw]
set_option maxHeartbeats 4000000 in
theorem e168 (b n : Nat) (σ : St)  :
    exI TT (FI.of Try.f168 (TT.an 168)) K168_0 [(7, .sl b 0 n n), (8, .int .i64 n)] σ = some (.sl b 0 n n, σ) := by
  rw [fi168]
  conv => lhs; rw [xl168_0]
  simp only [B168_0, b168, Try.f168, Option.getD, fstC, sndC, bodyC, thnC, elsC]
  simp (maxSteps := 1000000) (disch := omega) [eK168_0_0, getCells, takeN, dropN, fieldAddrA, allOne, AV.one, n_push, putN, overN, blt_dec, buildA, sizesOf, fillA, putCells, List.take_succ_cons, List.take_zero, List.drop_succ_cons, List.drop_zero, List.nil_append, List.cons_append, List.length_cons, List.length_nil, eqvs_dgs, convA]
  simp only [R168_0_0, b168, Try.f168, Option.getD, fstC, sndC, bodyC, thnC, elsC]
  simp (maxSteps := 1000000) (disch := omega) [eK168_0_0, getCells, takeN, dropN, fieldAddrA, allOne, AV.one, n_push, putN, overN, blt_dec, buildA, sizesOf, fillA, putCells, List.take_succ_cons, List.take_zero, List.drop_succ_cons, List.drop_zero, List.nil_append, List.cons_append, List.length_cons, List.length_nil, eqvs_dgs, convA]
set_option maxHeartbeats 4000000 in
theorem b168e (c n b : Nat) (σ σ1 σ2 : St) (hn : (1 : Int) ≤ (n : Int)) (hn2 : (n : Int) ≤ 60) (w1 : wrapA .u64 (1 : Int) = 1) (w2 : wrapA .u64 (n : Int) = (n : Int)) (c1 : callI TT 191 [.int .u64 1, .int .u64 n] σ = some (.tup [.int .u64 0, .int .u64 n], σ)) (w3 : wrapA .i64 (n : Int) = (n : Int)) (c2 : makeSliceA TT σ 104 (.int .i64 n) (.int .i64 n) = some (.sl b 0 n n, σ1)) (c3 : copyA TT σ1 104 (.sl b 0 n n) (.sl c 0 1 1) = some (.int .i64 1, σ2)) :
    exI TT (FI.of Try.f168 (TT.an 168)) [.code b168] (paramsE 0 [.sl c 0 1 1, .int .i64 n]) σ = exI TT (FI.of Try.f168 (TT.an 168)) K168_0 [(7, .sl b 0 n n), (8, .int .i64 1)] σ2 := by
  rw [fi168]
  simp only [b168, Try.f168, Option.getD, fstC, sndC, bodyC, thnC, elsC]
  simp (maxSteps := 1000000) (disch := omega) [eK168_0_0, getCells, takeN, dropN, fieldAddrA, allOne, AV.one, n_push, putN, overN, blt_dec, buildA, sizesOf, fillA, putCells, List.take_succ_cons, List.take_zero, List.drop_succ_cons, List.drop_zero, List.nil_append, List.cons_append, List.length_cons, List.length_nil, eqvs_dgs, convA, hn, hn2, w1, w2, c1, w3, c2, c3]
  rfl
theorem l168 (q : Rat) (b n : Nat) (hn : n ≤ 60) : ∀ (m k : Nat) (σ : St), k + m = n → 1 ≤ k → RowE σ b 3 (filled q k m) → ∃ σ', exI TT (FI.of Try.f168 (TT.an 168)) K168_0 [(7, .sl b 0 n n), (8, .int .i64 k)] σ = some (.sl b 0 n n, σ') ∧ RowE σ' b 3 (filled q n 0) ∧ But b σ σ' := by
  intro m
  induction m using Nat.strongRecOn with
  | ind m ih =>
    intro k σ hk h1 hr
    rcases Nat.eq_zero_or_pos m with rfl | hm
    · obtain rfl : k = n := by omega
      exact ⟨σ, e168 b k σ, hr, rfl, fun _ _ => rfl⟩
    · have hs1 : sliceA TT σ 104 (.sl b 0 n n) (some (.int .i64 k)) none = some (.sl b (k * 3) (n - k) (n - k)) := by
        unfold sliceA
        simp only [ty104, ty92, boundA, Nat.le_refl, if_true, Int.toNat_natCast]
        rw [if_pos ⟨by omega, by omega⟩]
        simp only []
        rw [if_pos (by omega), Nat.zero_add]
      have hs2 : sliceA TT σ 104 (.sl b 0 n n) none (some (.int .i64 k)) = some (.sl b 0 k n) := by
        unfold sliceA
        simp only [ty104, ty92, boundA, Int.toNat_natCast]
        rw [if_pos ⟨by omega, by omega⟩]
        simp
      have hmin : Nat.min k (n - k) = min k m := by rw [show n - k = m by omega]
      have hck : min k m ≤ k := Nat.min_le_left _ _
      have hcm : min k m ≤ m := Nat.min_le_right _ _
      have hc1 : 1 ≤ min k m := Nat.le_min.2 ⟨h1, hm⟩
      have hr' : RowE σ b 3 (filled q k (min k m + (m - min k m))) := by rw [show min k m + (m - min k m) = m by omega]; exact hr
      obtain ⟨σ1, c1, c2⟩ := copy_rep (n := n - k) hr' hck (by omega)
      obtain ⟨d1, d2⟩ := c2 hmin
      rw [show k + (n - k) = n by omega, hmin] at c1
      obtain ⟨σ', g1, g2, g3⟩ := ih (m - min k m) (by omega) (k + min k m) σ1 (by omega) (by omega) d1
      exact ⟨σ', (s168 b n k (min k m) _ _ σ σ1 (by omega) hs1 hs2 c1 (by rw [← Int.natCast_add]; exact wrapA_id (by omega) (by omega))).trans g1, g2, g3.1.trans d2.1, fun c hc => (g3.2 c hc).trans (d2.2 c hc)⟩
theorem c168 (q : Rat) (c n : Nat) (h1 : 1 ≤ n) (hn : n ≤ 60) (σ : St) (hr : RowE σ c 3 (RC q)) : ∃ σ', callI TT 168 [.sl c 0 1 1, .int .i64 n] σ = some (.sl σ.n 0 n n, σ') ∧ RowE σ' σ.n 3 (flat RC (repQ q n)) ∧ Old σ σ' := by
  have hm := make_el (T := TT) (σ := σ) (st := 104) (n := n) ty104 ty92 (by decide) (by omega)
  have r0 : RowE (σ.push ⟨repeatCells [.bool false, .nilS, .nilS] n, 3, false⟩) σ.n 3 (filled q 0 (1 + (n - 1))) := by
    rw [show 1 + (n - 1) = n by omega]; exact RowE.push
  obtain ⟨σ2, a1, a2, a3⟩ := copy_one r0 hr.pushed
  rw [show 1 + (n - 1) = n by omega] at a1
  obtain ⟨σ', g1, g2, g3⟩ := l168 q σ.n n hn (n - 1) 1 σ2 (by omega) (Nat.le_refl _) a2
  refine ⟨σ', ?_, ?_, ?_, fun x hx => ?_⟩
  · rw [cI_0 (c := b168) fn168 rfl md168, ← g1]
    have cm := r191 1 n (by decide) (by omega) σ [.int .u64 (1 : Nat), .int .u64 n] rfl
    rw [Nat.one_mul] at cm
    exact b168e c n σ.n σ _ σ2 (by omega) (by omega) (by decide) (w64 (by omega)) cm (wrapA_id (by omega) (by omega)) hm a1
  · rw [filled, repeatCells, List.append_nil] at g2; exact g2
  · rw [g3.1, a3.1]; exact Nat.le_succ _
  · rw [g3.2 x (by omega), a3.2 x (by omega)]; exact get_push_lt hx

def atL (p : List Rat) (i : Nat) : Rat := p.getD i 0
theorem flat_set {α : Type} {f : α → List AV} {w : Nat} (hf : ∀ x, (f x).length = w) : ∀ (l : List α) (i : Nat) (x : α), i < l.length → putCells (flat f l) (i * w) (f x) = flat f (l.set i x)
  | [], i, x, h => by simp at h
  | y :: r, 0, x, h => by
    have := put_el (pre := []) (z := f y) (w := f x) (suf := flat f r) (by rw [hf, hf])
    rw [Nat.zero_mul]
    simpa [flat] using this
  | y :: r, i + 1, x, h => by
    have ih := flat_set hf r i x (by simpa using h)
    unfold putCells at ih ⊢
    have e : (i + 1) * w = (f y).length + i * w := by rw [hf, Nat.add_mul]; omega
    simp only [flat, List.flatMap_cons, List.set_cons_succ] at ih ⊢
    rw [← ih, e, List.take_append, List.take_of_length_le (by omega), Nat.add_sub_cancel_left, List.append_assoc, Nat.add_assoc, List.drop_append, List.drop_of_length_le (by omega), List.nil_append, Nat.add_sub_cancel_left]
    simp only [List.append_assoc]

/-- Ratios as fractions. -/
def frL (ps : List Rat) : List (Int × Int) := ps.map fun q => (q.num, (q.den : Int))
theorem frL_len (ps : List Rat) : (frL ps).length = ps.length := by simp [frL]
theorem frL_rq (ps : List Rat) : (frL ps).map rq = ps := by
  rw [frL, List.map_map]
  have : (fun q : Rat => rq (q.num, (q.den : Int))) = id := funext fun q => mk_self
  exact (congrArg (fun f => ps.map f) this).trans (List.map_id ps)
theorem fits_bds {ps : List Rat} (h : ∀ x ∈ ps, fits x = true) : ∀ x ∈ ps, Bd 60 x := fun x hx => by
  obtain ⟨h1, h2⟩ := fits_iff.1 (h x hx)
  exact ⟨Nat.lt_of_le_of_lt h1 (by decide), Nat.lt_of_le_of_lt h2 (by decide)⟩

theorem frL_vfl {ps : List Rat} (hf : ∀ x ∈ ps, fits x = true) : vfl (frL ps) = true := by
  simp only [vfl, List.all_eq_true]
  intro x hx
  obtain ⟨y, hy, rfl⟩ := List.mem_map.1 hx
  exact vfr_of (hf y hy)

theorem sumI_congr {f g : Nat → Rat} : ∀ {n : Nat}, (∀ i, i < n → f i = g i) → sumI f n = sumI g n
  | 0, _ => rfl
  | n + 1, h => by rw [sumI, sumI, sumI_congr fun i hi => h i (by omega), h n (by omega)]
theorem sumI_add {f g : Nat → Rat} : ∀ n : Nat, sumI (fun i => f i + g i) n = sumI f n + sumI g n
  | 0 => by show (0 : Rat) = 0 + 0; grind
  | n + 1 => by rw [sumI, sumI, sumI, sumI_add n]; grind
theorem sumI_le {f g : Nat → Rat} : ∀ {n : Nat}, (∀ i, i < n → f i ≤ g i) → sumI f n ≤ sumI g n
  | 0, _ => Rat.le_refl
  | n + 1, h => by
    have h1 := sumI_le (n := n) fun i hi => h i (by omega)
    have h2 := h n (by omega)
    rw [sumI, sumI]; grind
theorem sumI_zero {f : Nat → Rat} {n : Nat} (h : ∀ i, i < n → f i = 0) : sumI f n = 0 := by
  rw [sumI_congr (g := fun _ => 0) h]
  induction n with
  | zero => rfl
  | succ n ih => rw [sumI, ih fun i hi => h i (by omega)]; grind
theorem sumI_nonneg {f : Nat → Rat} {n : Nat} (h : ∀ i, i < n → 0 ≤ f i) : 0 ≤ sumI f n := by
  have := sumI_le (f := fun _ => 0) (g := f) (n := n) h
  rw [sumI_zero fun _ _ => rfl] at this
  exact this
theorem sumI_one_le {f : Nat → Rat} {n : Nat} (h : ∀ i, i < n → 0 ≤ f i) {i : Nat} (hi : i < n) : f i ≤ sumI f n := by
  induction n with
  | zero => omega
  | succ n ih =>
    rw [sumI]
    have h1 := sumI_nonneg (f := f) (n := n) fun i hi => h i (by omega)
    have h2 := h n (by omega)
    rcases Nat.lt_or_ge i n with h3 | h3
    · have := ih (fun i hi => h i (by omega)) h3; grind
    · have : i = n := by omega
      subst this; grind
theorem sumI_comm {f : Nat → Nat → Rat} {m : Nat} : ∀ n : Nat, sumI (fun i => sumI (fun k => f i k) m) n = sumI (fun k => sumI (fun i => f i k) n) m
  | 0 => by rw [sumI_zero (f := fun k => sumI (fun i => f i k) 0) fun _ _ => rfl]; rfl
  | n + 1 => by
    rw [sumI, sumI_comm n, ← sumI_add]
    exact sumI_congr fun k _ => rfl
theorem abs_le {a b : Rat} (h1 : a ≤ b) (h2 : -a ≤ b) : a.abs ≤ b := by
  rcases Rat.le_total (a := 0) (b := a) with h | h
  · rw [Rat.abs_of_nonneg h]; exact h1
  · rw [Rat.abs_of_nonpos h]; exact h2
/-- A number of at least 0 over a denominator. -/
def Ov (D : Nat) (x : Rat) : Prop := ∃ m : Nat, x = (m : Rat) / (D : Rat)
theorem natCast_pos {D : Nat} (h : 0 < D) : (0 : Rat) < (D : Rat) := by
  have := Rat.natCast_lt_natCast.2 h
  simpa using this
theorem Ov.nonneg {D : Nat} {x : Rat} (hD : 0 < D) (h : Ov D x) : 0 ≤ x := by
  obtain ⟨m, rfl⟩ := h
  have h1 : (0 : Rat) ≤ (m : Rat) := Rat.natCast_nonneg
  have h2 := natCast_pos hD
  rw [Rat.div_def]
  exact Rat.mul_nonneg h1 (Rat.le_of_lt (Rat.inv_pos.2 h2))
theorem Ov.add {D : Nat} {x y : Rat} (h1 : Ov D x) (h2 : Ov D y) : Ov D (x + y) := by
  obtain ⟨a, rfl⟩ := h1
  obtain ⟨b, rfl⟩ := h2
  exact ⟨a + b, by rw [Rat.natCast_add, Rat.div_def, Rat.div_def, Rat.div_def]; grind⟩
theorem Ov.mul {D E : Nat} {x y : Rat} (h1 : Ov D x) (h2 : Ov E y) : Ov (D * E) (x * y) := by
  obtain ⟨a, rfl⟩ := h1
  obtain ⟨b, rfl⟩ := h2
  exact ⟨a * b, by rw [Rat.natCast_mul, Rat.natCast_mul, Rat.div_def, Rat.div_def, Rat.div_def, Rat.inv_mul_rev]; grind⟩
theorem Ov.scale {D E : Nat} {x : Rat} (h : Ov D x) (hE : 0 < E) : Ov (D * E) x := by
  obtain ⟨a, rfl⟩ := h
  have := natCast_pos hE
  refine ⟨a * E, ?_⟩
  rw [Rat.natCast_mul, Rat.natCast_mul, Rat.div_def, Rat.div_def, Rat.inv_mul_rev]
  have h2 : (E : Rat) * (E : Rat)⁻¹ = 1 := Rat.mul_inv_cancel _ (by grind)
  grind
theorem Ov.zero (D : Nat) : Ov D 0 := ⟨0, by rw [Rat.div_def, show ((0 : Nat) : Rat) = 0 from rfl, Rat.zero_mul]⟩
theorem Ov.sumI {D : Nat} {f : Nat → Rat} : ∀ n : Nat, (∀ i, i < n → Ov D (f i)) → Ov D (sumI f n)
  | 0, _ => Ov.zero D
  | n + 1, h => (Ov.sumI n fun i hi => h i (by omega)).add (h n (by omega))
theorem Ov.dist {D : Nat} {x y : Rat} (h1 : Ov D x) (h2 : Ov D y) : Ov D (x - y).abs := by
  obtain ⟨a, rfl⟩ := h1
  obtain ⟨b, rfl⟩ := h2
  rcases Nat.eq_zero_or_pos D with rfl | hD
  · refine ⟨0, ?_⟩
    have : ((0 : Nat) : Rat) = 0 := rfl
    rw [this, Rat.div_def, Rat.div_def, Rat.div_def, Rat.inv_zero]
    have : ((a : Rat) * 0 - (b : Rat) * 0) = 0 := by grind
    rw [this]; simp
  have hp := natCast_pos hD
  rcases Nat.le_total a b with h | h
  · refine ⟨b - a, ?_⟩
    have e : ((b - a : Nat) : Rat) = (b : Rat) - (a : Rat) := by
      have : (((b - a) + a : Nat) : Rat) = (b : Rat) := by rw [Nat.sub_add_cancel h]
      rw [Rat.natCast_add] at this; grind
    have hn : (a : Rat) ≤ (b : Rat) := Rat.natCast_le_natCast.2 h
    have hi := Rat.inv_pos.2 hp
    rw [e, Rat.div_def, Rat.div_def, Rat.div_def]
    have : 0 ≤ ((b : Rat) - a) * (D : Rat)⁻¹ := Rat.mul_nonneg (by grind) (Rat.le_of_lt hi)
    rw [Rat.abs_of_nonpos (by grind)]; grind
  · refine ⟨a - b, ?_⟩
    have e : ((a - b : Nat) : Rat) = (a : Rat) - (b : Rat) := by
      have : (((a - b) + b : Nat) : Rat) = (a : Rat) := by rw [Nat.sub_add_cancel h]
      rw [Rat.natCast_add] at this; grind
    have hn : (b : Rat) ≤ (a : Rat) := Rat.natCast_le_natCast.2 h
    have hi := Rat.inv_pos.2 hp
    rw [e, Rat.div_def, Rat.div_def, Rat.div_def]
    have : 0 ≤ ((a : Rat) - b) * (D : Rat)⁻¹ := Rat.mul_nonneg (by grind) (Rat.le_of_lt hi)
    rw [Rat.abs_of_nonneg (by grind)]; grind
theorem Ov.mk (m D : Nat) : Ov D (mkRat (m : Int) D) := by
  refine ⟨m, ?_⟩
  rw [Rat.mkRat_eq_div]; rfl
theorem Ov.as {D : Nat} {x : Rat} (h : Ov D x) : ∃ m : Nat, x = mkRat (m : Int) D := by
  obtain ⟨m, rfl⟩ := h
  refine ⟨m, ?_⟩
  rw [Rat.mkRat_eq_div]; rfl
theorem Ov.half {D : Nat} {x : Rat} (h : Ov D x) : Ov (D * 2) (x / 2) := by
  have h2 : Ov 2 (mkRat 1 2) := Ov.mk 1 2
  have := h.mul h2
  have e : x / 2 = x * mkRat 1 2 := by rw [Rat.div_def, show (2 : Rat)⁻¹ = mkRat 1 2 by decide +kernel]
  rw [e]; exact this
theorem Ov.fits {D : Nat} {x : Rat} (h : Ov D x) (hD : 0 < D) (h1 : x ≤ 1) (hb : D ≤ 1000000000000000000) : fits x = true := by
  have hx := h
  obtain ⟨m, e⟩ := h.as
  obtain ⟨m', e'⟩ := hx
  have hm : m ≤ D := by
    have hp := natCast_pos hD
    have e2 : mkRat (m : Int) D = (m : Rat) / (D : Rat) := by rw [Rat.mkRat_eq_div]; rfl
    rw [e2] at e
    rw [e, Rat.div_def] at h1
    have : (m : Rat) ≤ (D : Rat) := by
      have h3 : (m : Rat) * (D : Rat)⁻¹ * (D : Rat) ≤ 1 * (D : Rat) := Rat.mul_le_mul_of_nonneg_right h1 (Rat.le_of_lt hp)
      have h4 : (D : Rat)⁻¹ * (D : Rat) = 1 := Rat.inv_mul_cancel _ (by grind)
      rw [Rat.mul_assoc, h4, Rat.mul_one, Rat.one_mul] at h3
      exact h3
    exact Rat.natCast_le_natCast.1 this
  have := low_num false m D (by omega)
  obtain ⟨e1, e2, _⟩ := this
  rw [e]
  refine fits_iff.2 ⟨?_, ?_⟩
  · show nm (mkRat (sg false m) D) ≤ _
    rw [nm, e1]; exact Nat.le_trans (Nat.div_le_self _ _) (by omega)
  · show (mkRat (sg false m) D).den ≤ _
    rw [e2]; exact Nat.le_trans (Nat.div_le_self _ _) hb

theorem sumI_head {f : Nat → Rat} : ∀ n : Nat, sumI f (n + 1) = f 0 + sumI (fun i => f (i + 1)) n
  | 0 => by show 0 + f 0 = f 0 + 0; grind
  | n + 1 => by rw [sumI, sumI_head n, sumI]; grind
/-- The chances of weights. -/
def wq (T : Nat) (ws : List Nat) : List Rat := ws.map fun (x : Nat) => mkRat x T
theorem chsL_frL (ws : List Nat) : chsL ws = frL (wq ws.sum ws) := by simp [chsL, frL, wq]
/-- Chances over a denominator. -/
structure ChL (n D : Nat) (p : List Rat) : Prop where
  len : p.length = n
  ov : ∀ x ∈ p, Ov D x
  sum : sumI (atL p) n = 1
theorem atL_of {p : List Rat} {i : Nat} (h : i < p.length) : atL p i = p[i] := getD_of h
theorem wq_sum (T : Nat) : ∀ ws : List Nat, sumI (atL (wq T ws)) ws.length = mkRat (ws.sum : Nat) T
  | [] => by show (0 : Rat) = mkRat 0 T; rw [Rat.zero_mkRat]
  | x :: r => by
    rw [List.length_cons, sumI_head, List.sum_cons]
    have h1 : (fun i => atL (wq T (x :: r)) (i + 1)) = atL (wq T r) := funext fun i => by simp [atL, wq]
    have h2 : atL (wq T (x :: r)) 0 = mkRat x T := by simp [atL, wq]
    rw [h1, h2, wq_sum T r]
    rcases Nat.eq_zero_or_pos T with rfl | hT
    · rw [Rat.mkRat_zero, Rat.mkRat_zero, Rat.mkRat_zero]; grind
    · rw [Rat.mkRat_eq_div, Rat.mkRat_eq_div, Rat.mkRat_eq_div, Rat.div_def, Rat.div_def, Rat.div_def]
      simp only [Int.natCast_add, Rat.intCast_add]
      grind
theorem wq_ch {n : Nat} {ws : List Nat} (h : Wts n ws) : ChL n ws.sum (wq ws.sum ws) := by
  obtain ⟨h1, h2, h3⟩ := h
  refine ⟨by simp [wq, h1], fun x hx => ?_, ?_⟩
  · obtain ⟨y, _, rfl⟩ := List.mem_map.1 hx
    exact Ov.mk y _
  · rw [← h1, wq_sum, Rat.mkRat_eq_div, Rat.div_def]
    have : ((ws.sum : Nat) : Rat) ≠ 0 := by
      have := natCast_pos h3
      grind
    exact Rat.mul_inv_cancel _ this
theorem ChL.at {n D : Nat} {p : List Rat} (h : ChL n D p) (hD : 0 < D) (i : Nat) : Ov D (atL p i) ∧ 0 ≤ atL p i := by
  by_cases hi : i < p.length
  · rw [atL_of hi]
    have := h.ov _ (List.getElem_mem hi)
    exact ⟨this, this.nonneg hD⟩
  · have : atL p i = 0 := by simp [atL, List.getD_eq_getElem?_getD, List.getElem?_eq_none (Nat.not_lt.1 hi)]
    rw [this]; exact ⟨Ov.zero D, Rat.le_refl⟩
theorem ChL.le1 {n D : Nat} {p : List Rat} (h : ChL n D p) (hD : 0 < D) : ∀ x ∈ p, x ≤ 1 := by
  intro x hx
  obtain ⟨i, hi, rfl⟩ := List.getElem_of_mem hx
  have := sumI_one_le (f := atL p) (n := n) (fun i _ => (h.at hD i).2) (show i < n by rw [← h.len]; exact hi)
  rw [h.sum, atL_of hi] at this
  exact this
theorem ChL.fits {n D : Nat} {p : List Rat} (h : ChL n D p) (hD : 0 < D) (hb : D ≤ 1000000000000000000) : ∀ x ∈ p, fits x = true := fun x hx => (h.ov x hx).fits hD (h.le1 hD x hx) hb
theorem sumQ_sumI (l : List (Int × Int)) : ∀ i, i ≤ l.length → sumQ (l.take i) = sumI (atL (l.map rq)) i
  | 0, _ => by rw [List.take_zero]; rfl
  | i + 1, h => by
    rw [sumQ_succ l i h, sumQ_sumI l i (by omega), sumI, atL_of (by rw [List.length_map]; exact h)]
    simp
theorem ChL.isCh {n D : Nat} {p : List Rat} (h : ChL n D p) (h1 : 1 ≤ n) (h2 : n ≤ 16) (hD : 0 < D) (hb : D ≤ 1000000000000000000) : isCh (frL p) = true := by
  have hs := sumQ_sumI (frL p) (frL p).length (Nat.le_refl _)
  rw [List.take_of_length_le (Nat.le_refl _), frL_rq, frL_len, h.len, h.sum] at hs
  have hn : (frL p).all (fun x => decide (0 ≤ x.1)) = true := by
    rw [List.all_eq_true]
    intro x hx
    obtain ⟨y, hy, rfl⟩ := List.mem_map.1 hx
    exact decide_eq_true (Rat.num_nonneg.2 ((h.ov y hy).nonneg hD))
  unfold Go.Proofs.Ytihoeimlkbjgmaa.isCh
  rw [frL_len, h.len, decide_eq_true h1, decide_eq_true h2, frL_vfl (h.fits hD hb), hn, hs]
  rfl
/-! ### Steps -/
/-! ### Distances -/
theorem dist_ov {n D E : Nat} {p r : List Rat} (hp : ChL n D p) (hr : ChL n E r) (hD : 0 < D) (hE : 0 < E) : Ov (D * E * 2) (distQ p r) ∧ distQ p r ≤ 1 ∧ 0 ≤ distQ p r := by
  have hl := hp.len
  have ho : Ov (D * E) (sumI (adQ p r) p.length) := Ov.sumI _ fun i _ => by
    have h1 := (hp.at hD i).1.scale hE
    have h2 := (hr.at hE i).1.scale hD
    rw [Nat.mul_comm] at h2
    exact h1.dist h2
  have hle : sumI (adQ p r) n ≤ 2 := by
    have h1 : sumI (adQ p r) n ≤ sumI (fun i => atL p i + atL r i) n := sumI_le fun i _ => by
      have a := (hp.at hD i).2
      have b := (hr.at hE i).2
      show (atL p i - atL r i).abs ≤ _
      exact abs_le (by grind) (by grind)
    rw [sumI_add, hp.sum, hr.sum] at h1
    grind
  refine ⟨ho.half, ?_, ho.half.nonneg (by have := Nat.mul_pos hD hE; omega)⟩
  rw [distQ, hl]; grind
/-! ### The contraction -/
/-- The parity of a small number. -/
def parT (v : Nat) : Nat := [0, 1, 1, 0, 1, 0, 0, 1, 1, 0, 0, 1, 0, 1, 1, 0].getD v 0
theorem parT_le (v : Nat) : parT v ≤ 1 := by
  rcases Nat.lt_or_ge v 16 with h | h
  · have : ∀ v : Fin 16, parT v.val ≤ 1 := by decide
    exact this ⟨v, h⟩
  · unfold parT
    rw [List.getD_eq_getElem?_getD, List.getElem?_eq_none (by simpa using h)]; decide
theorem x203_0 : FnV TT 203 [.int .i64 0] (.int .i64 (parT 0 : Nat)) := FnV.mk fn203 rfl md203 (exI_of_exec (n := 1000) (by kernel_rfl)) (fun _ => rfl) rfl
theorem x203_1 : FnV TT 203 [.int .i64 1] (.int .i64 (parT 1 : Nat)) := FnV.mk fn203 rfl md203 (exI_of_exec (n := 1000) (by kernel_rfl)) (fun _ => rfl) rfl
theorem x203_2 : FnV TT 203 [.int .i64 2] (.int .i64 (parT 2 : Nat)) := FnV.mk fn203 rfl md203 (exI_of_exec (n := 1000) (by kernel_rfl)) (fun _ => rfl) rfl
theorem x203_3 : FnV TT 203 [.int .i64 3] (.int .i64 (parT 3 : Nat)) := FnV.mk fn203 rfl md203 (exI_of_exec (n := 1000) (by kernel_rfl)) (fun _ => rfl) rfl
theorem x203_4 : FnV TT 203 [.int .i64 4] (.int .i64 (parT 4 : Nat)) := FnV.mk fn203 rfl md203 (exI_of_exec (n := 1000) (by kernel_rfl)) (fun _ => rfl) rfl
theorem x203_5 : FnV TT 203 [.int .i64 5] (.int .i64 (parT 5 : Nat)) := FnV.mk fn203 rfl md203 (exI_of_exec (n := 1000) (by kernel_rfl)) (fun _ => rfl) rfl
theorem x203_6 : FnV TT 203 [.int .i64 6] (.int .i64 (parT 6 : Nat)) := FnV.mk fn203 rfl md203 (exI_of_exec (n := 1000) (by kernel_rfl)) (fun _ => rfl) rfl
theorem x203_7 : FnV TT 203 [.int .i64 7] (.int .i64 (parT 7 : Nat)) := FnV.mk fn203 rfl md203 (exI_of_exec (n := 1000) (by kernel_rfl)) (fun _ => rfl) rfl
theorem x203_8 : FnV TT 203 [.int .i64 8] (.int .i64 (parT 8 : Nat)) := FnV.mk fn203 rfl md203 (exI_of_exec (n := 1000) (by kernel_rfl)) (fun _ => rfl) rfl
theorem x203_9 : FnV TT 203 [.int .i64 9] (.int .i64 (parT 9 : Nat)) := FnV.mk fn203 rfl md203 (exI_of_exec (n := 1000) (by kernel_rfl)) (fun _ => rfl) rfl
theorem x203_10 : FnV TT 203 [.int .i64 10] (.int .i64 (parT 10 : Nat)) := FnV.mk fn203 rfl md203 (exI_of_exec (n := 1000) (by kernel_rfl)) (fun _ => rfl) rfl
theorem x203_11 : FnV TT 203 [.int .i64 11] (.int .i64 (parT 11 : Nat)) := FnV.mk fn203 rfl md203 (exI_of_exec (n := 1000) (by kernel_rfl)) (fun _ => rfl) rfl
theorem x203_12 : FnV TT 203 [.int .i64 12] (.int .i64 (parT 12 : Nat)) := FnV.mk fn203 rfl md203 (exI_of_exec (n := 1000) (by kernel_rfl)) (fun _ => rfl) rfl
theorem x203_13 : FnV TT 203 [.int .i64 13] (.int .i64 (parT 13 : Nat)) := FnV.mk fn203 rfl md203 (exI_of_exec (n := 1000) (by kernel_rfl)) (fun _ => rfl) rfl
theorem x203_14 : FnV TT 203 [.int .i64 14] (.int .i64 (parT 14 : Nat)) := FnV.mk fn203 rfl md203 (exI_of_exec (n := 1000) (by kernel_rfl)) (fun _ => rfl) rfl
theorem x203_15 : FnV TT 203 [.int .i64 15] (.int .i64 (parT 15 : Nat)) := FnV.mk fn203 rfl md203 (exI_of_exec (n := 1000) (by kernel_rfl)) (fun _ => rfl) rfl
theorem r203 (v : Nat) (h : v < 16) : FnV TT 203 [.int .i64 v] (.int .i64 (parT v : Nat)) := by
  have : v = 0 ∨ v = 1 ∨ v = 2 ∨ v = 3 ∨ v = 4 ∨ v = 5 ∨ v = 6 ∨ v = 7 ∨ v = 8 ∨ v = 9 ∨ v = 10 ∨ v = 11 ∨ v = 12 ∨ v = 13 ∨ v = 14 ∨ v = 15 := by omega
  rcases this with rfl | rfl | rfl | rfl | rfl | rfl | rfl | rfl | rfl | rfl | rfl | rfl | rfl | rfl | rfl | rfl
  · exact x203_0
  · exact x203_1
  · exact x203_2
  · exact x203_3
  · exact x203_4
  · exact x203_5
  · exact x203_6
  · exact x203_7
  · exact x203_8
  · exact x203_9
  · exact x203_10
  · exact x203_11
  · exact x203_12
  · exact x203_13
  · exact x203_14
  · exact x203_15
def nintsL (l : List Nat) : List Int := l.map fun (x : Nat) => (x : Int)
/-- The number that rows make of a number. -/
def appR (x : Nat) : List Nat → Nat → Nat → Nat
  | [], _, out => out
  | r :: t, i, out => appR x t (i + 1) (out ||| parT (r &&& x) * 2 ^ i)
theorem appR_lt (x : Nat) : ∀ (l : List Nat) (i out : Nat), out < 2 ^ i → appR x l i out < 2 ^ (i + l.length)
  | [], i, out, h => h
  | r :: t, i, out, h => by
    rw [appR, List.length_cons, show i + (t.length + 1) = i + 1 + t.length by omega]
    refine appR_lt x t (i + 1) _ (Nat.or_lt_two_pow (Nat.lt_of_lt_of_le h (Nat.pow_le_pow_right (by decide) (by omega))) ?_)
    have := Nat.mul_le_mul_right (2 ^ i) (parT_le (r &&& x))
    have h2 := Nat.two_pow_pos i
    rw [Nat.pow_succ]; omega

noncomputable def b190 : Code := Try.f190.body.getD .skip
noncomputable def B190_0 : Code := (bodyC (bodyC (sndC (fstC (sndC (sndC b190))))))
noncomputable def K190_0 : List It := .lp B190_0 :: .blk 0 :: .code (sndC (sndC (sndC b190))) :: []
theorem xl190_0 {fi : FI} {env : Env} {σ : St} : exI TT fi K190_0 env σ = exI TT fi (.code B190_0 :: K190_0) env σ := by unfold K190_0; exact xI_lp
noncomputable def R190_0_0 : List It := .code (sndC (sndC (sndC b190))) :: []
theorem eK190_0_0 : exitA 0 K190_0 = some R190_0_0 := rfl
set_option maxHeartbeats 4000000 in
theorem s190 (n i : Nat) (cells : List AV) (x o r v w y z : Int) (σ : St) (hi : i < n) (l1 : cellsAt σ (.lp cells i) 1 = some [.int .i64 r]) (a1 : bitsA .and .i64 r x = some (.int .i64 v)) (c1 : ∀ σ, callI TT 203 [.int .i64 v] σ = some (.int .i64 w, σ)) (h1 : wrapA .i64 (shlA w (min i IntKind.i64.bits)) = y) (o1 : bitsA .or .i64 o y = some (.int .i64 z)) (hw : wrapA .i64 ((i : Int) + 1) = (i : Int) + 1) :
    exI TT (FI.of Try.f190 (TT.an 190)) K190_0 [(1, .int .i64 x), (5, .int .i64 o), (8, .lst n cells), (9, .int .i64 n), (10, .int .i64 i)] σ = exI TT (FI.of Try.f190 (TT.an 190)) K190_0 [(1, .int .i64 x), (5, .int .i64 z), (8, .lst n cells), (9, .int .i64 n), (10, .int .i64 ((i : Int) + 1))] σ := by
  rw [fi190]
  conv => lhs; rw [xl190_0]
  simp only [B190_0, b190, Try.f190, Option.getD, fstC, sndC, bodyC, thnC, elsC]
  simp (maxSteps := 1000000) (disch := omega) [eK190_0_0, getCells, takeN, dropN, fieldAddrA, allOne, AV.one, n_push, putN, overN, blt_dec, buildA, sizesOf, fillA, putCells, List.take_succ_cons, List.take_zero, List.drop_succ_cons, List.drop_zero, List.nil_append, List.cons_append, List.length_cons, List.length_nil, eqvs_dgs, convA, hi, l1, a1, c1, h1, o1, hw]
set_option maxHeartbeats 4000000 in
theorem e190 (n : Nat) (cells : List AV) (x o : Int) (σ : St)  :
    exI TT (FI.of Try.f190 (TT.an 190)) K190_0 [(1, .int .i64 x), (5, .int .i64 o), (8, .lst n cells), (9, .int .i64 n), (10, .int .i64 n)] σ = some (.int .i64 o, σ) := by
  rw [fi190]
  conv => lhs; rw [xl190_0]
  simp only [B190_0, b190, Try.f190, Option.getD, fstC, sndC, bodyC, thnC, elsC]
  simp (maxSteps := 1000000) (disch := omega) [eK190_0_0, getCells, takeN, dropN, fieldAddrA, allOne, AV.one, n_push, putN, overN, blt_dec, buildA, sizesOf, fillA, putCells, List.take_succ_cons, List.take_zero, List.drop_succ_cons, List.drop_zero, List.nil_append, List.cons_append, List.length_cons, List.length_nil, eqvs_dgs, convA]
  simp only [R190_0_0, b190, Try.f190, Option.getD, fstC, sndC, bodyC, thnC, elsC]
  simp (maxSteps := 1000000) (disch := omega) [eK190_0_0, getCells, takeN, dropN, fieldAddrA, allOne, AV.one, n_push, putN, overN, blt_dec, buildA, sizesOf, fillA, putCells, List.take_succ_cons, List.take_zero, List.drop_succ_cons, List.drop_zero, List.nil_append, List.cons_append, List.length_cons, List.length_nil, eqvs_dgs, convA]
set_option maxHeartbeats 4000000 in
theorem b190e (n : Nat) (cells : List AV) (x : Int) (σ : St)  :
    exI TT (FI.of Try.f190 (TT.an 190)) [.code b190] (paramsE 0 [.lst n cells, .int .i64 x]) σ = exI TT (FI.of Try.f190 (TT.an 190)) K190_0 [(1, .int .i64 x), (5, .int .i64 0), (8, .lst n cells), (9, .int .i64 n), (10, .int .i64 0)] σ := by
  rw [fi190]
  simp only [b190, Try.f190, Option.getD, fstC, sndC, bodyC, thnC, elsC]
  simp (maxSteps := 1000000) (disch := omega) [eK190_0_0, getCells, takeN, dropN, fieldAddrA, allOne, AV.one, n_push, putN, overN, blt_dec, buildA, sizesOf, fillA, putCells, List.take_succ_cons, List.take_zero, List.drop_succ_cons, List.drop_zero, List.nil_append, List.cons_append, List.length_cons, List.length_nil, eqvs_dgs, convA]
  rfl
theorem l190 (l : List Nat) (hl : ∀ r ∈ l, r < 16) (hn : l.length ≤ 10) (x : Nat) (hx : x < 16) (σ : St) : ∀ (m i o : Nat), i + m = l.length → o < 2 ^ i → exI TT (FI.of Try.f190 (TT.an 190)) K190_0 [(1, .int .i64 x), (5, .int .i64 o), (8, .lst l.length (ints (nintsL l))), (9, .int .i64 l.length), (10, .int .i64 i)] σ = some (.int .i64 (appR x (l.drop i) i o), σ) := by
  intro m
  induction m with
  | zero =>
    intro i o hi ho
    obtain rfl : i = l.length := by omega
    rw [List.drop_of_length_le (Nat.le_refl _)]
    exact e190 _ _ x o σ
  | succ m ih =>
    intro i o hi ho
    have hil : i < l.length := by omega
    have hi1 : ((i + 1 : Nat) : Int) = (i : Int) + 1 := by omega
    have hr := hl _ (List.getElem_mem hil)
    have l1 := lp_read (σ := σ) (l := nintsL l) (i := i) (by simpa [nintsL] using hil)
    have hat : at0 (nintsL l) i = (l[i] : Nat) := by rw [at0, List.getD_eq_getElem?_getD]; simp [nintsL, hil]
    rw [hat] at l1
    have hv : l[i] &&& x < 16 := Nat.lt_of_le_of_lt Nat.and_le_left hr
    have hw := parT_le (l[i] &&& x)
    have hp : 2 ^ i ≤ 2 ^ 10 := Nat.pow_le_pow_right (by decide) (by omega)
    have hp0 := Nat.two_pow_pos i
    have hy : parT (l[i] &&& x) * 2 ^ i ≤ 1 * 2 ^ i := Nat.mul_le_mul_right _ hw
    have ho2 : o ||| parT (l[i] &&& x) * 2 ^ i < 2 ^ (i + 1) := Nat.or_lt_two_pow (by rw [Nat.pow_succ]; omega) (by rw [Nat.pow_succ]; omega)
    have h := ih (i + 1) _ (by omega) ho2
    rw [hi1] at h
    rw [List.drop_eq_getElem_cons hil, appR, ← h]
    have hsh : wrapA .i64 (shlA ((parT (l[i] &&& x) : Nat) : Int) (min i IntKind.i64.bits)) = ((parT (l[i] &&& x) * 2 ^ i : Nat) : Int) := by
      rw [Nat.min_eq_left (by simp [IntKind.bits]; omega), w_shl]
      exact wrapA_id (by omega) (by omega)
    exact s190 l.length i _ x o _ _ _ _ _ σ hil l1 (w_and .i64 (by simp only [topOf]; omega) (by simp only [topOf]; omega)) (fun σ => r203 _ hv σ _ rfl) hsh (w_or .i64 (by simp only [topOf]; omega) (by simp only [topOf]; omega)) (wrapA_id (by omega) (by omega))
theorem r190 (l : List Nat) (hl : ∀ r ∈ l, r < 16) (hn : l.length ≤ 10) (x : Nat) (hx : x < 16) : FnV TT 190 [.lst l.length (ints (nintsL l)), .int .i64 x] (.int .i64 (appR x l 0 0)) := by
  have h := l190 l hl hn x hx ⟨[], 0⟩ l.length 0 0 (by omega) (by decide)
  rw [List.drop_zero] at h
  exact FnV.mk (c := b190) fn190 rfl md190 ⟨⟨[], 0⟩, (b190e _ _ _ _).trans h⟩ (fun _ => rfl) rfl
/-- The chances of the numbers that rows make, of the first ones of a source. -/
def exT (l : List Nat) (p : List Rat) (k x0 : Nat) : Rat := sumI (fun x => if appR x l 0 0 = k then atL p x else 0) x0
def exL (l : List Nat) (p : List Rat) (x0 : Nat) : List Rat := (List.range (2 ^ l.length)).map fun k => exT l p k x0
theorem exL_len (l : List Nat) (p : List Rat) (x0 : Nat) : (exL l p x0).length = 2 ^ l.length := by simp [exL]
theorem exL_get (l : List Nat) (p : List Rat) (x0 : Nat) {k : Nat} (h : k < 2 ^ l.length) : (exL l p x0)[k]? = some (exT l p k x0) := by simp [exL, h]
theorem exL_set (l : List Nat) (p : List Rat) (x0 : Nat) : (exL l p x0).set (appR x0 l 0 0) (exT l p (appR x0 l 0 0) x0 + atL p x0) = exL l p (x0 + 1) := by
  have hA : appR x0 l 0 0 < 2 ^ l.length := by have := appR_lt x0 l 0 0 (by decide); rwa [Nat.zero_add] at this
  apply List.ext_getElem?
  intro j
  rw [List.getElem?_set]
  by_cases hj : appR x0 l 0 0 = j
  · subst hj
    rw [if_pos rfl, exL_len, if_pos hA, exL_get l p _ hA]
    congr 1
    show _ = sumI _ (x0 + 1)
    rw [sumI, if_pos rfl]; rfl
  · rw [if_neg hj]
    by_cases hjn : j < 2 ^ l.length
    · rw [exL_get l p _ hjn, exL_get l p _ hjn]
      congr 1
      show _ = sumI _ (x0 + 1)
      rw [sumI, if_neg hj, Rat.add_zero]; rfl
    · rw [List.getElem?_eq_none (by rw [exL_len]; omega), List.getElem?_eq_none (by rw [exL_len]; omega)]
theorem exT_bd {l : List Nat} {p : List Rat} (hp : ∀ x ∈ p, Bd 60 x) (k : Nat) (x0 : Nat) : Bd (2 + x0 * 61) (exT l p k x0) := by
  refine sumI_bd x0 fun i hi => ?_
  split
  · by_cases h : i < p.length
    · rw [atL_of h]; exact hp _ (List.getElem_mem h)
    · have : atL p i = 0 := by simp [atL, List.getD_eq_getElem?_getD, List.getElem?_eq_none (Nat.not_lt.1 h)]
      rw [this]; exact (show Bd 2 (0 : Rat) from ⟨by decide +kernel, by decide +kernel⟩).mono (by decide)
  · exact (show Bd 2 (0 : Rat) from ⟨by decide +kernel, by decide +kernel⟩).mono (by decide)

theorem nintsL_len (l : List Nat) : (nintsL l).length = l.length := by simp [nintsL]
theorem eqvs_ints : ∀ l : List Int, eqvs (ints l) (ints l) = true
  | [] => rfl
  | x :: r => by simp [ints, eqvs, AV.eqv]; exact eqvs_ints r
/-- A list of numbers, frozen or in the heap. -/
def RvL (σ : St) (v : AV) (l : List Int) : Prop := v = .lst l.length (ints l) ∨ ∃ b, v = .sl b 0 l.length l.length ∧ Row σ b l
theorem RvL.frz {σ : St} {v : AV} {l : List Int} (h : RvL σ v l) : frzV σ frzDepth v = some (.lst l.length (ints l)) := by
  rcases h with rfl | ⟨b, rfl, hr⟩
  · rfl
  · exact hr.frz (d := 4) rfl (Nat.le_refl _)
theorem RvL.old {σ σ' : St} {v : AV} {l : List Int} (h : RvL σ v l) (k : Old σ σ') : RvL σ' v l := by
  rcases h with rfl | ⟨b, rfl, o, hg, hb⟩
  · exact .inl rfl
  · exact .inr ⟨b, rfl, o, (k.2 b hb).trans hg, Nat.lt_of_lt_of_le hb k.1⟩
/-- Two arguments that are rows and are given away. -/
theorem _root_.Go.Abs.FnF.rowE22 {T : Tab} {f : FuncId} {v : AV} {cs c1 : List AV} {e n : Nat} (h : FnF T f [.lst n c1, .lst n cs] v) {σ : St} {a b : Nat} (ha : RowE σ a e c1) (hr : RowE σ b e cs) (hl1 : c1.length = n * e) (hl : cs.length = n * e) (hf1 : mapO (frzV σ 5) c1 = some c1) (hf : mapO (frzV σ 5) cs = some cs) (h01 : c1.flatMap (rowsV σ 5) = []) (h0 : cs.flatMap (rowsV σ 5) = []) : ∃ σ', callI T f [.sl a 0 n n, .sl b 0 n n] σ = some (v, σ') ∧ σ'.n = σ.n ∧ ∀ c, c ≠ a → c ≠ b → σ'.get c = σ.get c := by
  refine ⟨_, h σ [.sl a 0 n n, .sl b 0 n n] (mapO_cons (ha.frz (d := 4) hl1 hf1 (Nat.le_refl _)) (mapO_cons (hr.frz (d := 4) hl hf (Nat.le_refl _)) rfl)), ?_⟩
  split
  · exact ⟨rfl, fun _ _ _ => rfl⟩
  · have r1 : ∀ {x : Nat} {w : List AV}, RowE σ x e w → w.length = n * e → w.flatMap (rowsV σ 5) = [] → rowsV σ frzDepth (.sl x 0 n n) = [x] := by
      intro x w hx hw h0
      obtain ⟨o, hg, _⟩ := hx
      have : getCells w 0 (n * e) = some w := by rw [getCells_eq, if_pos (by omega), List.drop_zero, List.take_of_length_le (by omega)]
      rw [show frzDepth = 5 + 1 from rfl]
      unfold rowsV
      simp only [hg, this, h0]
    have : [AV.sl a 0 n n, AV.sl b 0 n n].flatMap (rowsV σ frzDepth) = [a, b] := by
      show rowsV σ frzDepth (.sl a 0 n n) ++ (rowsV σ frzDepth (.sl b 0 n n) ++ []) = [a, b]
      rw [r1 ha hl1 h01, r1 hr hl h0]; rfl
    rw [this]
    exact ⟨rfl, fun x hx hy => (get_del_ne (fun e => hy e.symm)).trans (get_del_ne (fun e => hx e.symm))⟩

set_option maxHeartbeats 4000000 in
theorem k169 (n : Nat) (c : List AV)  :
    ∃ σ', exI TT (FI.of Try.f169 (TT.an 169)) [.code (Try.f169.body.getD .skip)] (paramsE 0 [.lst n c]) ⟨[], 0⟩ = some (.int .i64 n, σ') := by
  refine ex1 ?_
  rw [fi169]
  simp only [Try.f169, Option.getD]
  simp (maxSteps := 1000000) (disch := omega) [cellsAt, getCells, takeN, dropN, fieldAddrA, allOne, AV.one, n_push, storeCellsA, putN, overN, St.push, St.get, St.set, hget, hset, blt_dec, buildA, sizesOf, fillA, putCells, List.take_succ_cons, List.take_zero, List.drop_succ_cons, List.drop_zero, List.nil_append, List.cons_append, List.length_cons, List.length_nil, eqvs_dgs, convA]
theorem r169 (n : Nat) (c : List AV) : FnV TT 169 [.lst n c] (.int .i64 n) := FnV.mk fn169 rfl md169 (k169 n c) (fun _ => rfl) rfl
noncomputable def b167 : Code := Try.f167.body.getD .skip
noncomputable def B167_0 : Code := (bodyC (bodyC (sndC (fstC (sndC (sndC b167))))))
noncomputable def K167_0 : List It := .lp B167_0 :: .blk 0 :: .code (sndC (sndC (sndC b167))) :: []
theorem xl167_0 {fi : FI} {env : Env} {σ : St} : exI TT fi K167_0 env σ = exI TT fi (.code B167_0 :: K167_0) env σ := by unfold K167_0; exact xI_lp
noncomputable def R167_0_0 : List It := .code (sndC (sndC (sndC b167))) :: []
theorem eK167_0_0 : exitA 0 K167_0 = some R167_0_0 := rfl
set_option maxHeartbeats 4000000 in
theorem s167 (rv : AV) (N n b i k : Nat) (cells x s u : List AV) (σ σ2 σ3 : St) (hi : i < n) (l1 : cellsAt σ (.lp cells (i * 3)) 3 = some x) (hx : x.length = 3) (s1 : storeCellsA (σ.push ⟨[.bool false, .nilS, .nilS], 3, false⟩) σ.n 0 x = some σ2) (hic : wrapA .i64 (i : Int) = (i : Int)) (c1 : callI TT 190 [rv, .int .i64 i] σ2 = some (.int .i64 k, σ2)) (hk : k < N) (lo : cellsAt σ2 (.ptr b (k * 3)) 3 = some s) (l7 : cellsAt σ2 (.ptr σ.n 0) 3 = some x) (c2 : ∀ σ, callI TT 85 [.agg s, .agg x] σ = some (.agg u, σ)) (hes : eqvs s s = true) (hex : eqvs x x = true) (hu : u.length = 3) (s2 : storeCellsA σ2 b (k * 3) u = some σ3) (hw : wrapA .i64 ((i : Int) + 1) = (i : Int) + 1) :
    exI TT (FI.of Try.f167 (TT.an 167)) K167_0 [(0, rv), (5, .sl b 0 N N), (15, .lst n cells), (16, .int .i64 n), (17, .int .i64 i)] σ = exI TT (FI.of Try.f167 (TT.an 167)) K167_0 [(0, rv), (5, .sl b 0 N N), (15, .lst n cells), (16, .int .i64 n), (17, .int .i64 ((i : Int) + 1))] σ3 := by
  rw [fi167]
  conv => lhs; rw [xl167_0]
  simp only [B167_0, b167, Try.f167, Option.getD, fstC, sndC, bodyC, thnC, elsC]
  simp (maxSteps := 1000000) (disch := omega) [eK167_0_0, getCells, takeN, dropN, fieldAddrA, allOne, AV.one, n_push, putN, overN, blt_dec, buildA, sizesOf, fillA, putCells, List.take_succ_cons, List.take_zero, List.drop_succ_cons, List.drop_zero, List.nil_append, List.cons_append, List.length_cons, List.length_nil, eqvs_dgs, convA, hi, l1, hx, s1, hic, c1, hk, lo, l7, c2, hes, hex, hu, s2, hw]
set_option maxHeartbeats 4000000 in
theorem e167 (rv : AV) (N n b : Nat) (cells : List AV) (σ : St)  :
    exI TT (FI.of Try.f167 (TT.an 167)) K167_0 [(0, rv), (5, .sl b 0 N N), (15, .lst n cells), (16, .int .i64 n), (17, .int .i64 n)] σ = some (.sl b 0 N N, σ) := by
  rw [fi167]
  conv => lhs; rw [xl167_0]
  simp only [B167_0, b167, Try.f167, Option.getD, fstC, sndC, bodyC, thnC, elsC]
  simp (maxSteps := 1000000) (disch := omega) [eK167_0_0, getCells, takeN, dropN, fieldAddrA, allOne, AV.one, n_push, putN, overN, blt_dec, buildA, sizesOf, fillA, putCells, List.take_succ_cons, List.take_zero, List.drop_succ_cons, List.drop_zero, List.nil_append, List.cons_append, List.length_cons, List.length_nil, eqvs_dgs, convA]
  simp only [R167_0_0, b167, Try.f167, Option.getD, fstC, sndC, bodyC, thnC, elsC]
  simp (maxSteps := 1000000) (disch := omega) [eK167_0_0, getCells, takeN, dropN, fieldAddrA, allOne, AV.one, n_push, putN, overN, blt_dec, buildA, sizesOf, fillA, putCells, List.take_succ_cons, List.take_zero, List.drop_succ_cons, List.drop_zero, List.nil_append, List.cons_append, List.length_cons, List.length_nil, eqvs_dgs, convA]
set_option maxHeartbeats 4000000 in
theorem b167e (rr : Nat) (rows : List AV) (m n b N : Nat) (cells o : List AV) (σ σ1 σ2 : St) (c1 : ∀ σ, callI TT 84 [.int .i64 0] σ = some (.agg o, σ)) (c2 : buildSliceA TT σ 104 1 [(0, .agg o)] = some (.sl σ.n 0 1 1, σ1)) (hrv : eqvs rows rows = true) (hs : wrapA .i64 (shlA 1 (min m IntKind.i64.bits)) = (N : Int)) (c3 : callI TT 168 [.sl σ.n 0 1 1, .int .i64 N] σ1 = some (.sl b 0 N N, σ2)) (heo : eqvs o o = true) :
    exI TT (FI.of Try.f167 (TT.an 167)) [.code b167] (paramsE 0 [.lst m rows, .lst n cells]) σ = exI TT (FI.of Try.f167 (TT.an 167)) K167_0 [(0, .lst m rows), (5, .sl b 0 N N), (15, .lst n cells), (16, .int .i64 n), (17, .int .i64 0)] σ2 := by
  rw [fi167]
  simp only [b167, Try.f167, Option.getD, fstC, sndC, bodyC, thnC, elsC]
  simp (maxSteps := 1000000) (disch := omega) [eK167_0_0, getCells, takeN, dropN, fieldAddrA, allOne, AV.one, n_push, putN, overN, blt_dec, buildA, sizesOf, fillA, putCells, List.take_succ_cons, List.take_zero, List.drop_succ_cons, List.drop_zero, List.nil_append, List.cons_append, List.length_cons, List.length_nil, eqvs_dgs, convA, c1, c2, hrv, hs, c3, heo]
  rfl
set_option maxHeartbeats 4000000 in
theorem b167d (rr : Nat) (rows : List AV) (m n b N : Nat) (cells o : List AV) (σ σ1 σ2 : St) (c1 : ∀ σ, callI TT 84 [.int .i64 0] σ = some (.agg o, σ)) (c2 : buildSliceA TT σ 104 1 [(0, .agg o)] = some (.sl σ.n 0 1 1, σ1)) (hrv : eqvs rows rows = true) (hs : wrapA .i64 (shlA 1 (min m IntKind.i64.bits)) = (N : Int)) (c3 : callI TT 168 [.sl σ.n 0 1 1, .int .i64 N] σ1 = some (.sl b 0 N N, σ2)) (heo : eqvs o o = true) :
    exI TT (FI.of Try.f167 (TT.an 167)) [.code b167] (paramsE 0 [.sl rr 0 m m, .lst n cells]) σ = exI TT (FI.of Try.f167 (TT.an 167)) K167_0 [(0, .sl rr 0 m m), (5, .sl b 0 N N), (15, .lst n cells), (16, .int .i64 n), (17, .int .i64 0)] σ2 := by
  rw [fi167]
  simp only [b167, Try.f167, Option.getD, fstC, sndC, bodyC, thnC, elsC]
  simp (maxSteps := 1000000) (disch := omega) [eK167_0_0, getCells, takeN, dropN, fieldAddrA, allOne, AV.one, n_push, putN, overN, blt_dec, buildA, sizesOf, fillA, putCells, List.take_succ_cons, List.take_zero, List.drop_succ_cons, List.drop_zero, List.nil_append, List.cons_append, List.length_cons, List.length_nil, eqvs_dgs, convA, c1, c2, hrv, hs, c3, heo]
  rfl
theorem RvL.eqv {σ : St} {v : AV} {l : List Int} (h : RvL σ v l) : AV.eqv v v = true := by
  rcases h with rfl | ⟨b, rfl, _⟩
  · simp [AV.eqv, eqvs_ints]
  · simp [AV.eqv]
theorem RvL.len {σ : St} {v : AV} {l : List Int} (h : RvL σ v l) : lenA v = some l.length := by
  rcases h with rfl | ⟨b, rfl, _⟩ <;> rfl
theorem l167 (l : List Nat) (hl : ∀ r ∈ l, r < 16) (hn : l.length ≤ 3) (p : List Rat) (hp : ∀ x ∈ p, Bd 60 x) (hpl : p.length ≤ 16) (b : Nat) (rv : AV) (σ0 : St) (hv : RvL σ0 rv (nintsL l)) (hb : σ0.n ≤ b) : ∀ (m i : Nat) (σ : St), i + m = p.length → Old σ0 σ → RowE σ b 3 (flat RC (exL l p i)) →
    ∃ σ', exI TT (FI.of Try.f167 (TT.an 167)) K167_0 [(0, rv), (5, .sl b 0 (2 ^ l.length) (2 ^ l.length)), (15, RS p), (16, .int .i64 p.length), (17, .int .i64 i)] σ = some (.sl b 0 (2 ^ l.length) (2 ^ l.length), σ') ∧ RowE σ' b 3 (flat RC (exL l p p.length)) ∧ Old σ0 σ' := by
  intro m
  induction m with
  | zero =>
    intro i σ hi ho hrow
    obtain rfl : i = p.length := by omega
    exact ⟨σ, e167 _ _ _ b _ σ, hrow, ho⟩
  | succ m ih =>
    intro i σ hi ho hrow
    have hip : i < p.length := by omega
    have hi1 : ((i + 1 : Nat) : Int) = (i : Int) + 1 := by omega
    have hA : appR i l 0 0 < 2 ^ l.length := by have := appR_lt i l 0 0 (by decide); rwa [Nat.zero_add] at this
    obtain ⟨σ2, a1, a2, a3, a4⟩ := new_box (σ := σ) (z := [.bool false, .nilS, .nilS]) (x := RC p[i]) (m := 3) rfl rfl
    have hrow2 := hrow.old a3
    have lo : cellsAt σ2 (.ptr b (appR i l 0 0 * 3)) 3 = some (RC (exT l p (appR i l 0 0) i)) := hrow2.rd (flat_get RC_len _ _ _ (exL_get l p i hA))
    have hai : atL p i = p[i] := atL_of hip
    have bt := exT_bd (l := l) hp (appR i l 0 0) i
    have hmul : i * 61 ≤ 16 * 61 := Nat.mul_le_mul_right _ (by omega)
    have c2 := fun σ : St => (r85 (bt.mono (show _ ≤ 2000 by omega)) ((hp _ (List.getElem_mem hip)).mono (show 60 ≤ 2000 by decide)) (by decide)).pure σ rfl rfl
    obtain ⟨σ3, d1, d2, d3⟩ := hrow2.st (i := appR i l 0 0 * 3) (ws := RC (exT l p (appR i l 0 0) i + p[i])) (by rw [flat_len RC_len, exL_len]; show appR i l 0 0 * 3 + 3 ≤ _; omega) (RC_one _)
    rw [flat_set RC_len _ _ _ (by rw [exL_len]; exact hA), ← hai, exL_set] at d2
    have o2 := ho.trans a3
    have o3 : Old σ0 σ3 := ⟨by rw [d3.1]; exact o2.1, fun c hc => by rw [d3.2 c (by omega)]; exact o2.2 c hc⟩
    have c1 : callI TT 190 [rv, .int .i64 i] σ2 = some (.int .i64 (appR i l 0 0), σ2) := r190 l hl (by omega) i (by omega) σ2 _ (mapO_cons ((hv.old o2).frz.trans (by rw [nintsL_len])) rfl)
    obtain ⟨σ', k1, k2, k3⟩ := ih (i + 1) σ3 (by omega) o3 d2
    rw [hi1] at k1
    refine ⟨σ', ?_, k2, k3⟩
    rw [← k1]
    exact s167 rv (2 ^ l.length) p.length b i (appR i l 0 0) (flat RC p) (RC p[i]) _ _ σ σ2 σ3 hip (RS_get hip σ) rfl a1 (wrapA_id (by omega) (by omega)) c1 hA lo (a2.rd rfl) c2 (RC_eqv _) (RC_eqv _) rfl d1 (wrapA_id (by omega) (by omega))
theorem c167 (l : List Nat) (hl : ∀ r ∈ l, r < 16) (hn : l.length ≤ 3) (p : List Rat) (hp : ∀ x ∈ p, Bd 60 x) (hpl : p.length ≤ 16) (rv : AV) (σ : St) (hv : RvL σ rv (nintsL l)) : ∃ b σ', callI TT 167 [rv, RS p] σ = some (.sl b 0 (2 ^ l.length) (2 ^ l.length), σ') ∧ RowE σ' b 3 (flat RC (exL l p p.length)) ∧ Old σ σ' ∧ σ.n ≤ b := by
  have c1 := fun σ : St => (r84 (n := 0) (by decide) (by decide)).pure σ rfl rfl
  have c2 := build_el (T := TT) (σ := σ) (st := 104) (w := RC 0) ty104 ty92 (by decide) rfl rfl rfl
  have hP : 2 ^ l.length ≤ 2 ^ 3 := Nat.pow_le_pow_right (by decide) hn
  have hP0 := Nat.two_pow_pos l.length
  obtain ⟨σ2, c3, r3, o3⟩ := c168 0 σ.n (2 ^ l.length) hP0 (by omega) _ (RowE.push (σ := σ) (cs := RC 0) (e := 3) (o := false))
  have hz : repQ 0 (2 ^ l.length) = exL l p 0 := by
    apply List.ext_getElem?
    intro j
    by_cases hj : j < 2 ^ l.length
    · rw [exL_get l p _ hj]
      simp [repQ, hj]; rfl
    · rw [List.getElem?_eq_none (by simp [repQ]; omega), List.getElem?_eq_none (by rw [exL_len]; omega)]
  rw [hz] at r3
  obtain ⟨σ', k1, k2, k3⟩ := l167 l hl hn p hp hpl (σ.n + 1) rv σ hv (Nat.le_succ _) p.length 0 σ2 (by omega) (Old.push.trans o3) r3
  refine ⟨_, σ', ?_, k2, k3, Nat.le_succ _⟩
  rcases hv with rfl | ⟨r, rfl, _⟩
  · rw [nintsL_len] at k1 ⊢
    exact (cI_0 (c := b167) fn167 rfl md167).trans ((b167e 0 (ints (nintsL l)) l.length p.length (σ.n + 1) (2 ^ l.length) (flat RC p) (RC 0) σ _ σ2 c1 c2 (eqvs_ints _) (pow_sh2 l.length (by omega)) c3 (RC_eqv _)).trans k1)
  · rw [nintsL_len] at k1 ⊢
    exact (cI_0 (c := b167) fn167 rfl md167).trans ((b167d r [] l.length p.length (σ.n + 1) (2 ^ l.length) (flat RC p) (RC 0) σ _ σ2 c1 c2 rfl (pow_sh2 l.length (by omega)) c3 (RC_eqv _)).trans k1)

set_option maxHeartbeats 4000000 in
theorem k117 (rv : AV) (n N a b : Nat) (cells e d : List AV) (σ σ0 σ1 σ2 σ3 σ4 σ5 : St) (h0 : σ.push ⟨[.bool false, .nilS, .nilS], 3, false⟩ = σ0) (c1 : callI TT 167 [rv, .lst n cells] σ0 = some (.sl a 0 N N, σ1)) (c2 : callI TT 169 [.sl a 0 N N] σ1 = some (.int .i64 N, σ1)) (c3 : ∀ σ, callI TT 106 [.int .i64 1, .int .i64 N] σ = some (.agg e, σ)) (c4 : buildSliceA TT σ1 104 1 [(0, .agg e)] = some (.sl σ1.n 0 1 1, σ2)) (c5 : callI TT 168 [.sl σ1.n 0 1 1, .int .i64 N] σ2 = some (.sl b 0 N N, σ3)) (c6 : callI TT 78 [.sl a 0 N N, .sl b 0 N N] σ3 = some (.agg d, σ4)) (hd : d.length = 3) (s1 : storeCellsA σ4 σ.n 0 d = some σ5) (l1 : cellsAt σ5 (.ptr σ.n 0) 3 = some d) :
    exI TT (FI.of Try.f117 (TT.an 117)) [.code (Try.f117.body.getD .skip)] (paramsE 0 [rv, .lst n cells]) σ = some (.agg d, σ5) := by
  rw [fi117]
  simp only [Try.f117, Option.getD]
  simp (maxSteps := 1000000) (disch := omega) [getCells, takeN, dropN, fieldAddrA, allOne, AV.one, n_push, putN, overN, blt_dec, buildA, sizesOf, fillA, putCells, List.take_succ_cons, List.take_zero, List.drop_succ_cons, List.drop_zero, List.nil_append, List.cons_append, List.length_cons, List.length_nil, eqvs_dgs, convA, h0, c1, c2, c3, c4, c5, c6, hd, s1, l1]
/-- How uneven what rows make of a source is. -/
def evQ (N : Nat) : List Rat := repQ (mkRat 1 N) N
def unQ (l : List Nat) (p : List Rat) : Rat := distQ (exL l p p.length) (evQ (2 ^ l.length))
theorem evQ_bd {N : Nat} (h1 : 1 ≤ N) (h8 : N ≤ 8) : ∀ x ∈ evQ N, Bd 60 x := fun x hx => by
  rw [evQ, repQ] at hx
  rw [List.eq_of_mem_replicate hx]
  exact low_bd (b := false) (n := 1) (by omega) (by decide) (Nat.lt_of_le_of_lt h8 (by decide))
theorem exL_bd {l : List Nat} {p : List Rat} (hp : ∀ x ∈ p, Bd 60 x) (hpl : p.length ≤ 16) : ∀ x ∈ exL l p p.length, Bd 1000 x := fun x hx => by
  unfold exL at hx
  obtain ⟨k, _, rfl⟩ := List.mem_map.1 hx
  have hmul : p.length * 61 ≤ 16 * 61 := Nat.mul_le_mul_right _ hpl
  exact (exT_bd hp k _).mono (by omega)
theorem c117 (l : List Nat) (hl : ∀ r ∈ l, r < 16) (hn : l.length ≤ 3) (p : List Rat) (hp : ∀ x ∈ p, Bd 60 x) (hpl : p.length ≤ 16) (rv : AV) (σ : St) (hv : RvL σ rv (nintsL l)) : ∃ σ', callI TT 117 [rv, RS p] σ = some (RT (unQ l p), σ') ∧ Old σ σ' := by
  have hP : 2 ^ l.length ≤ 2 ^ 3 := Nat.pow_le_pow_right (by decide) hn
  have hP0 := Nat.two_pow_pos l.length
  have hx0 : Bx (σ.push ⟨[.bool false, .nilS, .nilS], 3, false⟩) σ.n [.bool false, .nilS, .nilS] := Bx.push
  obtain ⟨a, σ1, c1, ra, o1, han⟩ := c167 l hl hn p hp hpl rv (σ.push ⟨[.bool false, .nilS, .nilS], 3, false⟩) (hv.old Old.push)
  have han' : σ.n + 1 ≤ a := han
  have hal := ra.lt
  have c2 : callI TT 169 [.sl a 0 (2 ^ l.length) (2 ^ l.length)] σ1 = some (.int .i64 (2 ^ l.length : Nat), σ1) := r169 (2 ^ l.length) (flat RC (exL l p p.length)) σ1 _ (mapO_cons (ra.frz (d := 4) (by rw [flat_len RC_len, exL_len]) (flat_frz (fun v => RC_frz σ1 4 v) _) (Nat.le_refl _)) rfl)
  have c3 := r106 (n := 1) (d := 2 ^ l.length) (by decide) (by decide) hP0 (by omega)
  have c4 := build_el (T := TT) (σ := σ1) (st := 104) (w := RC (mkRat 1 (2 ^ l.length))) ty104 ty92 (by decide) rfl rfl rfl
  obtain ⟨σ2, c5, r5, o5⟩ := c168 (mkRat 1 (2 ^ l.length)) σ1.n (2 ^ l.length) hP0 (by omega) _ (RowE.push (σ := σ1) (cs := RC (mkRat 1 (2 ^ l.length))) (e := 3) (o := false))
  have hel : (evQ (2 ^ l.length)).length = (exL l p p.length).length := by rw [exL_len]; simp [evQ, repQ]
  have c6 := r78 (exL l p p.length) (evQ (2 ^ l.length)) hel 1000 (exL_bd hp hpl) (fun x hx => (evQ_bd hP0 (by omega) x hx).mono (by decide)) (by rw [exL_len]; have : (2 ^ l.length + 1) * (2 * 1000 + 3) ≤ 9 * 2003 := Nat.mul_le_mul (by omega) (by decide); omega)
  have e1 : RS (exL l p p.length) = .lst (2 ^ l.length) (flat RC (exL l p p.length)) := by rw [RS, exL_len]
  have e2 : RS (evQ (2 ^ l.length)) = .lst (2 ^ l.length) (flat RC (repQ (mkRat 1 (2 ^ l.length)) (2 ^ l.length))) := by rw [RS, hel, exL_len]; rfl
  rw [e1, e2] at c6
  have o12 : Old σ1 σ2 := Old.push.trans o5
  obtain ⟨σ3, d1, d2, d3⟩ := c6.rowE22 (ra.old o12) r5 (by rw [flat_len RC_len, exL_len]) (by rw [flat_len RC_len]; simp [repQ]) (flat_frz (fun v => RC_frz σ2 4 v) _) (flat_frz (fun v => RC_frz σ2 4 v) _) (flat_rows (fun _ => rfl) _) (flat_rows (fun _ => rfl) _)
  have o02 : Old (σ.push ⟨[.bool false, .nilS, .nilS], 3, false⟩) σ2 := o1.trans o12
  have hn1 : (σ.push ⟨[.bool false, .nilS, .nilS], 3, false⟩).n = σ.n + 1 := rfl
  have h1n := o1.1
  have hb3 : Bx σ3 σ.n [.bool false, .nilS, .nilS] := by
    obtain ⟨⟨mm, hg⟩, hlt⟩ := hx0.old o02
    exact ⟨⟨mm, by rw [d3 σ.n (by omega) (by show σ.n ≠ σ1.n + 1; omega)]; exact hg⟩, by rw [d2]; exact hlt⟩
  obtain ⟨σ4, a1, a2, a3⟩ := hb3.st (ws := RC (unQ l p)) rfl (RC_one _)
  refine ⟨σ4, (cI_0 fn117 rfl md117).trans (k117 rv p.length (2 ^ l.length) a (σ1.n + 1) (flat RC p) _ _ σ _ σ1 _ σ2 σ3 σ4 rfl c1 c2 (fun σ => c3.pure σ rfl rfl) c4 c5 d1 rfl a1 (a2.rd rfl)), ?_, fun c hc => ?_⟩
  · have := o02.1
    rw [a3.1, d2]; omega
  · rw [a3.2 c (by omega), d3 c (by omega) (by show c ≠ σ1.n + 1; omega), o02.2 c (by omega)]
    exact get_push_lt hc

set_option maxHeartbeats 4000000 in
theorem k118 (m n : Nat) (rows cells : List AV) (nb h P : Int) (c1 : ∀ σ, callI TT 59 [.lst n cells] σ = some (.tup [.int .i64 nb, .bool true], σ)) (c2 : ∀ σ, callI TT 98 [.lst m rows] σ = some (.int .i64 m, σ)) (c3 : ∀ σ, callI TT 63 [.int .i64 m, .int .i64 1, .int .i64 3] σ = some (.bool true, σ)) (hnb : 0 ≤ nb) (h1 : wrapA .i64 (shlA 1 (min nb.toNat IntKind.i64.bits)) = P) (h2 : wrapA .i64 (P - 1) = h) (c4 : ∀ σ, callI TT 153 [.lst m rows, .int .i64 0, .int .i64 h] σ = some (.bool true, σ)) :
    ∃ σ', exI TT (FI.of Try.f118 (TT.an 118)) [.code (Try.f118.body.getD .skip)] (paramsE 0 [.lst m rows, .lst n cells]) ⟨[], 0⟩ = some (.bool true, σ') := by
  refine ex1 ?_
  rw [fi118]
  simp only [Try.f118, Option.getD]
  simp (maxSteps := 1000000) (disch := omega) [cellsAt, getCells, takeN, dropN, fieldAddrA, allOne, AV.one, n_push, storeCellsA, putN, overN, St.push, St.get, St.set, hget, hset, blt_dec, buildA, sizesOf, fillA, putCells, List.take_succ_cons, List.take_zero, List.drop_succ_cons, List.drop_zero, List.nil_append, List.cons_append, List.length_cons, List.length_nil, eqvs_dgs, convA, c1, c2, c3, hnb, h1, h2, c4]
/-- The bits of a source of so many chances. -/
theorem r118 (l : List Nat) (h1 : 1 ≤ l.length) (h3 : l.length ≤ 3) (lf : List (Int × Int)) (hs : isSrc lf = true) (nb : Nat) (hnb : (bl lf.length : Int) - 1 = nb) (hnb4 : nb ≤ 4) (hl : ∀ r ∈ l, r < 2 ^ nb) (hlf : lf.length ≤ 16) : FnV TT 118 [.lst l.length (ints (nintsL l)), FS lf] (.bool true) := by
  have c1 := fun σ => r59 lf (by omega) σ [FS lf] rfl
  rw [hs, hnb] at c1
  have c3 := fun σ => v63 l.length 1 3 σ [.int .i64 l.length, .int .i64 1, .int .i64 3] rfl
  have e3 : (decide ((1 : Int) ≤ (l.length : Int)) && decide ((l.length : Int) ≤ 3)) = true := by rw [decide_eq_true (by omega), decide_eq_true (by omega)]; rfl
  rw [e3] at c3
  have hp0 := Nat.two_pow_pos nb
  have hp : 2 ^ nb ≤ 2 ^ 4 := Nat.pow_le_pow_right (by decide) hnb4
  have c4 := fun σ => v153 (nintsL l) l.length (by simp [nintsL]) (by omega) 0 ((2 ^ nb - 1 : Nat) : Int) σ [.lst l.length (ints (nintsL l)), .int .i64 0, .int .i64 ((2 ^ nb - 1 : Nat) : Int)] rfl
  have e4 : allR (nintsL l) 0 ((2 ^ nb - 1 : Nat) : Int) = true := by
    unfold allR
    rw [List.all_eq_true]
    intro x hx
    obtain ⟨y, hy, rfl⟩ := List.mem_map.1 hx
    have := hl y hy
    exact inR_iff.2 (by omega)
  rw [e4] at c4
  exact FnV.mk fn118 rfl md118 (k118 _ _ _ _ nb ((2 ^ nb - 1 : Nat) : Int) ((2 ^ nb : Nat) : Int) c1 (fun σ => v98 (nintsL l) l.length σ _ rfl) c3 (by omega) (by rw [Int.toNat_natCast]; exact pow_sh2 nb (by omega)) (by rw [show ((2 ^ nb : Nat) : Int) - 1 = ((2 ^ nb - 1 : Nat) : Int) by omega]; exact wrapA_id (by omega) (by omega)) c4) (fun _ => rfl) rfl

set_option maxHeartbeats 4000000 in
theorem k43 (m n N : Nat) (rows cells ps d : List AV) (a b : Int) (c : Bool) (σ0 σ1 σ2 : St) (h0 : (⟨[], 0⟩ : St).push ⟨[.int .i64 0, .int .i64 0], 2, false⟩ = σ0) (c1 : ∀ σ, callI TT 118 [.lst m rows, .lst n cells] σ = some (.bool true, σ)) (c2 : ∀ σ, callI TT 79 [.lst n cells] σ = some (.lst N ps, σ)) (c3 : callI TT 117 [.lst m rows, .lst N ps] σ0 = some (.agg d, σ1)) (c4 : ∀ σ, callI TT 80 [.agg d] σ = some (.tup [.agg [.int .i64 a, .int .i64 b], .bool c], σ)) (s1 : storeCellsA σ1 0 0 [.int .i64 a, .int .i64 b] = some σ2) (l1 : cellsAt σ2 (.ptr 0 0) 2 = some [.int .i64 a, .int .i64 b]) :
    exI TT (FI.of Try.f43 (TT.an 43)) [.code (Try.f43.body.getD .skip)] (paramsE 0 [.lst m rows, .lst n cells]) ⟨[], 0⟩ = some (.tup [.agg [.int .i64 a, .int .i64 b], .bool c], σ2) := by
  rw [fi43]
  simp only [Try.f43, Option.getD]
  simp (maxSteps := 1000000) (disch := omega) [getCells, takeN, dropN, fieldAddrA, allOne, AV.one, n_push, putN, overN, blt_dec, buildA, sizesOf, fillA, putCells, List.take_succ_cons, List.take_zero, List.drop_succ_cons, List.drop_zero, List.nil_append, List.cons_append, List.length_cons, List.length_nil, eqvs_dgs, convA, h0, c1, c2, c3, c4, s1, l1]
theorem unQ_bd {l : List Nat} (hn : l.length ≤ 3) {p : List Rat} (hp : ∀ x ∈ p, Bd 60 x) (hpl : p.length ≤ 16) : Bd 100000 (unQ l p) := by
  have hP : 2 ^ l.length ≤ 2 ^ 3 := Nat.pow_le_pow_right (by decide) hn
  have hP0 := Nat.two_pow_pos l.length
  have hel : (evQ (2 ^ l.length)).length = (exL l p p.length).length := by rw [exL_len]; simp [evQ, repQ]
  have hmul : (2 ^ l.length) * (2 * 1000 + 2) ≤ 8 * 2002 := Nat.mul_le_mul (by omega) (by decide)
  exact (distQ_bd hel (exL_bd hp hpl) (fun x hx => (evQ_bd hP0 (by omega) x hx).mono (by decide))).mono (by rw [exL_len]; omega)
theorem r43 (l : List Nat) (h1 : 1 ≤ l.length) (h3 : l.length ≤ 3) (p : List Rat) (hf : ∀ x ∈ p, fits x = true) (hpl : p.length ≤ 16) (hs : isSrc (frL p) = true) (nb : Nat) (hnb : (bl p.length : Int) - 1 = nb) (hnb4 : nb ≤ 4) (hl : ∀ r ∈ l, r < 2 ^ nb) (hfu : fits (unQ l p) = true) : FnV TT 43 [.lst l.length (ints (nintsL l)), FS (frL p)] (.tup [.agg (QC (unQ l p)), .bool true]) := by
  have hp : 2 ^ nb ≤ 2 ^ 4 := Nat.pow_le_pow_right (by decide) hnb4
  have hl16 : ∀ r ∈ l, r < 16 := fun r hr => by have := hl r hr; omega
  have c1 := r118 l h1 h3 (frL p) hs nb (by rw [frL_len]; exact hnb) hnb4 hl (by rw [frL_len]; exact hpl)
  have c2 := r79 (frL p) (frL_vfl hf) (by rw [frL_len]; omega)
  rw [frL_rq] at c2
  obtain ⟨σ1, c3, o3⟩ := c117 l hl16 h3 p (fits_bds hf) hpl (.lst l.length (ints (nintsL l))) ((⟨[], 0⟩ : St).push ⟨[.int .i64 0, .int .i64 0], 2, false⟩) (.inl (by rw [nintsL_len]))
  obtain ⟨σ2, a1, a2, _⟩ := ((Bx.push (σ := ⟨[], 0⟩) (vs := [.int .i64 0, .int .i64 0]) (m := 2)).old o3).st (ws := QC (unQ l p)) rfl rfl
  have c4 := r80 (unQ_bd h3 (fits_bds hf) hpl) (by decide)
  rw [frA_yes hfu] at c4
  exact FnV.mk fn43 rfl md43 ⟨σ2, k43 _ _ _ _ _ _ _ _ _ _ _ σ1 σ2 rfl (fun σ => c1 σ _ rfl) (fun σ => c2.pure σ rfl rfl) c3 (fun σ => c4 σ _ rfl) a1 (a2.rd rfl)⟩ (fun _ => rfl) rfl

set_option maxHeartbeats 4000000 in
theorem k40 (n m d r : Nat) (N : Int) (c : List AV) (σ1 σ2 σ3 : St) (c1 : callI TT 112 [.lst n c] ⟨[], 0⟩ = some (.ptr 0 0, σ1)) (c2 : callI TT 113 [.ptr 0 0, .int .i64 3] σ1 = some (.int .i64 r, σ2)) (hu : wrapA .u64 (r : Int) = r) (hN : wrapA .i64 (shlA 2 (min r IntKind.i64.bits)) = N) (c3 : callI TT 114 [.ptr 0 0, .int .i64 N] σ2 = some (.sl d 0 m m, σ3)) :
    exI TT (FI.of Try.f40 (TT.an 40)) [.code (Try.f40.body.getD .skip)] (paramsE 0 [.lst n c]) ⟨[], 0⟩ = some (.sl d 0 m m, σ3) := by
  rw [fi40]
  simp only [Try.f40, Option.getD]
  simp (maxSteps := 1000000) (disch := omega) [cellsAt, getCells, takeN, dropN, fieldAddrA, allOne, AV.one, n_push, storeCellsA, putN, overN, St.push, St.get, St.set, hget, hset, blt_dec, buildA, sizesOf, fillA, putCells, List.take_succ_cons, List.take_zero, List.drop_succ_cons, List.drop_zero, List.nil_append, List.cons_append, List.length_cons, List.length_nil, eqvs_dgs, convA, c1, c2, hu, hN, c3]
theorem wrap_un {n : Nat} (h : n < 4294967296) : wrapA .u64 (n : Int) = n := by
  rw [wrapA_eq]; simp [IntKind.wrap, IntKind.bits, IntKind.signed]; omega
theorem r40 (l : List Nat) (hl : ∀ x ∈ l, x < 256) (hll : l.length ≤ 2000000) : ∃ (j : Nat) (ws : List Nat), 1 ≤ j ∧ j ≤ 3 ∧ Wts (2 ^ j) ws ∧ FnF TT 40 [.lst l.length (byts l)] (FS (chsL ws)) := by
  obtain ⟨σ1, c1, s1, n1, o1⟩ := c112 l ⟨[], 0⟩
  obtain ⟨r, k', m', σ2, c2, hr, s2, hk, n2, o2⟩ := c113 l hl hll 0 0 (by decide) 3 (by decide) σ1 0 s1
  have hr3 : r < 3 := by omega
  have hpw : 2 ^ (r + 1) ≤ 2 ^ 3 := Nat.pow_le_pow_right (by decide) (by omega)
  obtain ⟨ws, d, k2, m2, σ3, c3, e1, e2, e3, e4, e5, e6, e7, e8, e9⟩ := c114 l hl hll k' m' (2 ^ (r + 1)) (by omega) (Nat.two_pow_pos _) (by omega) σ2 0 s2
  have hN : wrapA .i64 (shlA 2 (min r IntKind.i64.bits)) = ((2 ^ (r + 1) : Nat) : Int) := by
    have : r = 0 ∨ r = 1 ∨ r = 2 := by omega
    rcases this with rfl | rfl | rfl <;> decide
  refine ⟨r + 1, ws, by omega, by omega, ⟨e1, e2, e3⟩, FnF.mk fn40 rfl md40 ⟨σ3, _, k40 _ _ _ r _ _ σ1 σ2 σ3 c1 c2 (wrap_un (by omega)) hN c3, ?_⟩⟩
  have := e4.frz (d := 4) (n := 2 ^ (r + 1)) (c := 2 ^ (r + 1)) (by rw [flat_len FC_len, chsL_len, e1]) (FC_frz' σ3 4 _) (Nat.le_refl _)
  rw [show FS (chsL ws) = .lst (2 ^ (r + 1)) (flat FC (chsL ws)) by rw [FS, chsL_len, e1]]
  exact this

noncomputable def b44 : Code := Try.f44.body.getD .skip
noncomputable def B44_0 : Code := (bodyC (bodyC (sndC (fstC (sndC (sndC (sndC b44)))))))
noncomputable def K44_0 : List It := .lp B44_0 :: .blk 0 :: .code (sndC (sndC (sndC (sndC b44)))) :: []
theorem xl44_0 {fi : FI} {env : Env} {σ : St} : exI TT fi K44_0 env σ = exI TT fi (.code B44_0 :: K44_0) env σ := by unfold K44_0; exact xI_lp
noncomputable def R44_0_0 : List It := .code (sndC (sndC (sndC (sndC b44)))) :: []
theorem eK44_0_0 : exitA 0 K44_0 = some R44_0_0 := rfl
set_option maxHeartbeats 4000000 in
theorem s44 (n P : Int) (nb b m b2 m2 x i : Nat) (σ σ1 σ2 σ3 : St) (hi : (i : Int) < n) (hu : wrapA .u64 (nb : Int) = nb) (hP : wrapA .i64 (shlA 1 (min nb IntKind.i64.bits)) = P) (c1 : callI TT 113 [.ptr 0 0, .int .i64 P] σ = some (.int .i64 x, σ1)) (c2 : buildSliceA TT σ1 48 1 [(0, .int .i64 x)] = some (.sl σ1.n 0 1 1, σ2)) (c3 : appendA TT σ2 48 48 (.sl b 0 m m) (.sl σ1.n 0 1 1) = some (.sl b2 0 m2 m2, σ3)) (hw : wrapA .i64 ((i : Int) + 1) = (i : Int) + 1) :
    exI TT (FI.of Try.f44 (TT.an 44)) K44_0 [(1, .int .i64 n), (2, .int .i64 nb), (7, .ptr 0 0), (8, .sl b 0 m m), (9, .int .i64 i)] σ = exI TT (FI.of Try.f44 (TT.an 44)) K44_0 [(1, .int .i64 n), (2, .int .i64 nb), (7, .ptr 0 0), (8, .sl b2 0 m2 m2), (9, .int .i64 ((i : Int) + 1))] σ3 := by
  rw [fi44]
  conv => lhs; rw [xl44_0]
  simp only [B44_0, b44, Try.f44, Option.getD, fstC, sndC, bodyC, thnC, elsC]
  simp (maxSteps := 1000000) (disch := omega) [eK44_0_0, getCells, takeN, dropN, fieldAddrA, allOne, AV.one, n_push, putN, overN, blt_dec, buildA, sizesOf, fillA, putCells, List.take_succ_cons, List.take_zero, List.drop_succ_cons, List.drop_zero, List.nil_append, List.cons_append, List.length_cons, List.length_nil, eqvs_dgs, convA, hi, hu, hP, c1, c2, c3, hw]
set_option maxHeartbeats 4000000 in
theorem e44 (n : Int) (nb b m i : Nat) (σ : St) (hi : n = i) :
    exI TT (FI.of Try.f44 (TT.an 44)) K44_0 [(1, .int .i64 n), (2, .int .i64 nb), (7, .ptr 0 0), (8, .sl b 0 m m), (9, .int .i64 i)] σ = some (.sl b 0 m m, σ) := by
  rw [fi44]
  conv => lhs; rw [xl44_0]
  simp only [B44_0, b44, Try.f44, Option.getD, fstC, sndC, bodyC, thnC, elsC]
  simp (maxSteps := 1000000) (disch := omega) [eK44_0_0, getCells, takeN, dropN, fieldAddrA, allOne, AV.one, n_push, putN, overN, blt_dec, buildA, sizesOf, fillA, putCells, List.take_succ_cons, List.take_zero, List.drop_succ_cons, List.drop_zero, List.nil_append, List.cons_append, List.length_cons, List.length_nil, eqvs_dgs, convA, hi]
  simp only [R44_0_0, b44, Try.f44, Option.getD, fstC, sndC, bodyC, thnC, elsC]
  simp (maxSteps := 1000000) (disch := omega) [eK44_0_0, getCells, takeN, dropN, fieldAddrA, allOne, AV.one, n_push, putN, overN, blt_dec, buildA, sizesOf, fillA, putCells, List.take_succ_cons, List.take_zero, List.drop_succ_cons, List.drop_zero, List.nil_append, List.cons_append, List.length_cons, List.length_nil, eqvs_dgs, convA, hi]
set_option maxHeartbeats 4000000 in
theorem b44e (n : Nat) (N : Int) (nb : Nat) (c : List AV) (σ0 σ1 : St) (c1 : callI TT 112 [.lst n c] ⟨[], 0⟩ = some (.ptr 0 0, σ0)) (c2 : buildSliceA TT σ0 48 0 [] = some (.sl σ0.n 0 0 0, σ1)) :
    exI TT (FI.of Try.f44 (TT.an 44)) [.code b44] (paramsE 0 [.lst n c, .int .i64 N, .int .i64 nb]) ⟨[], 0⟩ = exI TT (FI.of Try.f44 (TT.an 44)) K44_0 [(1, .int .i64 N), (2, .int .i64 nb), (7, .ptr 0 0), (8, .sl σ0.n 0 0 0), (9, .int .i64 0)] σ1 := by
  rw [fi44]
  simp only [b44, Try.f44, Option.getD, fstC, sndC, bodyC, thnC, elsC]
  simp (maxSteps := 1000000) (disch := omega) [eK44_0_0, getCells, takeN, dropN, fieldAddrA, allOne, AV.one, n_push, putN, overN, blt_dec, buildA, sizesOf, fillA, putCells, List.take_succ_cons, List.take_zero, List.drop_succ_cons, List.drop_zero, List.nil_append, List.cons_append, List.length_cons, List.length_nil, eqvs_dgs, convA, c1, c2]
  rfl
theorem l44 (l : List Nat) (hl : ∀ x ∈ l, x < 256) (hll : l.length ≤ 2000000) (n nb : Nat) (hn : n ≤ 3) (hnb : nb ≤ 4) : ∀ (mm i k m' : Nat) (ws : List Nat) (b : Nat) (σ : St), i + mm = n → ws.length = i → (∀ r ∈ ws, r < 2 ^ nb) → k + 2 * mm ≤ 600 → SRC σ 0 l k m' → b ≠ 0 → Row σ b (wints ws) →
    ∃ ws' b' σ', exI TT (FI.of Try.f44 (TT.an 44)) K44_0 [(1, .int .i64 (n : Nat)), (2, .int .i64 nb), (7, .ptr 0 0), (8, .sl b 0 i i), (9, .int .i64 i)] σ = some (.sl b' 0 n n, σ') ∧ ws'.length = n ∧ (∀ r ∈ ws', r < 2 ^ nb) ∧ Row σ' b' (wints ws') := by
  intro mm
  induction mm with
  | zero =>
    intro i k m' ws b σ hi hw hr hk hs hb0 hb
    obtain rfl : i = n := by omega
    exact ⟨ws, b, σ, e44 i nb b i i σ rfl, hw, hr, hb⟩
  | succ mm ih =>
    intro i k m' ws b σ hi hw hr hk hs hb0 hb
    have hi1 : ((i + 1 : Nat) : Int) = (i : Int) + 1 := by omega
    have hwr : wrapA .i64 ((i : Int) + 1) = (i : Int) + 1 := wrapA_id (by omega) (by omega)
    have hp : 2 ^ nb ≤ 2 ^ 4 := Nat.pow_le_pow_right (by decide) hnb
    have hp0 := Nat.two_pow_pos nb
    obtain ⟨x, k1, m1, σ1, c1, hx, s1, hk1, n1, o1⟩ := c113 l hl hll k m' (by omega) (2 ^ nb) (by omega) σ 0 hs
    have hb1 : Row σ1 b (wints ws) := hb.keep (Nat.le_of_eq n1.symm) (o1 b hb0)
    obtain ⟨σ3, a1, a2, a3, a4⟩ := append_row (T := TT) (st := 48) (x := (x : Int)) ty48 ty2 hb1 (n := i) (by simp [wints, hw]) (by omega)
    have hs3 : SRC σ3 0 l k1 m1 := ⟨by have := s1.1; omega, by rw [a4 0 (fun h => hb0 h.symm) s1.1]; exact s1.2.1, s1.2.2⟩
    have hsn := s1.1
    have hcat : wints ws ++ [(x : Int)] = wints (ws ++ [x]) := by simp [wints]
    obtain ⟨ws', b', σ', d1, d2, d3, d4⟩ := ih (i + 1) k1 m1 (ws ++ [x]) (σ1.n + 1) σ3 (by omega) (by simp [hw]) (fun r h => by
      rcases List.mem_append.1 h with h | h
      · exact hr r h
      · rw [List.mem_singleton.1 h]; omega) (by omega) hs3 (by omega) (hcat ▸ a2)
    rw [hi1] at d1
    refine ⟨ws', b', σ', ?_, d2, d3, d4⟩
    rw [← d1]
    exact s44 n ((2 ^ nb : Nat) : Int) nb b i (σ1.n + 1) (i + 1) x i σ σ1 _ σ3 (by omega) (wrap_un (by omega)) (pow_sh2 nb (by omega)) c1 (build_one ty48 ty2) a1 hwr
theorem r44 (l : List Nat) (hl : ∀ x ∈ l, x < 256) (hll : l.length ≤ 2000000) (n nb : Nat) (hn : n ≤ 3) (hnb : nb ≤ 4) : ∃ ws : List Nat, ws.length = n ∧ (∀ r ∈ ws, r < 2 ^ nb) ∧ FnF TT 44 [.lst l.length (byts l), .int .i64 n, .int .i64 nb] (.lst ws.length (ints (nintsL ws))) := by
  obtain ⟨σ1, c1, s1, n1, o1⟩ := c112 l ⟨[], 0⟩
  have hn1 : σ1.n = 1 := n1
  have hs : SRC (σ1.push ⟨ints [], 1, false⟩) 0 l 0 0 := ⟨by show 0 < σ1.n + 1; omega, by rw [get_push_lt (by omega)]; exact s1.2.1, s1.2.2⟩
  have hb := build_nil (T := TT) (σ := σ1) (st := 48) ty48 ty2
  obtain ⟨ws, b, σ', d1, d2, d3, d4⟩ := l44 l hl hll n nb hn hnb n 0 0 0 [] σ1.n (σ1.push ⟨ints [], 1, false⟩) (by omega) rfl (by intro r h; cases h) (by omega) hs (by omega) Row.push
  refine ⟨ws, d2, d3, FnF.mk fn44 rfl md44 ⟨σ', _, (b44e _ _ _ _ _ _ c1 hb).trans d1, ?_⟩⟩
  rw [d2]
  exact d4.frz (d := 4) (by simp [wints, d2]) (Nat.le_refl _)

noncomputable def b115 : Code := Try.f115.body.getD .skip
noncomputable def B115_0 : Code := (bodyC (bodyC (sndC (fstC (sndC (sndC (sndC b115)))))))
noncomputable def K115_0 : List It := .lp B115_0 :: .blk 0 :: .code (sndC (sndC (sndC (sndC b115)))) :: []
theorem xl115_0 {fi : FI} {env : Env} {σ : St} : exI TT fi K115_0 env σ = exI TT fi (.code B115_0 :: K115_0) env σ := by unfold K115_0; exact xI_lp
noncomputable def R115_0_0 : List It := .code (sndC (sndC (sndC (sndC b115)))) :: []
theorem eK115_0_0 : exitA 0 K115_0 = some R115_0_0 := rfl
noncomputable def B115_1 : Code := (bodyC (bodyC (sndC (fstC (sndC (sndC (bodyC (fstC (sndC (sndC (bodyC (bodyC (sndC (fstC (sndC (sndC (sndC b115)))))))))))))))))
noncomputable def K115_1 : List It := .lp B115_1 :: .blk 2 :: .code (sndC (sndC (sndC (bodyC (fstC (sndC (sndC (bodyC (bodyC (sndC (fstC (sndC (sndC (sndC b115)))))))))))))) :: .blk 1 :: .code (sndC (sndC (sndC (bodyC (bodyC (sndC (fstC (sndC (sndC (sndC b115)))))))))) :: K115_0
theorem xl115_1 {fi : FI} {env : Env} {σ : St} : exI TT fi K115_1 env σ = exI TT fi (.code B115_1 :: K115_1) env σ := by unfold K115_1; exact xI_lp
noncomputable def R115_1_2 : List It := .code (sndC (sndC (sndC (bodyC (fstC (sndC (sndC (bodyC (bodyC (sndC (fstC (sndC (sndC (sndC b115)))))))))))))) :: .blk 1 :: .code (sndC (sndC (sndC (bodyC (bodyC (sndC (fstC (sndC (sndC (sndC b115)))))))))) :: K115_0
theorem eK115_1_2 : exitA 2 K115_1 = some R115_1_2 := rfl
noncomputable def R115_1_1 : List It := .code (sndC (sndC (sndC (bodyC (bodyC (sndC (fstC (sndC (sndC (sndC b115)))))))))) :: K115_0
theorem eK115_1_1 : exitA 1 K115_1 = some R115_1_1 := rfl
theorem eK115_1_0 : exitA 0 K115_1 = some R115_0_0 := rfl
set_option maxHeartbeats 4000000 in
theorem a115 (n P i : Int) (nb z gg : Nat) (cap : List AV) (σ σ1 : St) (hz : (z : Int) < P) (c1 : buildSliceA TT σ 48 0 [] = some (.sl σ.n 0 0 0, σ1)) (hn : wrapA .i64 (n - 1) = i) :
    exI TT (FI.of Try.f115 (TT.an 115)) K115_0 [(0, .int .i64 n), (2, .fn gg [] cap), (7, .int .i64 nb), (33, .int .i64 P), (34, .int .i64 z)] σ = exI TT (FI.of Try.f115 (TT.an 115)) K115_1 [(0, .int .i64 n), (2, .fn gg [] cap), (7, .int .i64 nb), (9, .int .i64 z), (10, .sl σ.n 0 0 0), (11, .int .i64 i), (33, .int .i64 P), (34, .int .i64 z)] σ1 := by
  rw [fi115]
  conv => lhs; rw [xl115_0]
  simp only [B115_0, b115, Try.f115, Option.getD, fstC, sndC, bodyC, thnC, elsC]
  simp (maxSteps := 1000000) (disch := omega) [eK115_0_0, eK115_1_2, eK115_1_1, eK115_1_0, getCells, takeN, dropN, fieldAddrA, allOne, AV.one, n_push, putN, overN, blt_dec, buildA, sizesOf, fillA, putCells, List.take_succ_cons, List.take_zero, List.drop_succ_cons, List.drop_zero, List.nil_append, List.cons_append, List.length_cons, List.length_nil, eqvs_dgs, convA, hz, c1, hn]
  rfl
set_option maxHeartbeats 4000000 in
theorem s115 (n P i i2 P1 : Int) (nb z gg b m b2 m2 s x M y : Nat) (cap : List AV) (σ σ1 σ2 : St) (hi : 0 ≤ i) (h1 : wrapA .i64 (i * (nb : Int)) = (s : Int)) (h2 : shrA (z : Int) (min s IntKind.i64.bits) = (x : Int)) (h3 : wrapA .i64 (shlA 1 (min nb IntKind.i64.bits)) = P1) (h4 : wrapA .i64 (P1 - 1) = (M : Int)) (h5 : bitsA .and .i64 (x : Int) (M : Int) = some (.int .i64 (y : Int))) (c1 : buildSliceA TT σ 48 1 [(0, .int .i64 y)] = some (.sl σ.n 0 1 1, σ1)) (c2 : appendA TT σ1 48 48 (.sl b 0 m m) (.sl σ.n 0 1 1) = some (.sl b2 0 m2 m2, σ2)) (h6 : wrapA .i64 (i - 1) = i2) :
    exI TT (FI.of Try.f115 (TT.an 115)) K115_1 [(0, .int .i64 n), (2, .fn gg [] cap), (7, .int .i64 nb), (9, .int .i64 z), (10, .sl b 0 m m), (11, .int .i64 i), (33, .int .i64 P), (34, .int .i64 z)] σ = exI TT (FI.of Try.f115 (TT.an 115)) K115_1 [(0, .int .i64 n), (2, .fn gg [] cap), (7, .int .i64 nb), (9, .int .i64 z), (10, .sl b2 0 m2 m2), (11, .int .i64 i2), (33, .int .i64 P), (34, .int .i64 z)] σ2 := by
  rw [fi115]
  conv => lhs; rw [xl115_1]
  simp only [B115_1, b115, Try.f115, Option.getD, fstC, sndC, bodyC, thnC, elsC]
  simp (maxSteps := 1000000) (disch := omega) [eK115_0_0, eK115_1_2, eK115_1_1, eK115_1_0, getCells, takeN, dropN, fieldAddrA, allOne, AV.one, n_push, putN, overN, blt_dec, buildA, sizesOf, fillA, putCells, List.take_succ_cons, List.take_zero, List.drop_succ_cons, List.drop_zero, List.nil_append, List.cons_append, List.length_cons, List.length_nil, eqvs_dgs, convA, hi, h1, h2, h3, h4, h5, c1, c2, h6]
set_option maxHeartbeats 4000000 in
theorem x115 (n P : Int) (nb z gg b m : Nat) (cap : List AV) (σ σ1 : St) (c1 : callI TT gg (.sl b 0 m m :: cap) σ = some (.tup [], σ1)) (hz : wrapA .i64 ((z : Int) + 1) = (z : Int) + 1) :
    exI TT (FI.of Try.f115 (TT.an 115)) K115_1 [(0, .int .i64 n), (2, .fn gg [] cap), (7, .int .i64 nb), (9, .int .i64 z), (10, .sl b 0 m m), (11, .int .i64 (-1)), (33, .int .i64 P), (34, .int .i64 z)] σ = exI TT (FI.of Try.f115 (TT.an 115)) K115_0 [(0, .int .i64 n), (2, .fn gg [] cap), (7, .int .i64 nb), (33, .int .i64 P), (34, .int .i64 ((z : Int) + 1))] σ1 := by
  rw [fi115]
  conv => lhs; rw [xl115_1]
  simp only [B115_1, b115, Try.f115, Option.getD, fstC, sndC, bodyC, thnC, elsC]
  simp (maxSteps := 1000000) (disch := omega) [eK115_0_0, eK115_1_2, eK115_1_1, eK115_1_0, getCells, takeN, dropN, fieldAddrA, allOne, AV.one, n_push, putN, overN, blt_dec, buildA, sizesOf, fillA, putCells, List.take_succ_cons, List.take_zero, List.drop_succ_cons, List.drop_zero, List.nil_append, List.cons_append, List.length_cons, List.length_nil, eqvs_dgs, convA, c1, hz]
  simp only [R115_1_2, b115, Try.f115, Option.getD, fstC, sndC, bodyC, thnC, elsC]
  simp (maxSteps := 1000000) (disch := omega) [eK115_0_0, eK115_1_2, eK115_1_1, eK115_1_0, getCells, takeN, dropN, fieldAddrA, allOne, AV.one, n_push, putN, overN, blt_dec, buildA, sizesOf, fillA, putCells, List.take_succ_cons, List.take_zero, List.drop_succ_cons, List.drop_zero, List.nil_append, List.cons_append, List.length_cons, List.length_nil, eqvs_dgs, convA, c1, hz]
set_option maxHeartbeats 4000000 in
theorem e115 (n : Int) (nb z gg : Nat) (cap : List AV) (σ : St)  :
    exI TT (FI.of Try.f115 (TT.an 115)) K115_0 [(0, .int .i64 n), (2, .fn gg [] cap), (7, .int .i64 nb), (33, .int .i64 z), (34, .int .i64 z)] σ = some (.bool true, σ) := by
  rw [fi115]
  conv => lhs; rw [xl115_0]
  simp only [B115_0, b115, Try.f115, Option.getD, fstC, sndC, bodyC, thnC, elsC]
  simp (maxSteps := 1000000) (disch := omega) [eK115_0_0, eK115_1_2, eK115_1_1, eK115_1_0, getCells, takeN, dropN, fieldAddrA, allOne, AV.one, n_push, putN, overN, blt_dec, buildA, sizesOf, fillA, putCells, List.take_succ_cons, List.take_zero, List.drop_succ_cons, List.drop_zero, List.nil_append, List.cons_append, List.length_cons, List.length_nil, eqvs_dgs, convA]
  simp only [R115_0_0, b115, Try.f115, Option.getD, fstC, sndC, bodyC, thnC, elsC]
  simp (maxSteps := 1000000) (disch := omega) [eK115_0_0, eK115_1_2, eK115_1_1, eK115_1_0, getCells, takeN, dropN, fieldAddrA, allOne, AV.one, n_push, putN, overN, blt_dec, buildA, sizesOf, fillA, putCells, List.take_succ_cons, List.take_zero, List.drop_succ_cons, List.drop_zero, List.nil_append, List.cons_append, List.length_cons, List.length_nil, eqvs_dgs, convA]
set_option maxHeartbeats 4000000 in
theorem b115e (k : Nat) (n P : Int) (nb S gg : Nat) (cells cap : List AV) (σ : St) (c1 : ∀ σ, callI TT 59 [.lst k cells] σ = some (.tup [.int .i64 nb, .bool true], σ)) (c2 : ∀ σ, callI TT 63 [.int .i64 n, .int .i64 1, .int .i64 3] σ = some (.bool true, σ)) (h1 : wrapA .i64 (n * (nb : Int)) = (S : Int)) (h8 : ¬ (8 : Int) < (S : Int)) (h2 : wrapA .i64 (shlA 1 (min S IntKind.i64.bits)) = P) :
    exI TT (FI.of Try.f115 (TT.an 115)) [.code b115] (paramsE 0 [.int .i64 n, .lst k cells, .fn gg [] cap]) σ = exI TT (FI.of Try.f115 (TT.an 115)) K115_0 [(0, .int .i64 n), (2, .fn gg [] cap), (7, .int .i64 nb), (33, .int .i64 P), (34, .int .i64 0)] σ := by
  rw [fi115]
  simp only [b115, Try.f115, Option.getD, fstC, sndC, bodyC, thnC, elsC]
  simp (maxSteps := 1000000) (disch := omega) [eK115_0_0, eK115_1_2, eK115_1_1, eK115_1_0, getCells, takeN, dropN, fieldAddrA, allOne, AV.one, n_push, putN, overN, blt_dec, buildA, sizesOf, fillA, putCells, List.take_succ_cons, List.take_zero, List.drop_succ_cons, List.drop_zero, List.nil_append, List.cons_append, List.length_cons, List.length_nil, eqvs_dgs, convA, c1, c2, h1, h8, h2]
  rfl
/-- A row of a list of rows, by its number. -/
def rdig (nb z i : Nat) : Nat := z / 2 ^ (i * nb) &&& (2 ^ nb - 1)
/-- The rows of a number, the last ones. -/
def rowsT (nb z : Nat) : Nat → List Nat
  | 0 => []
  | i + 1 => rdig nb z i :: rowsT nb z i
theorem rowsT_len (nb z : Nat) : ∀ i, (rowsT nb z i).length = i
  | 0 => rfl
  | i + 1 => by simp [rowsT, rowsT_len nb z i]
theorem rdig_lt (nb z i : Nat) : rdig nb z i < 2 ^ nb := by
  have h := Nat.two_pow_pos nb
  have : rdig nb z i ≤ 2 ^ nb - 1 := Nat.and_le_right
  omega
theorem rowsT_lt (nb z : Nat) : ∀ i, ∀ r ∈ rowsT nb z i, r < 2 ^ nb
  | 0, r, h => by cases h
  | i + 1, r, h => by
    rcases List.mem_cons.1 h with h | h
    · rw [h]; exact rdig_lt nb z i
    · exact rowsT_lt nb z i r h
theorem l115A (n nb z gg : Nat) (P : Int) (cap : List AV) (h3 : n ≤ 3) (h8 : n * nb ≤ 8) (hz : z < 256) (hnb : nb ≤ 8) (σ0 : St) : ∀ (j : Nat) (acc : List Nat) (b : Nat) (σ : St), acc.length + j = n → Old σ0 σ → σ0.n ≤ b → Row σ b (wints acc) →
    ∃ b' σ', exI TT (FI.of Try.f115 (TT.an 115)) K115_1 [(0, .int .i64 (n : Nat)), (2, .fn gg [] cap), (7, .int .i64 nb), (9, .int .i64 z), (10, .sl b 0 acc.length acc.length), (11, .int .i64 ((j : Int) - 1)), (33, .int .i64 P), (34, .int .i64 z)] σ = exI TT (FI.of Try.f115 (TT.an 115)) K115_1 [(0, .int .i64 (n : Nat)), (2, .fn gg [] cap), (7, .int .i64 nb), (9, .int .i64 z), (10, .sl b' 0 n n), (11, .int .i64 (-1)), (33, .int .i64 P), (34, .int .i64 z)] σ' ∧ Old σ0 σ' ∧ σ0.n ≤ b' ∧ Row σ' b' (wints (acc ++ rowsT nb z j)) := by
  intro j
  induction j with
  | zero =>
    intro acc b σ hj ho hb hr
    obtain rfl : acc.length = n := by omega
    exact ⟨b, σ, rfl, ho, hb, by rw [rowsT, List.append_nil]; exact hr⟩
  | succ j ih =>
    intro acc b σ hj ho hb hr
    have hj1 : (((j + 1 : Nat) : Int) - 1) = (j : Int) := by omega
    have hjn : j * nb ≤ n * nb := Nat.mul_le_mul_right _ (by omega)
    have hp : 2 ^ nb ≤ 2 ^ 8 := Nat.pow_le_pow_right (by decide) hnb
    have hp0 := Nat.two_pow_pos nb
    have hd := rdig_lt nb z j
    obtain ⟨σ2, a1, a2, a3, a4⟩ := append_row (T := TT) (st := 48) (x := (rdig nb z j : Int)) ty48 ty2 hr (n := acc.length) (by simp [wints]) (by omega)
    have hbl : b < σ.n := by obtain ⟨_, _, h⟩ := hr; exact h
    have hon := ho.1
    have o2 : Old σ0 σ2 := ⟨by omega, fun c hc => by rw [a4 c (by omega) (by omega)]; exact ho.2 c hc⟩
    have hcat : wints acc ++ [(rdig nb z j : Int)] = wints (acc ++ [rdig nb z j]) := by simp [wints]
    obtain ⟨b', σ', d1, d2, d3, d4⟩ := ih (acc ++ [rdig nb z j]) (σ.n + 1) σ2 (by simp; omega) o2 (by omega) (hcat ▸ a2)
    rw [List.length_append, List.length_singleton] at d1
    refine ⟨b', σ', ?_, d2, d3, ?_⟩
    · rw [hj1, ← d1]
      have hx : z / 2 ^ (j * nb) ≤ z := Nat.div_le_self _ _
      exact s115 n P j ((j : Int) - 1) ((2 ^ nb : Nat) : Int) nb z gg b acc.length (σ.n + 1) (acc.length + 1) (j * nb) (z / 2 ^ (j * nb)) (2 ^ nb - 1) (rdig nb z j) cap σ _ σ2 (by omega) (by rw [← Int.natCast_mul]; exact wrapA_id (by omega) (by omega)) (by rw [Nat.min_eq_left (by simp [IntKind.bits]; omega)]; exact w_shr _ _) (pow_sh2 nb (by omega)) (by rw [show ((2 ^ nb : Nat) : Int) - 1 = ((2 ^ nb - 1 : Nat) : Int) by omega]; exact wrapA_id (by omega) (by omega)) (w_and .i64 (by simp only [topOf]; omega) (by simp only [topOf]; omega)) (build_one ty48 ty2) a1 (wrapA_id (by omega) (by omega))
    · rw [List.append_assoc] at d4
      exact d4
theorem l115 (n nb gg : Nat) (cap : List AV) (h1 : 1 ≤ n) (h3 : n ≤ 3) (h8 : n * nb ≤ 8) (hnb : nb ≤ 8) (I : Nat → St → Prop) (N0 : Nat) (hI : ∀ z σ σ', I z σ → Old σ σ' → I z σ')
    (hst : ∀ z σ b, z < 2 ^ (n * nb) → I z σ → N0 ≤ b → Row σ b (wints (rowsT nb z n)) → ∃ σ', callI TT gg (.sl b 0 n n :: cap) σ = some (.tup [], σ') ∧ N0 ≤ σ'.n ∧ I (z + 1) σ') :
    ∀ (k z : Nat) (σ : St), z + k = 2 ^ (n * nb) → N0 ≤ σ.n → I z σ → ∃ σ', exI TT (FI.of Try.f115 (TT.an 115)) K115_0 [(0, .int .i64 (n : Nat)), (2, .fn gg [] cap), (7, .int .i64 nb), (33, .int .i64 (2 ^ (n * nb) : Nat)), (34, .int .i64 z)] σ = some (.bool true, σ') ∧ I (2 ^ (n * nb)) σ' := by
  intro k
  have hP : 2 ^ (n * nb) ≤ 2 ^ 8 := Nat.pow_le_pow_right (by decide) h8
  induction k with
  | zero =>
    intro z σ hz hN h
    obtain rfl : z = 2 ^ (n * nb) := by omega
    exact ⟨σ, e115 _ _ _ _ _ σ, h⟩
  | succ k ih =>
    intro z σ hz hN h
    have hz1 : ((z + 1 : Nat) : Int) = (z : Int) + 1 := by omega
    have c1 := build_nil (T := TT) (σ := σ) (st := 48) ty48 ty2
    have st := a115 n ((2 ^ (n * nb) : Nat) : Int) ((n : Int) - 1) nb z gg cap σ _ (by omega) c1 (wrapA_id (by omega) (by omega))
    obtain ⟨b, σ1, d1, d2, d3, d4⟩ := l115A n nb z gg ((2 ^ (n * nb) : Nat) : Int) cap h3 h8 (by omega) hnb σ n [] σ.n (σ.push ⟨ints [], 1, false⟩) (by simp) Old.push (Nat.le_refl _) Row.push
    obtain ⟨σ2, e1, e2, e3⟩ := hst z σ1 b (by omega) (hI _ _ _ h d2) (by omega) d4
    obtain ⟨σ', k1, k2⟩ := ih (z + 1) σ2 (by omega) e2 e3
    rw [hz1] at k1
    exact ⟨σ', (st.trans (d1.trans (x115 n _ nb z gg b n cap σ1 σ2 e1 (wrapA_id (by omega) (by omega))))).trans k1, k2⟩
theorem c115 (n nb gg : Nat) (cap : List AV) (h1 : 1 ≤ n) (h3 : n ≤ 3) (h8 : n * nb ≤ 8) (lf : List (Int × Int)) (hs : isSrc lf = true) (hlf : lf.length ≤ 10000000) (hnb : (bl lf.length : Int) - 1 = nb) (I : Nat → St → Prop) (hI : ∀ z σ σ', I z σ → Old σ σ' → I z σ') (σ : St)
    (hst : ∀ z σ1 b, z < 2 ^ (n * nb) → I z σ1 → σ.n ≤ b → Row σ1 b (wints (rowsT nb z n)) → ∃ σ', callI TT gg (.sl b 0 n n :: cap) σ1 = some (.tup [], σ') ∧ σ.n ≤ σ'.n ∧ I (z + 1) σ') (h0 : I 0 σ) :
    ∃ σ', callI TT 115 [.int .i64 n, FS lf, .fn gg [] cap] σ = some (.bool true, σ') ∧ I (2 ^ (n * nb)) σ' := by
  have hnb8 : nb ≤ 8 := Nat.le_trans (by have := Nat.mul_le_mul_right nb h1; omega) h8
  obtain ⟨σ', k1, k2⟩ := l115 n nb gg cap h1 h3 h8 hnb8 I σ.n hI hst (2 ^ (n * nb)) 0 σ (by omega) (Nat.le_refl _) h0
  have c1 := fun σ => r59 lf hlf σ [FS lf] rfl
  rw [hs, hnb] at c1
  have c2 := fun σ => v63 n 1 3 σ [.int .i64 n, .int .i64 1, .int .i64 3] rfl
  have e3 : (decide ((1 : Int) ≤ (n : Int)) && decide ((n : Int) ≤ 3)) = true := by rw [decide_eq_true (by omega), decide_eq_true (by omega)]; rfl
  rw [e3] at c2
  refine ⟨σ', ?_, k2⟩
  exact (cI_0 fn115 rfl md115).trans ((b115e lf.length n ((2 ^ (n * nb) : Nat) : Int) nb (n * nb) gg (flat FC lf) cap σ c1 c2 (by rw [← Int.natCast_mul]; exact wrapA_id (by omega) (by omega)) (by omega) (pow_sh2 (n * nb) (by omega))).trans k1)

set_option maxHeartbeats 4000000 in
theorem k116n (N n b b0 L B E : Nat) (ps d e : List AV) (k : Int) (σ σ1 σ2 σ3 σ4 : St) (l1 : cellsAt σ (.ptr L 0) 1 = some [.lst N ps]) (c1 : callI TT 117 [.sl b 0 n n, .lst N ps] σ = some (.agg d, σ1)) (hd : d.length = 3) (s1 : storeCellsA (σ1.push ⟨[.bool false, .nilS, .nilS], 3, false⟩) σ1.n 0 d = some σ2) (l2 : cellsAt σ2 (.ptr B 0) 1 = some [.nilS]) (l3 : cellsAt σ2 (.ptr σ1.n 0) 3 = some d) (l3b : cellsAt σ3 (.ptr σ1.n 0) 3 = some d) (hed : eqvs d d = true) (s2 : storeCellsA σ2 B 0 [.sl b 0 n n] = some σ3) (s3 : storeCellsA σ3 E 0 d = some σ4) :
    exI TT (FI.of Try.f116 (TT.an 116)) [.code (Try.f116.body.getD .skip)] (paramsE 0 [.sl b 0 n n, .ptr L 0, .ptr B 0, .ptr E 0]) σ = some (.tup [], σ4) := by
  rw [fi116]
  simp only [Try.f116, Option.getD]
  simp (maxSteps := 1000000) (disch := omega) [getCells, takeN, dropN, fieldAddrA, allOne, AV.one, n_push, putN, overN, blt_dec, buildA, sizesOf, fillA, putCells, List.take_succ_cons, List.take_zero, List.drop_succ_cons, List.drop_zero, List.nil_append, List.cons_append, List.length_cons, List.length_nil, eqvs_dgs, convA, binNil, eqNil, l1, c1, hd, s1, l2, l3, l3b, hed, s2, s3]
set_option maxHeartbeats 4000000 in
theorem k116y (N n b b0 L B E : Nat) (ps d e : List AV) (k : Int) (σ σ1 σ2 σ3 σ4 : St) (l1 : cellsAt σ (.ptr L 0) 1 = some [.lst N ps]) (c1 : callI TT 117 [.sl b 0 n n, .lst N ps] σ = some (.agg d, σ1)) (hd : d.length = 3) (s1 : storeCellsA (σ1.push ⟨[.bool false, .nilS, .nilS], 3, false⟩) σ1.n 0 d = some σ2) (l2 : cellsAt σ2 (.ptr B 0) 1 = some [.sl b0 0 n n]) (l3 : cellsAt σ2 (.ptr σ1.n 0) 3 = some d) (l4 : cellsAt σ2 (.ptr E 0) 3 = some e) (c2 : callI TT 73 [.agg d, .agg e] σ2 = some (.int .i64 k, σ2)) (l3b : cellsAt σ3 (.ptr σ1.n 0) 3 = some d) (hed : eqvs d d = true) (s2 : storeCellsA σ2 B 0 [.sl b 0 n n] = some σ3) (s3 : storeCellsA σ3 E 0 d = some σ4) (hk : k < 0) :
    exI TT (FI.of Try.f116 (TT.an 116)) [.code (Try.f116.body.getD .skip)] (paramsE 0 [.sl b 0 n n, .ptr L 0, .ptr B 0, .ptr E 0]) σ = some (.tup [], σ4) := by
  rw [fi116]
  simp only [Try.f116, Option.getD]
  simp (maxSteps := 1000000) (disch := omega) [getCells, takeN, dropN, fieldAddrA, allOne, AV.one, n_push, putN, overN, blt_dec, buildA, sizesOf, fillA, putCells, List.take_succ_cons, List.take_zero, List.drop_succ_cons, List.drop_zero, List.nil_append, List.cons_append, List.length_cons, List.length_nil, eqvs_dgs, convA, binNil, eqNil, l1, c1, hd, s1, l2, l3, l4, c2, l3b, hed, s2, s3, hk]
set_option maxHeartbeats 4000000 in
theorem k116z (N n b b0 L B E : Nat) (ps d e : List AV) (k : Int) (σ σ1 σ2 σ3 σ4 : St) (l1 : cellsAt σ (.ptr L 0) 1 = some [.lst N ps]) (c1 : callI TT 117 [.sl b 0 n n, .lst N ps] σ = some (.agg d, σ1)) (hd : d.length = 3) (s1 : storeCellsA (σ1.push ⟨[.bool false, .nilS, .nilS], 3, false⟩) σ1.n 0 d = some σ2) (l2 : cellsAt σ2 (.ptr B 0) 1 = some [.sl b0 0 n n]) (l3 : cellsAt σ2 (.ptr σ1.n 0) 3 = some d) (l4 : cellsAt σ2 (.ptr E 0) 3 = some e) (c2 : callI TT 73 [.agg d, .agg e] σ2 = some (.int .i64 k, σ2)) (hk : ¬ k < 0) :
    exI TT (FI.of Try.f116 (TT.an 116)) [.code (Try.f116.body.getD .skip)] (paramsE 0 [.sl b 0 n n, .ptr L 0, .ptr B 0, .ptr E 0]) σ = some (.tup [], σ2) := by
  rw [fi116]
  simp only [Try.f116, Option.getD]
  simp (maxSteps := 1000000) (disch := omega) [getCells, takeN, dropN, fieldAddrA, allOne, AV.one, n_push, putN, overN, blt_dec, buildA, sizesOf, fillA, putCells, List.take_succ_cons, List.take_zero, List.drop_succ_cons, List.drop_zero, List.nil_append, List.cons_append, List.length_cons, List.length_nil, eqvs_dgs, convA, binNil, eqNil, l1, c1, hd, s1, l2, l3, l4, c2, hk]
set_option maxHeartbeats 4000000 in
theorem k119 (N n b S L M : Nat) (ps d s u : List AV) (m m2 : Int) (σ σ1 σ2 σ3 : St) (l1 : cellsAt σ (.ptr S 0) 3 = some s) (l1b : cellsAt σ1 (.ptr S 0) 3 = some s) (l2 : cellsAt σ (.ptr L 0) 1 = some [.lst N ps]) (c1 : callI TT 117 [.sl b 0 n n, .lst N ps] σ = some (.agg d, σ1)) (c2 : ∀ σ, callI TT 85 [.agg s, .agg d] σ = some (.agg u, σ)) (hes : eqvs s s = true) (hu : u.length = 3) (s1 : storeCellsA σ1 S 0 u = some σ2) (l3 : cellsAt σ2 (.ptr M 0) 1 = some [.int .i64 m]) (hm : wrapA .i64 (m + 1) = m2) (s2 : storeCellsA σ2 M 0 [.int .i64 m2] = some σ3) :
    exI TT (FI.of Try.f119 (TT.an 119)) [.code (Try.f119.body.getD .skip)] (paramsE 0 [.sl b 0 n n, .ptr S 0, .ptr L 0, .ptr M 0]) σ = some (.tup [], σ3) := by
  rw [fi119]
  simp only [Try.f119, Option.getD]
  simp (maxSteps := 1000000) (disch := omega) [getCells, takeN, dropN, fieldAddrA, allOne, AV.one, n_push, putN, overN, blt_dec, buildA, sizesOf, fillA, putCells, List.take_succ_cons, List.take_zero, List.drop_succ_cons, List.drop_zero, List.nil_append, List.cons_append, List.length_cons, List.length_nil, eqvs_dgs, convA, binNil, eqNil, l1, l1b, l2, c1, c2, hes, hu, s1, l3, hm, s2]
set_option maxHeartbeats 4000000 in
theorem k42 (k N m b : Nat) (n x y : Int) (cells ps o d : List AV) (σ0 σ1 σ2 σ3 σ4 σ6 σ7 : St) (h0 : (((((⟨[], 0⟩ : St).push ⟨[.int .i64 0, .int .i64 0], 2, false⟩).push ⟨[.nilS], 1, false⟩).push ⟨[.bool false, .nilS, .nilS], 3, false⟩).push ⟨[.nilS], 1, false⟩) = σ0) (c1 : ∀ σ, callI TT 84 [.int .i64 0] σ = some (.agg o, σ)) (c2 : ∀ σ, callI TT 79 [.lst k cells] σ = some (.lst N ps, σ)) (ho : o.length = 3) (s1 : storeCellsA σ0 1 0 [.nilS] = some σ1) (s2 : storeCellsA σ1 2 0 o = some σ2) (s3 : storeCellsA σ2 3 0 [.lst N ps] = some σ3) (c3 : callI TT 115 [.int .i64 n, .lst k cells, .fn 116 [] [.ptr 3 0, .ptr 1 0, .ptr 2 0]] σ3 = some (.bool true, σ4)) (l1 : cellsAt σ4 (.ptr 2 0) 3 = some d) (c4 : ∀ σ, callI TT 80 [.agg d] σ = some (.tup [.agg [.int .i64 x, .int .i64 y], .bool true], σ)) (s4 : storeCellsA (σ4.push ⟨[.int .i64 0, .int .i64 0], 2, false⟩) σ4.n 0 [.int .i64 x, .int .i64 y] = some σ6) (l2 : cellsAt σ6 (.ptr 1 0) 1 = some [.sl b 0 m m]) (l3 : cellsAt σ6 (.ptr σ4.n 0) 2 = some [.int .i64 x, .int .i64 y]) (s5 : storeCellsA σ6 0 0 [.int .i64 x, .int .i64 y] = some σ7) (l2b : cellsAt σ7 (.ptr 1 0) 1 = some [.sl b 0 m m]) (l4 : cellsAt σ7 (.ptr 0 0) 2 = some [.int .i64 x, .int .i64 y]) :
    exI TT (FI.of Try.f42 (TT.an 42)) [.code (Try.f42.body.getD .skip)] (paramsE 0 [.int .i64 n, .lst k cells]) ⟨[], 0⟩ = some (.tup [.sl b 0 m m, .agg [.int .i64 x, .int .i64 y], .bool true], σ7) := by
  rw [fi42]
  simp only [Try.f42, Option.getD]
  simp (maxSteps := 1000000) (disch := omega) [getCells, takeN, dropN, fieldAddrA, allOne, AV.one, n_push, putN, overN, blt_dec, buildA, sizesOf, fillA, putCells, List.take_succ_cons, List.take_zero, List.drop_succ_cons, List.drop_zero, List.nil_append, List.cons_append, List.length_cons, List.length_nil, eqvs_dgs, convA, binNil, eqNil, h0, c1, c2, ho, s1, s2, s3, c3, l1, c4, s4, l2, l3, s5, l2b, l4]
set_option maxHeartbeats 4000000 in
theorem k45 (k N : Nat) (n m x y : Int) (cells ps o d w v : List AV) (σ0 σ1 σ2 σ3 σ4 σ5 : St) (h0 : (((((⟨[], 0⟩ : St).push ⟨[.int .i64 0, .int .i64 0], 2, false⟩).push ⟨[.bool false, .nilS, .nilS], 3, false⟩).push ⟨[.int .i64 0], 1, false⟩).push ⟨[.nilS], 1, false⟩) = σ0) (c1 : ∀ σ, callI TT 84 [.int .i64 0] σ = some (.agg o, σ)) (c2 : ∀ σ, callI TT 79 [.lst k cells] σ = some (.lst N ps, σ)) (ho : o.length = 3) (s1 : storeCellsA σ0 1 0 o = some σ1) (s2 : storeCellsA σ1 2 0 [.int .i64 0] = some σ2) (s3 : storeCellsA σ2 3 0 [.lst N ps] = some σ3) (c3 : callI TT 115 [.int .i64 n, .lst k cells, .fn 119 [] [.ptr 1 0, .ptr 3 0, .ptr 2 0]] σ3 = some (.bool true, σ4)) (l1 : cellsAt σ4 (.ptr 1 0) 3 = some d) (l2 : cellsAt σ4 (.ptr 2 0) 1 = some [.int .i64 m]) (c4 : ∀ σ, callI TT 84 [.int .i64 m] σ = some (.agg w, σ)) (c5 : ∀ σ, callI TT 111 [.agg d, .agg w] σ = some (.agg v, σ)) (c6 : ∀ σ, callI TT 80 [.agg v] σ = some (.tup [.agg [.int .i64 x, .int .i64 y], .bool true], σ)) (hed : eqvs d d = true) (s4 : storeCellsA σ4 0 0 [.int .i64 x, .int .i64 y] = some σ5) (l4 : cellsAt σ5 (.ptr 0 0) 2 = some [.int .i64 x, .int .i64 y]) :
    exI TT (FI.of Try.f45 (TT.an 45)) [.code (Try.f45.body.getD .skip)] (paramsE 0 [.int .i64 n, .lst k cells]) ⟨[], 0⟩ = some (.tup [.agg [.int .i64 x, .int .i64 y], .bool true], σ5) := by
  rw [fi45]
  simp only [Try.f45, Option.getD]
  simp (maxSteps := 1000000) (disch := omega) [getCells, takeN, dropN, fieldAddrA, allOne, AV.one, n_push, putN, overN, blt_dec, buildA, sizesOf, fillA, putCells, List.take_succ_cons, List.take_zero, List.drop_succ_cons, List.drop_zero, List.nil_append, List.cons_append, List.length_cons, List.length_nil, eqvs_dgs, convA, binNil, eqNil, h0, c1, c2, ho, s1, s2, s3, c3, l1, l2, c4, c5, c6, hed, s4, l4]
/-- What the cells of the best rows hold behind so many lists of rows. -/
def BI (n nb : Nat) (p : List Rat) (L B E N0 z : Nat) (σ : St) : Prop :=
  Bx σ L [RS p] ∧ ((z = 0 ∧ Bx σ B [.nilS] ∧ ∃ cs : List AV, cs.length = 3 ∧ Bx σ E cs) ∨
    ∃ b k, k < z ∧ N0 ≤ b ∧ Bx σ B [.sl b 0 n n] ∧ Row σ b (wints (rowsT nb k n)) ∧ Bx σ E (RC (unQ (rowsT nb k n) p)) ∧ ∀ j, j < z → unQ (rowsT nb k n) p ≤ unQ (rowsT nb j n) p)
theorem BI.old {n nb : Nat} {p : List Rat} {L B E N0 z : Nat} {σ σ' : St} (h : BI n nb p L B E N0 z σ) (o : Old σ σ') : BI n nb p L B E N0 z σ' := by
  obtain ⟨h1, h2⟩ := h
  refine ⟨h1.old o, ?_⟩
  rcases h2 with ⟨e, a, cs, hc, c⟩ | ⟨b, k, h3, h4, h5, h6, h7, h8⟩
  · exact .inl ⟨e, a.old o, cs, hc, c.old o⟩
  · exact .inr ⟨b, k, h3, h4, h5.old o, h6.old o, h7.old o, h8⟩
theorem rows16 {nb : Nat} (hnb : nb ≤ 4) (z n : Nat) : ∀ r ∈ rowsT nb z n, r < 16 := fun r hr => by
  have := rowsT_lt nb z n r hr
  have hp : 2 ^ nb ≤ 2 ^ 4 := Nat.pow_le_pow_right (by decide) hnb
  omega
theorem row_rv {σ : St} {b nb z n : Nat} (h : Row σ b (wints (rowsT nb z n))) : RvL σ (.sl b 0 n n) (nintsL (rowsT nb z n)) := .inr ⟨b, by rw [nintsL_len, rowsT_len], h⟩

theorem c116 (n nb : Nat) (h3 : n ≤ 3) (hnb : nb ≤ 4) (p : List Rat) (hp : ∀ x ∈ p, Bd 60 x) (hpl : p.length ≤ 16) (L B E N0 : Nat) (hB : B < N0) (hE : E < N0) (hLB : L ≠ B) (hLE : L ≠ E) (hBE : B ≠ E) (z : Nat) (σ : St) (b : Nat) (hI : BI n nb p L B E N0 z σ) (hb : N0 ≤ b) (hr : Row σ b (wints (rowsT nb z n))) :
    ∃ σ', callI TT 116 [.sl b 0 n n, .ptr L 0, .ptr B 0, .ptr E 0] σ = some (.tup [], σ') ∧ N0 ≤ σ'.n ∧ BI n nb p L B E N0 (z + 1) σ' ∧ ∀ c, c < N0 → c ≠ B → c ≠ E → σ'.get c = σ.get c := by
  obtain ⟨hL1, hI2⟩ := hI
  have hrl := hr.lt
  have hbd := fun k => unQ_bd (l := rowsT nb k n) (by rw [rowsT_len]; exact h3) hp hpl
  obtain ⟨σ1, c1, o1⟩ := c117 (rowsT nb z n) (rows16 hnb z n) (by rw [rowsT_len]; exact h3) p hp hpl (.sl b 0 n n) σ (row_rv hr)
  obtain ⟨σ2, a1, a2, a3, a4⟩ := new_box (σ := σ1) (z := [.bool false, .nilS, .nilS]) (x := RC (unQ (rowsT nb z n) p)) (m := 3) rfl rfl
  have o2 := o1.trans a3
  have o1n := o1.1
  have o2n := o2.1
  have put : ∀ {vs es : List AV}, vs.length = 1 → es.length = 3 → Bx σ B vs → Bx σ E es → (∀ j, j < z + 1 → unQ (rowsT nb z n) p ≤ unQ (rowsT nb j n) p) → ∃ σ3 σ4, storeCellsA σ2 B 0 [.sl b 0 n n] = some σ3 ∧ storeCellsA σ3 E 0 (RC (unQ (rowsT nb z n) p)) = some σ4 ∧ cellsAt σ3 (.ptr σ1.n 0) 3 = some (RC (unQ (rowsT nb z n) p)) ∧ N0 ≤ σ4.n ∧ BI n nb p L B E N0 (z + 1) σ4 ∧ ∀ c, c < N0 → c ≠ B → c ≠ E → σ4.get c = σ.get c := by
    intro vs es hv he hBx hEx hmin
    obtain ⟨σ3, d1, d2, d3⟩ := (hBx.old o2).st (ws := [.sl b 0 n n]) (by rw [hv]; rfl) rfl
    obtain ⟨σ4, e1, e2, e3⟩ := ((hEx.old o2).but hBE.symm d3).st (ws := RC (unQ (rowsT nb z n) p)) (by rw [he]; rfl) (RC_one _)
    refine ⟨σ3, σ4, d1, e1, (a2.but (by omega) d3).rd rfl, ?_, ⟨((hL1.old o2).but hLB d3).but hLE e3, .inr ⟨b, z, Nat.lt_succ_self z, hb, d2.but hBE e3, ((hr.old o2).but (by omega) d3).but (by omega) e3, e2, hmin⟩⟩, fun c hc hcB hcE => by rw [e3.2 c hcE, d3.2 c hcB, o2.2 c (by omega)]⟩
    rw [e3.1, d3.1]; omega
  rcases hI2 with ⟨rfl, hBx, cs, hcs, hEx⟩ | ⟨b0, k, hk, hb0, hBx, hrk, hEx, hmin⟩
  · obtain ⟨σ3, σ4, x1, x2, x3, x4, x5, x6⟩ := put rfl hcs hBx hEx (fun j hj => by
        obtain rfl : j = 0 := by omega
        exact Rat.le_refl)
    exact ⟨σ4, (cI_0 fn116 rfl md116).trans (k116n p.length n b 0 L B E (flat RC p) (RC (unQ (rowsT nb 0 n) p)) [] 0 σ σ1 σ2 σ3 σ4 (hL1.rd rfl) c1 rfl a1 ((hBx.old o2).rd rfl) (a2.rd rfl) x3 (RC_eqv _) x1 x2), x4, x5, x6⟩
  · have c2 := r73 (hbd z) (hbd k) (by decide) σ2 [RT (unQ (rowsT nb z n) p), RT (unQ (rowsT nb k n) p)] rfl
    by_cases hlt : unQ (rowsT nb z n) p < unQ (rowsT nb k n) p
    · obtain ⟨σ3, σ4, x1, x2, x3, x4, x5, x6⟩ := put rfl rfl hBx hEx (fun j hj => by
        rcases Nat.lt_or_eq_of_le (Nat.lt_succ_iff.1 hj) with h | rfl
        · exact Rat.le_trans (Rat.le_of_lt hlt) (hmin j h)
        · exact Rat.le_refl)
      exact ⟨σ4, (cI_0 fn116 rfl md116).trans (k116y p.length n b b0 L B E (flat RC p) (RC (unQ (rowsT nb z n) p)) (RC (unQ (rowsT nb k n) p)) _ σ σ1 σ2 σ3 σ4 (hL1.rd rfl) c1 rfl a1 ((hBx.old o2).rd rfl) (a2.rd rfl) ((hEx.old o2).rd rfl) c2 x3 (RC_eqv _) x1 x2 (cmp_neg.2 hlt)), x4, x5, x6⟩
    · exact ⟨σ2, (cI_0 fn116 rfl md116).trans (k116z p.length n b b0 L B E (flat RC p) (RC (unQ (rowsT nb z n) p)) (RC (unQ (rowsT nb k n) p)) _ σ σ1 σ2 σ2 σ2 (hL1.rd rfl) c1 rfl a1 ((hBx.old o2).rd rfl) (a2.rd rfl) ((hEx.old o2).rd rfl) c2 (fun h => hlt (cmp_neg.1 h))), by omega, ⟨hL1.old o2, .inr ⟨b0, k, by omega, hb0, hBx.old o2, hrk.old o2, hEx.old o2, fun j hj => by
        rcases Nat.lt_or_eq_of_le (Nat.lt_succ_iff.1 hj) with h | rfl
        · exact hmin j h
        · exact Rat.not_lt.1 hlt⟩⟩, fun c hc _ _ => o2.2 c (by omega)⟩

theorem r42 (n nb : Nat) (h1 : 1 ≤ n) (h3 : n ≤ 3) (h8 : n * nb ≤ 8) (hnb4 : nb ≤ 4) (p : List Rat) (hf : ∀ x ∈ p, fits x = true) (hpl : p.length ≤ 16) (hs : isSrc (frL p) = true) (hnb : (bl p.length : Int) - 1 = nb) (hfu : ∀ k, fits (unQ (rowsT nb k n) p) = true) :
    ∃ k, k < 2 ^ (n * nb) ∧ (∀ j, j < 2 ^ (n * nb) → unQ (rowsT nb k n) p ≤ unQ (rowsT nb j n) p) ∧ FnF TT 42 [.int .i64 n, FS (frL p)] (.tup [.lst n (ints (nintsL (rowsT nb k n))), .agg (QC (unQ (rowsT nb k n) p)), .bool true]) := by
  have hp := fits_bds hf
  have hP := Nat.two_pow_pos (n * nb)
  have c1 := fun σ : St => (r84 (n := 0) (by decide) (by decide)).pure σ rfl rfl
  have c2 := r79 (frL p) (frL_vfl hf) (by rw [frL_len]; omega)
  rw [frL_rq] at c2
  have hb1 : Bx (((((⟨[], 0⟩ : St).push ⟨[.int .i64 0, .int .i64 0], 2, false⟩).push ⟨[.nilS], 1, false⟩).push ⟨[.bool false, .nilS, .nilS], 3, false⟩).push ⟨[.nilS], 1, false⟩) 1 [.nilS] := ((Bx.push (σ := ((⟨[], 0⟩ : St).push ⟨[.int .i64 0, .int .i64 0], 2, false⟩)) (vs := [.nilS]) (m := 1)).old Old.push).old Old.push
  have hb2 : Bx (((((⟨[], 0⟩ : St).push ⟨[.int .i64 0, .int .i64 0], 2, false⟩).push ⟨[.nilS], 1, false⟩).push ⟨[.bool false, .nilS, .nilS], 3, false⟩).push ⟨[.nilS], 1, false⟩) 2 [.bool false, .nilS, .nilS] := (Bx.push (σ := (((⟨[], 0⟩ : St).push ⟨[.int .i64 0, .int .i64 0], 2, false⟩).push ⟨[.nilS], 1, false⟩)) (vs := [.bool false, .nilS, .nilS]) (m := 3)).old Old.push
  have hb3 : Bx (((((⟨[], 0⟩ : St).push ⟨[.int .i64 0, .int .i64 0], 2, false⟩).push ⟨[.nilS], 1, false⟩).push ⟨[.bool false, .nilS, .nilS], 3, false⟩).push ⟨[.nilS], 1, false⟩) 3 [.nilS] := Bx.push (σ := ((((⟨[], 0⟩ : St).push ⟨[.int .i64 0, .int .i64 0], 2, false⟩).push ⟨[.nilS], 1, false⟩).push ⟨[.bool false, .nilS, .nilS], 3, false⟩))
  have hb0 : Bx (((((⟨[], 0⟩ : St).push ⟨[.int .i64 0, .int .i64 0], 2, false⟩).push ⟨[.nilS], 1, false⟩).push ⟨[.bool false, .nilS, .nilS], 3, false⟩).push ⟨[.nilS], 1, false⟩) 0 [.int .i64 0, .int .i64 0] := (((Bx.push (σ := (⟨[], 0⟩ : St)) (vs := [.int .i64 0, .int .i64 0]) (m := 2)).old Old.push).old Old.push).old Old.push
  obtain ⟨σ1, s1, x1, y1⟩ := hb1.st (ws := [.nilS]) rfl rfl
  obtain ⟨σ2, s2, x2, y2⟩ := (hb2.but (by decide) y1).st (ws := RC (mkRat 0 1)) rfl (RC_one _)
  obtain ⟨σ3, s3, x3, y3⟩ := ((hb3.but (by decide) y1).but (by decide) y2).st (ws := [RS p]) rfl rfl
  have hn3 : σ3.n = 4 := by rw [y3.1, y2.1, y1.1]; rfl
  have hz0 := ((hb0.but (by decide) y1).but (by decide) y2).but (by decide) y3
  obtain ⟨σ4, c3, ⟨i0, i1⟩, iL, iR⟩ := c115 n nb 116 [.ptr 3 0, .ptr 1 0, .ptr 2 0] h1 h3 h8 (frL p) hs (by rw [frL_len]; omega) (by rw [frL_len]; exact hnb) (fun z σ => (Bx σ 0 [.int .i64 0, .int .i64 0] ∧ 4 ≤ σ.n) ∧ BI n nb p 3 1 2 4 z σ) (fun z σ σ' h o => ⟨⟨h.1.1.old o, Nat.le_trans h.1.2 o.1⟩, h.2.old o⟩) σ3
    (fun z σ b hz hI hb hr => by
      obtain ⟨σ', a1, a2, a3, a4⟩ := c116 n nb h3 hnb4 p hp hpl 3 1 2 4 (by decide) (by decide) (by decide) (by decide) (by decide) z σ b hI.2 (by omega) hr
      obtain ⟨⟨mm, hg⟩, _⟩ := hI.1.1
      exact ⟨σ', a1, by omega, ⟨⟨⟨mm, by rw [a4 0 (by decide) (by decide) (by decide)]; exact hg⟩, by omega⟩, a2⟩, a3⟩)
    ⟨⟨hz0, by omega⟩, x3, .inl ⟨rfl, (x1.but (by decide) y2).but (by decide) y3, _, rfl, x2.but (by decide) y3⟩⟩
  rcases iR with ⟨e, _⟩ | ⟨b, k, hk, hb, hB, hr, hE, hmin⟩
  · omega
  refine ⟨k, hk, hmin, ?_⟩
  have c4 := r80 (unQ_bd (l := rowsT nb k n) (by rw [rowsT_len]; exact h3) hp hpl) (by decide)
  rw [frA_yes (hfu k)] at c4
  obtain ⟨σ6, s4, x4, x4o, _⟩ := new_box (σ := σ4) (z := [.int .i64 0, .int .i64 0]) (x := QC (unQ (rowsT nb k n) p)) (m := 2) rfl rfl
  obtain ⟨σ7, s5, x5, y5⟩ := (i0.old x4o).st (ws := QC (unQ (rowsT nb k n) p)) rfl rfl
  refine FnF.mk fn42 rfl md42 ⟨σ7, _, k42 _ p.length n b n _ _ _ (flat RC p) (RC (mkRat 0 1)) _ _ σ1 σ2 σ3 σ4 σ6 σ7 rfl c1 (fun σ => c2.pure σ rfl rfl) rfl s1 s2 s3 c3 (hE.rd rfl) (fun σ => c4 σ _ rfl) s4 ((hB.old x4o).rd rfl) (x4.rd rfl) s5 (((hB.old x4o).but (by decide) y5).rd rfl) (x5.rd rfl), ?_⟩
  have := ((hr.old x4o).but (by omega) y5).frz (d := 3) (n := n) (c := n) (by simp [wints, rowsT_len]) (Nat.le_refl _)
  exact frzV_tup (mapO_cons this (mapO_cons rfl (mapO_cons rfl rfl)))

/-- What the cells of the average hold behind so many lists of rows. -/
def AI (n nb : Nat) (p : List Rat) (S L M z : Nat) (σ : St) : Prop := Bx σ S (RC (sumI (fun j => unQ (rowsT nb j n) p) z)) ∧ Bx σ L [RS p] ∧ Bx σ M [.int .i64 z]
theorem AI.old {n nb : Nat} {p : List Rat} {S L M z : Nat} {σ σ' : St} (h : AI n nb p S L M z σ) (o : Old σ σ') : AI n nb p S L M z σ' := ⟨h.1.old o, h.2.1.old o, h.2.2.old o⟩
theorem sum_bd (n nb : Nat) (h3 : n ≤ 3) (p : List Rat) (hp : ∀ x ∈ p, Bd 60 x) (hpl : p.length ≤ 16) (z : Nat) (hz : z ≤ 256) : Bd 30000000 (sumI (fun j => unQ (rowsT nb j n) p) z) := by
  have hmul : z * 100001 ≤ 256 * 100001 := Nat.mul_le_mul_right _ hz
  exact (sumI_bd z fun i hi => unQ_bd (l := rowsT nb i n) (by rw [rowsT_len]; exact h3) hp hpl).mono (by omega)
theorem c119 (n nb : Nat) (h3 : n ≤ 3) (hnb : nb ≤ 4) (p : List Rat) (hp : ∀ x ∈ p, Bd 60 x) (hpl : p.length ≤ 16) (S L M N0 : Nat) (hS : S < N0) (hM : M < N0) (hSL : L ≠ S) (hLM : L ≠ M) (hSM : S ≠ M) (z : Nat) (hz : z < 256) (σ : St) (b : Nat) (hI : AI n nb p S L M z σ) (hb : N0 ≤ b) (hr : Row σ b (wints (rowsT nb z n))) :
    ∃ σ', callI TT 119 [.sl b 0 n n, .ptr S 0, .ptr L 0, .ptr M 0] σ = some (.tup [], σ') ∧ N0 ≤ σ'.n ∧ AI n nb p S L M (z + 1) σ' ∧ ∀ c, c < N0 → c ≠ S → c ≠ M → σ'.get c = σ.get c := by
  obtain ⟨i1, i2, i3⟩ := hI
  have hrl := hr.lt
  have hz1 : ((z + 1 : Nat) : Int) = (z : Int) + 1 := by omega
  obtain ⟨σ1, c1, o1⟩ := c117 (rowsT nb z n) (rows16 hnb z n) (by rw [rowsT_len]; exact h3) p hp hpl (.sl b 0 n n) σ (row_rv hr)
  have o1n := o1.1
  have c2 := fun σ : St => (r85 (sum_bd n nb h3 p hp hpl z (by omega)) ((unQ_bd (l := rowsT nb z n) (by rw [rowsT_len]; exact h3) hp hpl).mono (by decide)) (by decide)).pure σ rfl rfl
  obtain ⟨σ2, s1, x1, y1⟩ := (i1.old o1).st (ws := RC (sumI (fun j => unQ (rowsT nb j n) p) (z + 1))) rfl (RC_one _)
  obtain ⟨σ3, s2, x2, y2⟩ := ((i3.old o1).but hSM.symm y1).st (ws := [.int .i64 ((z + 1 : Nat) : Int)]) rfl rfl
  refine ⟨σ3, (cI_0 fn119 rfl md119).trans (k119 p.length n b S L M (flat RC p) (RC (unQ (rowsT nb z n) p)) _ _ z ((z + 1 : Nat) : Int) σ σ1 σ2 σ3 (i1.rd rfl) ((i1.old o1).rd rfl) (i2.rd rfl) c1 c2 (RC_eqv _) rfl s1 (((i3.old o1).but hSM.symm y1).rd rfl) (by rw [hz1]; exact wrapA_id (by omega) (by omega)) s2), by rw [y2.1, y1.1]; omega, ⟨x1.but hSM y2, ((i2.old o1).but hSL y1).but hLM y2, x2⟩, fun c hc hcS hcM => by rw [y2.2 c hcM, y1.2 c hcS, o1.2 c (by omega)]⟩

/-- The average distance of what all lists of rows make. -/
def avQ (n nb : Nat) (p : List Rat) : Rat := sumI (fun j => unQ (rowsT nb j n) p) (2 ^ (n * nb)) / mkRat ((2 ^ (n * nb) : Nat) : Int) 1
theorem r45 (n nb : Nat) (h1 : 1 ≤ n) (h3 : n ≤ 3) (h8 : n * nb ≤ 8) (hnb4 : nb ≤ 4) (p : List Rat) (hf : ∀ x ∈ p, fits x = true) (hpl : p.length ≤ 16) (hs : isSrc (frL p) = true) (hnb : (bl p.length : Int) - 1 = nb) (hfu : fits (avQ n nb p) = true) :
    FnV TT 45 [.int .i64 n, FS (frL p)] (.tup [.agg (QC (avQ n nb p)), .bool true]) := by
  have hp := fits_bds hf
  have hP := Nat.two_pow_pos (n * nb)
  have hP8 : 2 ^ (n * nb) ≤ 2 ^ 8 := Nat.pow_le_pow_right (by decide) h8
  have c1 := fun σ : St => (r84 (n := 0) (by decide) (by decide)).pure σ rfl rfl
  have c2 := r79 (frL p) (frL_vfl hf) (by rw [frL_len]; omega)
  rw [frL_rq] at c2
  have hb1 : Bx (((((⟨[], 0⟩ : St).push ⟨[.int .i64 0, .int .i64 0], 2, false⟩).push ⟨[.bool false, .nilS, .nilS], 3, false⟩).push ⟨[.int .i64 0], 1, false⟩).push ⟨[.nilS], 1, false⟩) 1 [.bool false, .nilS, .nilS] := ((Bx.push (σ := ((⟨[], 0⟩ : St).push ⟨[.int .i64 0, .int .i64 0], 2, false⟩)) (vs := [.bool false, .nilS, .nilS]) (m := 3)).old Old.push).old Old.push
  have hb2 : Bx (((((⟨[], 0⟩ : St).push ⟨[.int .i64 0, .int .i64 0], 2, false⟩).push ⟨[.bool false, .nilS, .nilS], 3, false⟩).push ⟨[.int .i64 0], 1, false⟩).push ⟨[.nilS], 1, false⟩) 2 [.int .i64 0] := (Bx.push (σ := (((⟨[], 0⟩ : St).push ⟨[.int .i64 0, .int .i64 0], 2, false⟩).push ⟨[.bool false, .nilS, .nilS], 3, false⟩)) (vs := [.int .i64 0]) (m := 1)).old Old.push
  have hb3 : Bx (((((⟨[], 0⟩ : St).push ⟨[.int .i64 0, .int .i64 0], 2, false⟩).push ⟨[.bool false, .nilS, .nilS], 3, false⟩).push ⟨[.int .i64 0], 1, false⟩).push ⟨[.nilS], 1, false⟩) 3 [.nilS] := Bx.push (σ := ((((⟨[], 0⟩ : St).push ⟨[.int .i64 0, .int .i64 0], 2, false⟩).push ⟨[.bool false, .nilS, .nilS], 3, false⟩).push ⟨[.int .i64 0], 1, false⟩))
  have hb0 : Bx (((((⟨[], 0⟩ : St).push ⟨[.int .i64 0, .int .i64 0], 2, false⟩).push ⟨[.bool false, .nilS, .nilS], 3, false⟩).push ⟨[.int .i64 0], 1, false⟩).push ⟨[.nilS], 1, false⟩) 0 [.int .i64 0, .int .i64 0] := (((Bx.push (σ := (⟨[], 0⟩ : St)) (vs := [.int .i64 0, .int .i64 0]) (m := 2)).old Old.push).old Old.push).old Old.push
  obtain ⟨σ1, s1, x1, y1⟩ := hb1.st (ws := RC (mkRat 0 1)) rfl (RC_one _)
  obtain ⟨σ2, s2, x2, y2⟩ := (hb2.but (by decide) y1).st (ws := [.int .i64 0]) rfl rfl
  obtain ⟨σ3, s3, x3, y3⟩ := ((hb3.but (by decide) y1).but (by decide) y2).st (ws := [RS p]) rfl rfl
  have hn3 : σ3.n = 4 := by rw [y3.1, y2.1, y1.1]; rfl
  have hz0 := ((hb0.but (by decide) y1).but (by decide) y2).but (by decide) y3
  obtain ⟨σ4, c3, ⟨i0, _⟩, iS, iL, iM⟩ := c115 n nb 119 [.ptr 1 0, .ptr 3 0, .ptr 2 0] h1 h3 h8 (frL p) hs (by rw [frL_len]; omega) (by rw [frL_len]; exact hnb) (fun z σ => (Bx σ 0 [.int .i64 0, .int .i64 0] ∧ 4 ≤ σ.n) ∧ AI n nb p 1 3 2 z σ) (fun z σ σ' h o => ⟨⟨h.1.1.old o, Nat.le_trans h.1.2 o.1⟩, h.2.old o⟩) σ3
    (fun z σ b hz hI hb hr => by
      obtain ⟨σ', a1, a2, a3, a4⟩ := c119 n nb h3 hnb4 p hp hpl 1 3 2 4 (by decide) (by decide) (by decide) (by decide) (by decide) z (by omega) σ b hI.2 (by omega) hr
      obtain ⟨⟨mm, hg⟩, _⟩ := hI.1.1
      exact ⟨σ', a1, by omega, ⟨⟨⟨mm, by rw [a4 0 (by decide) (by decide) (by decide)]; exact hg⟩, by omega⟩, a2⟩, a3⟩)
    ⟨⟨hz0, by omega⟩, (x1.but (by decide) y2).but (by decide) y3, x3, x2.but (by decide) y3⟩
  have c4 := fun σ : St => (r84 (n := ((2 ^ (n * nb) : Nat) : Int)) (by omega) (by omega)).pure σ rfl rfl
  have hm : mkRat ((2 ^ (n * nb) : Nat) : Int) 1 ≠ 0 := by
    rw [Rat.mkRat_ne_zero (by decide)]; omega
  have hmb : Bd 30000000 (mkRat ((2 ^ (n * nb) : Nat) : Int) 1) := (low_bd (k := 30) (b := false) (n := 2 ^ (n * nb)) (d := 1) (by decide) (Nat.lt_of_le_of_lt hP8 (by decide)) (by decide)).mono (by decide)
  have c5 := fun σ : St => (r111 (sum_bd n nb h3 p hp hpl _ hP8) hmb hm (by decide)).pure σ rfl rfl
  have c6 := r80 (fits_bd hfu) (by decide)
  rw [frA_yes hfu] at c6
  obtain ⟨σ5, s4, x4, _⟩ := i0.st (ws := QC (avQ n nb p)) rfl rfl
  exact FnV.mk fn45 rfl md45 ⟨σ5, k45 _ p.length _ _ _ _ _ (flat RC p) (RC (mkRat 0 1)) _ _ _ _ σ1 σ2 σ3 σ4 σ5 rfl c1 (fun σ => c2.pure σ rfl rfl) rfl s1 s2 s3 c3 (iS.rd rfl) (iM.rd rfl) c4 c5 (fun σ => c6 σ _ rfl) (RC_eqv _) s4 (x4.rd rfl)⟩ (fun _ => rfl) rfl

theorem src_of {n D j : Nat} {p : List Rat} (h : ChL n D p) (hj : n = 2 ^ j) (j1 : 1 ≤ j) (j3 : j ≤ 3) (hD : 0 < D) (hb : D ≤ 1000000000000000000) : isSrc (frL p) = true ∧ (bl p.length : Int) - 1 = j := by
  have hjj : j = 1 ∨ j = 2 ∨ j = 3 := by omega
  have hc := h.isCh (by rw [hj]; exact Nat.two_pow_pos j) (by rw [hj]; rcases hjj with rfl | rfl | rfl <;> decide) hD hb
  have hl : (frL p).length = 2 ^ j := by rw [frL_len, h.len, hj]
  have hl2 : p.length = 2 ^ j := by rw [h.len, hj]
  rw [hl2]
  unfold isSrc srcBits
  rcases hjj with rfl | rfl | rfl
  · exact ⟨by simp [bitsF, hl, hc], by decide⟩
  · exact ⟨by simp [bitsF, hl, hc], by decide⟩
  · exact ⟨by simp [bitsF, hl, hc], by decide⟩
theorem sumI_pick {a : Nat} {c : Rat} : ∀ {m : Nat}, a < m → sumI (fun k => if a = k then c else 0) m = c
  | 0, h => by omega
  | m + 1, h => by
    rw [sumI]
    rcases Nat.lt_or_ge a m with h1 | h1
    · rw [sumI_pick h1, if_neg (by omega)]; grind
    · have : a = m := by omega
      rw [if_pos this, sumI_zero fun i hi => if_neg (by omega)]; grind
theorem ex_ch {N D : Nat} {p : List Rat} (h : ChL N D p) (hD : 0 < D) (l : List Nat) : ChL (2 ^ l.length) D (exL l p p.length) := by
  have hA : ∀ x, appR x l 0 0 < 2 ^ l.length := fun x => by have := appR_lt x l 0 0 (by decide); rwa [Nat.zero_add] at this
  refine ⟨exL_len l p _, fun x hx => ?_, ?_⟩
  · obtain ⟨k, _, rfl⟩ := List.mem_map.1 hx
    refine Ov.sumI _ fun i _ => ?_
    split
    · exact (h.at hD i).1
    · exact Ov.zero D
  · have e1 : ∀ k, k < 2 ^ l.length → atL (exL l p p.length) k = sumI (fun x => if appR x l 0 0 = k then atL p x else 0) p.length := by
      intro k hk
      have := exL_get l p p.length hk
      rw [atL, List.getD_eq_getElem?_getD, this]; rfl
    rw [sumI_congr e1, sumI_comm, sumI_congr (g := atL p) fun x _ => sumI_pick (hA x), h.len, h.sum]
theorem sum_rep (N : Nat) : (List.replicate N 1).sum = N := by
  induction N with
  | zero => rfl
  | succ n ih => rw [List.replicate_succ, List.sum_cons, ih]; omega
theorem ev_ch {N : Nat} (h : 1 ≤ N) : ChL N N (evQ N) := by
  have hw : Wts N (List.replicate N 1) := ⟨by simp, fun x hx => by rw [List.eq_of_mem_replicate hx]; decide, by rw [sum_rep]; exact h⟩
  have := wq_ch hw
  rw [sum_rep] at this
  have e : wq N (List.replicate N 1) = evQ N := by simp [wq, evQ, repQ]
  rwa [e] at this
theorem un_ok {N D : Nat} {p : List Rat} (h : ChL N D p) (hD : 0 < D) (l : List Nat) : Ov (D * 2 ^ l.length * 2) (unQ l p) ∧ unQ l p ≤ 1 ∧ 0 ≤ unQ l p :=
  dist_ov (ex_ch h hD l) (ev_ch (Nat.two_pow_pos l.length)) hD (Nat.two_pow_pos l.length)
theorem un_fits {N D : Nat} {p : List Rat} (h : ChL N D p) (hD : 0 < D) (hb : D ≤ 64) (l : List Nat) (hl : l.length ≤ 3) : fits (unQ l p) = true := by
  obtain ⟨h1, h2, _⟩ := un_ok h hD l
  have hp := Nat.two_pow_pos l.length
  have hp3 : 2 ^ l.length ≤ 2 ^ 3 := Nat.pow_le_pow_right (by decide) hl
  have hm : D * 2 ^ l.length ≤ 64 * 2 ^ 3 := Nat.mul_le_mul hb hp3
  exact h1.fits (Nat.mul_pos (Nat.mul_pos hD hp) (by decide)) h2 (by omega)
theorem sumI_const (c : Rat) : ∀ n : Nat, sumI (fun _ => c) n = (n : Rat) * c
  | 0 => by rw [show ((0 : Nat) : Rat) = 0 from rfl, Rat.zero_mul]; rfl
  | n + 1 => by rw [sumI, sumI_const c n, show (((n + 1 : Nat) : Rat)) = (n : Rat) + 1 from Rat.natCast_add n 1]; grind
theorem av_eq (n nb : Nat) (p : List Rat) : avQ n nb p = sumI (fun j => unQ (rowsT nb j n) p) (2 ^ (n * nb)) / ((2 ^ (n * nb) : Nat) : Rat) := by
  rw [avQ, Rat.mkRat_eq_div]
  congr 1
  rw [show ((1 : Nat) : Rat) = 1 from rfl, Rat.div_def, show ((1 : Rat)⁻¹) = 1 by decide +kernel, Rat.mul_one]; rfl
theorem av_between {n nb : Nat} {p : List Rat} {a b : Rat} (h : ∀ j, j < 2 ^ (n * nb) → a ≤ unQ (rowsT nb j n) p ∧ unQ (rowsT nb j n) p ≤ b) : a ≤ avQ n nb p ∧ avQ n nb p ≤ b := by
  have hP := natCast_pos (Nat.two_pow_pos (n * nb))
  have h1 := sumI_le (f := fun _ => a) (g := fun j => unQ (rowsT nb j n) p) fun j hj => (h j hj).1
  have h2 := sumI_le (f := fun j => unQ (rowsT nb j n) p) (g := fun _ => b) fun j hj => (h j hj).2
  rw [sumI_const] at h1 h2
  rw [av_eq]
  generalize sumI (fun j => unQ (rowsT nb j n) p) (2 ^ (n * nb)) = s at *
  generalize ((2 ^ (n * nb) : Nat) : Rat) = P at *
  have hi : 0 < P⁻¹ := Rat.inv_pos.2 hP
  have hne : P ≠ 0 := by grind
  have e : P * P⁻¹ = 1 := Rat.mul_inv_cancel _ hne
  rw [Rat.div_def]
  have g1 := Rat.mul_le_mul_of_nonneg_right h1 (Rat.le_of_lt hi)
  have g2 := Rat.mul_le_mul_of_nonneg_right h2 (Rat.le_of_lt hi)
  have e1 : P * a * P⁻¹ = a := by rw [Rat.mul_comm P a, Rat.mul_assoc, e, Rat.mul_one]
  have e2 : P * b * P⁻¹ = b := by rw [Rat.mul_comm P b, Rat.mul_assoc, e, Rat.mul_one]
  rw [e1] at g1; rw [e2] at g2
  exact ⟨g1, g2⟩
theorem av_fits {N D n nb : Nat} {p : List Rat} (h : ChL N D p) (hD : 0 < D) (hb : D ≤ 64) (hn : n ≤ 3) (h8 : n * nb ≤ 8) : fits (avQ n nb p) = true := by
  have hP := Nat.two_pow_pos (n * nb)
  have hP8 : 2 ^ (n * nb) ≤ 2 ^ 8 := Nat.pow_le_pow_right (by decide) h8
  have hp := Nat.two_pow_pos n
  have hp3 : 2 ^ n ≤ 2 ^ 3 := Nat.pow_le_pow_right (by decide) hn
  have hu := fun j => un_ok h hD (rowsT nb j n)
  simp only [rowsT_len] at hu
  have h1 := (av_between (n := n) (nb := nb) (p := p) (a := 0) (b := 1) fun j _ => ⟨(hu j).2.2, (hu j).2.1⟩).2
  have hs := Ov.sumI (2 ^ (n * nb)) fun j (_ : j < 2 ^ (n * nb)) => (hu j).1
  have hav : Ov (D * 2 ^ n * 2 * 2 ^ (n * nb)) (avQ n nb p) := by
    have := hs.mul (Ov.mk 1 (2 ^ (n * nb)))
    rw [av_eq, Rat.div_def]
    rw [Rat.mkRat_eq_div, Rat.div_def, show (((1 : Nat) : Int) : Rat) = 1 from rfl, Rat.one_mul] at this
    exact this
  have hm : D * 2 ^ n ≤ 64 * 2 ^ 3 := Nat.mul_le_mul hb hp3
  have hm2 : D * 2 ^ n * 2 * 2 ^ (n * nb) ≤ (64 * 2 ^ 3 * 2) * 2 ^ 8 := Nat.mul_le_mul (by omega) hP8
  exact hav.fits (Nat.mul_pos (Nat.mul_pos (Nat.mul_pos hD hp) (by decide)) hP) h1 (by omega)
theorem rdig_mod (nb z i : Nat) : rdig nb z i = z / 2 ^ (i * nb) % 2 ^ nb := by rw [rdig, Nat.and_two_pow_sub_one_eq_mod]
theorem rdig_low (nb r z m i : Nat) (h : i < m) : rdig nb (r * 2 ^ (m * nb) + z) i = rdig nb z i := by
  rw [rdig_mod, rdig_mod]
  obtain ⟨d, rfl⟩ : ∃ d, m = i + 1 + d := ⟨m - (i + 1), by omega⟩
  have e : r * 2 ^ ((i + 1 + d) * nb) = 2 ^ (i * nb) * (2 ^ nb * (r * 2 ^ (d * nb))) := by
    rw [show (i + 1 + d) * nb = i * nb + nb + d * nb by rw [Nat.add_mul, Nat.add_mul, Nat.one_mul], Nat.pow_add, Nat.pow_add]
    ac_rfl
  rw [e, Nat.mul_add_div (Nat.two_pow_pos _), Nat.mul_add_mod]
theorem rowsT_low (nb r z m : Nat) : ∀ i, i ≤ m → rowsT nb (r * 2 ^ (m * nb) + z) i = rowsT nb z i
  | 0, _ => rfl
  | i + 1, h => by rw [rowsT, rowsT, rdig_low nb r z m i (by omega), rowsT_low nb r z m i (by omega)]
theorem rowsT_all (nb : Nat) : ∀ l : List Nat, (∀ r ∈ l, r < 2 ^ nb) → ∃ z, z < 2 ^ (l.length * nb) ∧ rowsT nb z l.length = l
  | [], _ => ⟨0, Nat.two_pow_pos _, rfl⟩
  | r :: l, h => by
    obtain ⟨z, h1, h2⟩ := rowsT_all nb l fun x hx => h x (by simp [hx])
    have hr := h r (by simp)
    refine ⟨r * 2 ^ (l.length * nb) + z, ?_, ?_⟩
    · rw [List.length_cons, Nat.succ_mul, Nat.pow_add]
      have : (r + 1) * 2 ^ (l.length * nb) ≤ 2 ^ nb * 2 ^ (l.length * nb) := Nat.mul_le_mul_right _ hr
      rw [Nat.add_mul, Nat.one_mul] at this
      rw [Nat.mul_comm (2 ^ (l.length * nb))]
      omega
    · rw [List.length_cons, rowsT, rowsT_low nb r z l.length _ (Nat.le_refl _), h2, rdig_mod]
      congr 1
      rw [Nat.mul_comm r, Nat.mul_add_div (Nat.two_pow_pos _), Nat.div_eq_of_lt h1, Nat.add_zero, Nat.mod_eq_of_lt hr]

noncomputable def b11 : Code := Try.f11.body.getD .skip
noncomputable def B11_0 : Code := (bodyC (bodyC (fstC (sndC (sndC (sndC (sndC b11)))))))
noncomputable def K11_0 : List It := .lp B11_0 :: .blk 0 :: .code (sndC (sndC (sndC (sndC (sndC b11))))) :: []
theorem xl11_0 {fi : FI} {env : Env} {σ : St} : exI TT fi K11_0 env σ = exI TT fi (.code B11_0 :: K11_0) env σ := by unfold K11_0; exact xI_lp
noncomputable def R11_0_0 : List It := .code (sndC (sndC (sndC (sndC (sndC b11))))) :: []
theorem eK11_0_0 : exitA 0 K11_0 = some R11_0_0 := rfl
set_option maxHeartbeats 4000000 in
theorem s11 (m N i : Nat) (P : Int) (mo cells : List AV) (σ : St) (hu : wrapA .u64 (i : Int) = (i : Int)) (hP : wrapA .i64 (shlA 1 (min i IntKind.i64.bits)) = P) (hlt : P < (N : Int)) (hw : wrapA .i64 ((i : Int) + 1) = (i : Int) + 1) :
    exI TT (FI.of Try.f11 (TT.an 11)) K11_0 [(1, .lst m mo), (5, .lst N cells), (6, .int .i64 i)] σ = exI TT (FI.of Try.f11 (TT.an 11)) K11_0 [(1, .lst m mo), (5, .lst N cells), (6, .int .i64 ((i : Int) + 1))] σ := by
  rw [fi11]
  conv => lhs; rw [xl11_0]
  simp only [B11_0, b11, Try.f11, Option.getD, fstC, sndC, bodyC, thnC, elsC]
  simp (maxSteps := 1000000) (disch := omega) [eK11_0_0, cellsAt, getCells, takeN, dropN, fieldAddrA, allOne, AV.one, n_push, storeCellsA, putN, overN, St.push, St.get, St.set, hget, hset, blt_dec, buildA, sizesOf, fillA, putCells, List.take_succ_cons, List.take_zero, List.drop_succ_cons, List.drop_zero, List.nil_append, List.cons_append, List.length_cons, List.length_nil, eqvs_dgs, convA, binNil, eqNil, eqStr, eqFs, Bool.and_self, Bool.and_true, hu, hP, hlt, hw]
set_option maxHeartbeats 4000000 in
theorem e11 (m N i c r k2 : Nat) (P a1 a2 d1 d2 e1 e2 : Int) (mo cells rows rows2 : List AV) (σ σ1 σ2 σ3 σ4 : St) (hu : wrapA .u64 (i : Int) = (i : Int)) (hP : wrapA .i64 (shlA 1 (min i IntKind.i64.bits)) = P) (hlt : ¬ P < (N : Int)) (c1 : ∀ σ, callI TT 41 [.lst m mo, .int .i64 0, .int .i64 2] σ = some (.int .i64 (r : Int), σ)) (hc : wrapA .i64 (1 + (r : Int)) = (c : Int)) (c2 : ∀ σ, callI TT 42 [.int .i64 (c : Int), .lst N cells] σ = some (.tup [.lst c rows, .agg [.int .i64 a1, .int .i64 a2], .bool true], σ)) (t1 : storeCellsA (σ.push ⟨[.int .i64 0, .int .i64 0], 2, false⟩) σ.n 0 [.int .i64 a1, .int .i64 a2] = some σ1) (c3 : ∀ σ, callI TT 43 [.lst c rows, .lst N cells] σ = some (.tup [.agg [.int .i64 a1, .int .i64 a2], .bool true], σ)) (t2 : storeCellsA (σ1.push ⟨[.int .i64 0, .int .i64 0], 2, false⟩) σ1.n 0 [.int .i64 a1, .int .i64 a2] = some σ2) (c4 : ∀ σ, callI TT 44 [.lst m mo, .int .i64 (c : Int), .int .i64 (i : Int)] σ = some (.lst k2 rows2, σ)) (c5 : ∀ σ, callI TT 43 [.lst k2 rows2, .lst N cells] σ = some (.tup [.agg [.int .i64 d1, .int .i64 d2], .bool true], σ)) (t3 : storeCellsA (σ2.push ⟨[.int .i64 0, .int .i64 0], 2, false⟩) σ2.n 0 [.int .i64 d1, .int .i64 d2] = some σ3) (c6 : ∀ σ, callI TT 45 [.int .i64 (c : Int), .lst N cells] σ = some (.tup [.agg [.int .i64 e1, .int .i64 e2], .bool true], σ)) (t4 : storeCellsA (σ3.push ⟨[.int .i64 0, .int .i64 0], 2, false⟩) σ3.n 0 [.int .i64 e1, .int .i64 e2] = some σ4) (l1 : cellsAt σ4 (.ptr σ.n 0) 2 = some [.int .i64 a1, .int .i64 a2]) (l2 : cellsAt σ4 (.ptr σ1.n 0) 2 = some [.int .i64 a1, .int .i64 a2]) (l3 : cellsAt σ4 (.ptr σ2.n 0) 2 = some [.int .i64 d1, .int .i64 d2]) (l4 : cellsAt σ4 (.ptr σ3.n 0) 2 = some [.int .i64 e1, .int .i64 e2]) (c7 : ∀ σ, callI TT 46 [.agg [.int .i64 d1, .int .i64 d2], .agg [.int .i64 a1, .int .i64 a2]] σ = some (.bool false, σ)) (c8 : ∀ σ, callI TT 46 [.agg [.int .i64 e1, .int .i64 e2], .agg [.int .i64 a1, .int .i64 a2]] σ = some (.bool false, σ)) :
    exI TT (FI.of Try.f11 (TT.an 11)) K11_0 [(1, .lst m mo), (5, .lst N cells), (6, .int .i64 i)] σ = some (.bool true, σ4) := by
  rw [fi11]
  conv => lhs; rw [xl11_0]
  simp only [B11_0, b11, Try.f11, Option.getD, fstC, sndC, bodyC, thnC, elsC]
  simp (maxSteps := 1000000) (disch := omega) [eK11_0_0, getCells, takeN, dropN, fieldAddrA, allOne, AV.one, n_push, putN, overN, blt_dec, buildA, sizesOf, fillA, putCells, List.take_succ_cons, List.take_zero, List.drop_succ_cons, List.drop_zero, List.nil_append, List.cons_append, List.length_cons, List.length_nil, eqvs_dgs, convA, binNil, eqNil, eqStr, eqFs, Bool.and_self, Bool.and_true, hu, hP, hlt, c1, hc, c2, t1, c3, t2, c4, c5, t3, c6, t4, l1, l2, l3, l4, c7, c8]
  simp only [R11_0_0, b11, Try.f11, Option.getD, fstC, sndC, bodyC, thnC, elsC]
  simp (maxSteps := 1000000) (disch := omega) [eK11_0_0, getCells, takeN, dropN, fieldAddrA, allOne, AV.one, n_push, putN, overN, blt_dec, buildA, sizesOf, fillA, putCells, List.take_succ_cons, List.take_zero, List.drop_succ_cons, List.drop_zero, List.nil_append, List.cons_append, List.length_cons, List.length_nil, eqvs_dgs, convA, binNil, eqNil, eqStr, eqFs, Bool.and_self, Bool.and_true, hu, hP, hlt, c1, hc, c2, t1, c3, t2, c4, c5, t3, c6, t4, l1, l2, l3, l4, c7, c8]
set_option maxHeartbeats 4000000 in
theorem b11e (n m N : Nat) (c mo cells : List AV) (σ : St) (c1 : ∀ σ, callI TT 39 [.lst n c, .lst m mo] σ = some (.bool false, σ)) (c2 : ∀ σ, callI TT 40 [.lst n c] σ = some (.lst N cells, σ)) :
    exI TT (FI.of Try.f11 (TT.an 11)) [.code b11] (paramsE 0 [.lst n c, .lst m mo]) σ = exI TT (FI.of Try.f11 (TT.an 11)) K11_0 [(1, .lst m mo), (5, .lst N cells), (6, .int .i64 1)] σ := by
  rw [fi11]
  simp only [b11, Try.f11, Option.getD, fstC, sndC, bodyC, thnC, elsC]
  simp (maxSteps := 1000000) (disch := omega) [eK11_0_0, cellsAt, getCells, takeN, dropN, fieldAddrA, allOne, AV.one, n_push, storeCellsA, putN, overN, St.push, St.get, St.set, hget, hset, blt_dec, buildA, sizesOf, fillA, putCells, List.take_succ_cons, List.take_zero, List.drop_succ_cons, List.drop_zero, List.nil_append, List.cons_append, List.length_cons, List.length_nil, eqvs_dgs, convA, binNil, eqNil, eqStr, eqFs, Bool.and_self, Bool.and_true, c1, c2]
  rfl
set_option maxHeartbeats 4000000 in
theorem z11 (n m : Nat) (xs ys : List AV) (c1 : ∀ σ, callI TT 39 [.lst n xs, .lst m ys] σ = some (.bool true, σ)) :
    ∃ σ', exI TT (FI.of Try.f11 (TT.an 11)) [.code (Try.f11.body.getD .skip)] (paramsE 0 [.lst n xs, .lst m ys]) ⟨[], 0⟩ = some (.bool true, σ') := by
  refine ex1 ?_
  rw [fi11]
  simp only [Try.f11, Option.getD]
  simp (maxSteps := 1000000) (disch := omega) [eK11_0_0, cellsAt, getCells, takeN, dropN, fieldAddrA, allOne, AV.one, n_push, storeCellsA, putN, overN, St.push, St.get, St.set, hget, hset, blt_dec, buildA, sizesOf, fillA, putCells, List.take_succ_cons, List.take_zero, List.drop_succ_cons, List.drop_zero, List.nil_append, List.cons_append, List.length_cons, List.length_nil, eqvs_dgs, convA, binNil, eqNil, eqStr, eqFs, Bool.and_self, Bool.and_true, c1]
theorem FS_n {n D : Nat} {p : List Rat} (h : ChL n D p) : FS (frL p) = .lst n (flat FC (frL p)) := by rw [FS, frL_len, h.len]
theorem l11 (m j : Nat) (mo cells : List AV) (hj : j ≤ 3) (σ : St) : ∀ k i : Nat, i + k = j → exI TT (FI.of Try.f11 (TT.an 11)) K11_0 [(1, .lst m mo), (5, .lst (2 ^ j) cells), (6, .int .i64 i)] σ = exI TT (FI.of Try.f11 (TT.an 11)) K11_0 [(1, .lst m mo), (5, .lst (2 ^ j) cells), (6, .int .i64 j)] σ := by
  intro k
  induction k with
  | zero =>
    intro i hi
    obtain rfl : i = j := by omega
    rfl
  | succ k ih =>
    intro i hi
    have h := ih (i + 1) (by omega)
    have hi1 : ((i + 1 : Nat) : Int) = (i : Int) + 1 := by omega
    rw [hi1] at h
    rw [← h]
    have hlt : 2 ^ i < 2 ^ j := Nat.pow_lt_pow_right (by decide) (by omega)
    exact s11 m (2 ^ j) i _ mo cells σ (wrap_un (by omega)) (pow_sh2 i (by omega)) (by omega) (wrapA_id (by omega) (by omega))
theorem w11 (l : List Nat) (hl : ∀ x ∈ l, x < 256) (l2 : List Nat) (hl2 : ∀ x ∈ l2, x < 256) : FnV TT 11 [.lst l.length (byts l), .lst l2.length (byts l2)] (.bool true) := by
  have c1 := fun σ => v39 l.length l2.length (byts l) (byts l2) σ [.lst l.length (byts l), .lst l2.length (byts l2)] rfl
  cases hb : (decide (1048576 < l.length) || decide (1048576 < l2.length)) with
  | true =>
    rw [hb] at c1
    exact FnV.mk fn11 rfl md11 (z11 _ _ _ _ c1) (fun _ => rfl) rfl
  | false =>
    rw [hb] at c1
    simp only [Bool.or_eq_false_iff, decide_eq_false_iff_not] at hb
    obtain ⟨j, ws, j1, j3, hw, cP⟩ := r40 l hl (by omega)
    obtain ⟨r, hr, cA⟩ := v41 l2 hl2 0 2 (by decide) (by decide)
    have hr2 : r < 2 := by omega
    have hpj : 2 ^ j ≤ 2 ^ 3 := Nat.pow_le_pow_right (by decide) j3
    have hch := wq_ch hw
    have hD := hw.2.2
    have hDb : ws.sum ≤ 64 := by have := hw.2.1.sum; have := hw.1; omega
    rw [chsL_frL] at cP
    generalize wq ws.sum ws = p at *
    generalize ws.sum = D at *
    have hpl : p.length ≤ 16 := by rw [hch.len]; omega
    have hf := hch.fits hD (by omega)
    obtain ⟨hs, hnb⟩ := src_of hch rfl j1 j3 hD (by omega)
    have hnj : (1 + r) * j ≤ 2 * 3 := Nat.mul_le_mul (by omega) j3
    have hfu := fun k => un_fits hch hD hDb (rowsT j k (1 + r)) (by rw [rowsT_len]; omega)
    have hfa := av_fits (n := 1 + r) (nb := j) hch hD hDb (by omega) (by omega)
    obtain ⟨k, hk, hmin, cB⟩ := r42 (1 + r) j (by omega) (by omega) (by omega) (by omega) p hf hpl hs hnb hfu
    have cE := r43 (rowsT j k (1 + r)) (by rw [rowsT_len]; omega) (by rw [rowsT_len]; omega) p hf hpl hs j hnb (by omega) (rowsT_lt j k (1 + r)) (hfu k)
    rw [rowsT_len] at cE
    obtain ⟨us, hul, hus, cR⟩ := r44 l2 hl2 (by omega) (1 + r) j (by omega) (by omega)
    obtain ⟨z, hz, hzu⟩ := rowsT_all j us hus
    rw [hul] at hz hzu
    have hfz := hfu z
    have hle := hmin z hz
    rw [hzu] at hfz hle
    have cO := r43 us (by omega) (by omega) p hf hpl hs j hnb (by omega) hus hfz
    have cD := r45 (1 + r) j (by omega) (by omega) (by omega) (by omega) p hf hpl hs hnb hfa
    have hav := (av_between (n := 1 + r) (nb := j) (p := p) (b := 1) fun i hi => ⟨hmin i hi, (un_ok hch hD (rowsT j i (1 + r))).2.1⟩).1
    have k7 := fun σ => r46 hfz (hfu k) σ
    rw [decide_eq_false (Rat.not_lt.2 hle)] at k7
    have k8 := fun σ => r46 hfa (hfu k) σ
    rw [decide_eq_false (Rat.not_lt.2 hav)] at k8
    rw [FS_n hch] at cP cB cE cO cD
    obtain ⟨σ1, a1, a2, a3, a4⟩ := new_box (σ := (⟨[], 0⟩ : St)) (z := [.int .i64 0, .int .i64 0]) (x := QC (unQ (rowsT j k (1 + r)) p)) (m := 2) rfl rfl
    obtain ⟨σ2, b1, b2, b3, b4⟩ := new_box (σ := σ1) (z := [.int .i64 0, .int .i64 0]) (x := QC (unQ (rowsT j k (1 + r)) p)) (m := 2) rfl rfl
    obtain ⟨σ3, g1, g2, g3, g4⟩ := new_box (σ := σ2) (z := [.int .i64 0, .int .i64 0]) (x := QC (unQ us p)) (m := 2) rfl rfl
    obtain ⟨σ4, j1', j2', j3', j4'⟩ := new_box (σ := σ3) (z := [.int .i64 0, .int .i64 0]) (x := QC (avQ (1 + r) j p)) (m := 2) rfl rfl
    have hbeg := b11e l.length l2.length (2 ^ j) (byts l) (byts l2) (flat FC (frL p)) ⟨[], 0⟩ c1 (fun σ => cP.pure σ rfl rfl)
    have hloop := l11 l2.length j (byts l2) (flat FC (frL p)) j3 ⟨[], 0⟩ (j - 1) 1 (by omega)
    have hex := e11 l2.length (2 ^ j) j (1 + r) r us.length ((2 ^ j : Nat) : Int) _ _ _ _ _ _ (byts l2) (flat FC (frL p)) (ints (nintsL (rowsT j k (1 + r)))) (ints (nintsL us)) ⟨[], 0⟩ σ1 σ2 σ3 σ4 (wrap_un (by omega)) (pow_sh2 j (by omega)) (by omega) (fun σ => cA σ _ rfl) (by rw [wrapA_id (by omega) (by omega)]; omega) (fun σ => cB.pure σ rfl rfl) a1 (fun σ => cE σ _ rfl) b1 (fun σ => cR.pure σ rfl rfl) (fun σ => cO σ _ rfl) g1 (fun σ => cD σ _ rfl) j1' ((((a2.old b3).old g3).old j3').rd rfl) (((b2.old g3).old j3').rd rfl) ((g2.old j3').rd rfl) (j2'.rd rfl) k7 k8
    exact FnV.mk (c := b11) fn11 rfl md11 ⟨σ4, hbeg.trans (hloop.trans hex)⟩ (fun _ => rfl) rfl

end Go.Proofs.Ytihoeimlkbjgmaa
