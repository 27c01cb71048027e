/- The faster interpreter: operations. Nothing is claimed here; no condition. -/
import Derived.Test.YtjecbjnckbihoaaDoorAbsR
namespace Go.Abs
open Go

noncomputable def hgK (h : List (Nat × Blk)) (b : Nat) (K : Blk → Ro) : Ro :=
  List.rec (motive := fun _ => Ro) none (fun p _ ih => Bool.rec ih (K p.2) (Nat.beq p.1 b)) h

theorem hgK_ok {b : Nat} {K : Blk → Ro} {r : AV × St} : ∀ {h : List (Nat × Blk)}, hgK h b K = some r → ∃ x, hget h b = some x ∧ K x = some r
  | [], e => by cases e
  | (i, x) :: h, e => by
    have e : (Bool.rec (motive := fun _ => Ro) (hgK h b K) (K x) (Nat.beq i b)) = some r := e
    simp only [hget, nif]
    cases hb : Nat.beq i b with
    | true => rw [hb] at e; exact ⟨x, rfl, e⟩
    | false => rw [hb] at e; exact hgK_ok (h := h) e

noncomputable def hsK (h : List (Nat × Blk)) (b : Nat) (y : Blk) (K : List (Nat × Blk) → Ro) : Ro :=
  List.rec (motive := fun _ => (List (Nat × Blk) → Ro) → Ro) (fun _ => none) (fun p r ih K => Bool.rec (ih fun l => K (p :: l)) (K ((p.1, y) :: r)) (Nat.beq p.1 b)) h K

theorem hsK_ok {b : Nat} {y : Blk} {r : AV × St} : ∀ {h : List (Nat × Blk)} {K : List (Nat × Blk) → Ro}, hsK h b y K = some r → K (hset h b y) = some r
  | [], K, e => by cases e
  | (i, x) :: h, K, e => by
    have e : (Bool.rec (motive := fun _ => Ro) (hsK h b y fun l => K ((i, x) :: l)) (K ((i, y) :: h)) (Nat.beq i b)) = some r := e
    simp only [hset, nif]
    cases hb : Nat.beq i b with
    | true => rw [hb] at e; exact e
    | false => rw [hb] at e; exact hsK_ok (h := h) e

noncomputable def nthK (l : List AV) (n : Nat) (K : AV → Ro) : Ro :=
  List.rec (motive := fun _ => Nat → Ro) (fun _ => none) (fun x _ ih n => Nat.rec (motive := fun _ => Ro) (K x) (fun m _ => ih m) n) l n

theorem nthK_ok {K : AV → Ro} {r : AV × St} : ∀ {l : List AV} {n : Nat}, nthK l n K = some r → ∃ x, getCells l n 1 = some [x] ∧ K x = some r
  | [], n, e => by cases e
  | x :: l, 0, e => ⟨x, rfl, e⟩
  | x :: l, n + 1, e => by
    obtain ⟨y, h1, h2⟩ := nthK_ok (l := l) (n := n) e
    exact ⟨y, h1, h2⟩

noncomputable def putK (l : List AV) (n : Nat) (v : AV) (K : List AV → Ro) : Ro :=
  List.rec (motive := fun _ => Nat → (List AV → Ro) → Ro) (fun _ _ => none) (fun x r ih n K => Nat.rec (motive := fun _ => Ro) (K (v :: r)) (fun m _ => ih m fun l => K (x :: l)) n) l n K

theorem putK_ok {v : AV} {r : AV × St} : ∀ {l : List AV} {n : Nat} {K : List AV → Ro}, putK l n v K = some r → ∃ l', putN n [v] l = some l' ∧ K l' = some r
  | [], n, K, e => by cases e
  | x :: l, 0, K, e => ⟨v :: l, rfl, e⟩
  | x :: l, n + 1, K, e => by
    obtain ⟨l', h1, h2⟩ := putK_ok (l := l) (n := n) (K := fun l => K (x :: l)) e
    exact ⟨x :: l', by simp only [putN, h1], h2⟩

noncomputable def ld1 (σ : St) (p : AV) (K : AV → Ro) : Ro :=
  match p with
  | .ptr b off => hgK σ.h b fun x => nthK x.cells off K
  | .lp cs off => nthK cs off K
  | _ => none

theorem ld1_ok {σ : St} {p : AV} {K : AV → Ro} {r : AV × St} (h : ld1 σ p K = some r) : ∃ x, cellsAt σ p 1 = some [x] ∧ K x = some r := by
  unfold ld1 at h
  split at h
  · rename_i b off
    obtain ⟨y, h1, h2⟩ := hgK_ok h
    obtain ⟨x, h3, h4⟩ := nthK_ok h2
    exact ⟨x, by simp only [cellsAt, St.get, h1, h3], h4⟩
  · obtain ⟨x, h3, h4⟩ := nthK_ok h
    exact ⟨x, h3, h4⟩
  · cases h

noncomputable def st1 (σ : St) (p v : AV) (K : St → Ro) : Ro :=
  match p with
  | .ptr b off => bif v.one then hgK σ.h b fun x => putK x.cells off v fun l => hsK σ.h b ⟨l, x.esz, x.opn⟩ fun h => K ⟨h, σ.n⟩ else none
  | _ => none

theorem st1_ok {T : Tab} {t : TypeId} {i : TyI} (ht : T.ty t = some i) (hsz : i.size = 1) {σ : St} {p v : AV} {K : St → Ro} {r : AV × St} (h : st1 σ p v K = some r) : ∃ σ', storeA T σ t p v = some σ' ∧ K σ' = some r := by
  unfold st1 at h
  split at h
  · rename_i b off
    cases ho : v.one with
    | false => rw [ho] at h; cases h
    | true =>
      rw [ho] at h
      simp only [cond_true] at h
      obtain ⟨y, h1, h2⟩ := hgK_ok h
      obtain ⟨l, h3, h4⟩ := putK_ok h2
      have h5 := hsK_ok h4
      have hc : v.cellsOf = [v] := by cases v <;> first | rfl | (simp [AV.one] at ho)
      refine ⟨_, ?_, h5⟩
      simp only [storeA, ht, hc, hsz, List.length_singleton, if_true, storeCellsA, St.get, h1, allOne, ho, Bool.and_true, h3, St.set]
  · cases h

noncomputable def fval (T : Tab) (op : Op) : FV :=
  match op with
  | .move x => match fx x with | ⟨f⟩ => ⟨fun E σ k => f E fun v => k v σ⟩
  | .assign x => match fx x with | ⟨f⟩ => ⟨fun E σ k => f E fun v => k v σ⟩
  | .binOp .shl t x y yt => fvGen T (.binOp .shl t x y yt)
  | .binOp .shr t x y yt => fvGen T (.binOp .shr t x y yt)
  | .binOp o t x y yt => match fbin o, fx x, fx y, fvGen T (.binOp o t x y yt) with
    | ⟨b⟩, ⟨f⟩, ⟨g⟩, ⟨gen⟩ => ⟨fun E σ k => f E fun u => g E fun v => match u, v with
      | .int p m, .int q n => bif Nat.beq (kcode p) (kcode q) then b p m n fun w => k w σ else none
      | _, _ => gen E σ k⟩
  | .load t a => match T.ty t with
    | some i => bif !pureLd T t a && (Nat.beq i.size 1 && !i.k.isAgg) then (match fx a with | ⟨f⟩ => ⟨fun E σ k => f E fun p => ld1 σ p fun v => k v σ⟩) else fvGen T (.load t a)
    | none => fvGen T (.load t a)
  | .store t a x => match T.ty t with
    | some i => bif Nat.beq i.size 1 then (match fx a, fx x with | ⟨f⟩, ⟨g⟩ => ⟨fun E σ k => f E fun p => g E fun v => st1 σ p v fun σ' => k .und σ'⟩) else fvGen T (.store t a x)
    | none => fvGen T (.store t a x)
  | .indexAddr t x i => match T.ty t with
    | some ti => match ti.k with
      | .slice e => match T.ty e with
        | some z => match fx x, fx i, z.size with
          | ⟨f⟩, ⟨g⟩, sz => ⟨fun E σ k => f E fun u => g E fun v => match u, v with
            | .sl b off len _, .int _ (.ofNat j) => bif Nat.blt j len then k (.ptr b (Nat.add off (Nat.mul j sz))) σ else none
            | .lst len cs, .int _ (.ofNat j) => bif Nat.blt j len then k (.lp cs (Nat.mul j sz)) σ else none
            | _, _ => none⟩
        | none => fvGen T (.indexAddr t x i)
      | _ => fvGen T (.indexAddr t x i)
    | none => fvGen T (.indexAddr t x i)
  | .convert s d x => match T.ty s, T.ty d with
    | some i, some j => match i.k, j.k with
      | .int _, .int kk => match fx x with
        | ⟨f⟩ => ⟨fun E σ k => f E fun v => match v with
          | .int _ n => k (.int kk (wrapA kk n)) σ
          | _ => none⟩
      | _, _ => fvGen T (.convert s d x)
    | _, _ => fvGen T (.convert s d x)
  | .unOp o _ x => match fx x with | ⟨f⟩ => ⟨fun E σ k => f E fun v => match unA o v with | some w => k w σ | none => none⟩
  | .nilCheck x => match fx x with | ⟨f⟩ => ⟨fun E σ k => f E fun v => match v with
      | .ptr b o => k (.ptr b o) σ
      | .lp c o => k (.lp c o) σ
      | .fn g a b => k (.fn g a b) σ
      | _ => none⟩
  | .extract x i => match fx x with | ⟨f⟩ => ⟨fun E σ k => f E fun v => match v with
      | .tup vs => (match lstAt vs i with | some w => k w σ | none => none)
      | _ => none⟩
  | .pick c a b => match fx c, fx a, fx b with | ⟨f⟩, ⟨g⟩, ⟨h⟩ => ⟨fun E σ k => f E fun v => match v with
      | .bool true => g E fun w => k w σ
      | .bool false => h E fun w => k w σ
      | _ => none⟩
  | .fieldAddr t x i => match fx x with | ⟨f⟩ => ⟨fun E σ k => f E fun v => match fieldAddrA T t v i with | some w => k w σ | none => none⟩
  | op => fvGen T op

theorem fval_ok (T : Tab) (op : Op) : (fval T op).Ok T op := by
  have opt : ∀ {x : Option AV} {k : AV → Ro} {r : AV × St}, (match x with | some w => k w | none => none) = some r → ∃ w, x = some w ∧ k w = some r := fun {x k r} h => by
    cases x with
    | none => cases h
    | some w => exact ⟨w, rfl, h⟩
  cases op
  case move x =>
    intro E env σ k r hR h
    obtain ⟨v, h1, h2⟩ := fx_ok hR (x := x) h
    exact ⟨v, σ, by simp only [opA, h1, valS], h2⟩
  case assign x =>
    intro E env σ k r hR h
    obtain ⟨v, h1, h2⟩ := fx_ok hR (x := x) h
    exact ⟨v, σ, by simp only [opA, h1, valS], h2⟩
  case binOp o t x y yt =>
    by_cases hs : o = .shl
    · subst hs; exact fvGen_ok T _
    by_cases hs2 : o = .shr
    · subst hs2; exact fvGen_ok T _
    have he : fval T (.binOp o t x y yt) = ⟨fun E σ k => (fx x).get E fun u => (fx y).get E fun v => match u, v with
      | .int p m, .int q n => bif Nat.beq (kcode p) (kcode q) then (fbin o).f p m n fun w => k w σ else none
      | _, _ => (fvGen T (.binOp o t x y yt)).run E σ k⟩ := by cases o <;> first | rfl | exact (hs rfl).elim | exact (hs2 rfl).elim
    rw [he]
    intro E env σ k r hR h
    obtain ⟨u, h1, h2⟩ := fx_ok hR (x := x) h
    obtain ⟨v, h3, h4⟩ := fx_ok hR (x := y) h2
    split at h4
    · rename_i p m q n
      cases hb : Nat.beq (kcode p) (kcode q) with
      | false => rw [hb] at h4; cases h4
      | true =>
        rw [hb] at h4
        have := kcode_inj hb
        subst this
        obtain ⟨q1, q2, w, h5, h6⟩ := fbin_ok h4
        refine ⟨w, σ, ?_, h6⟩
        have hbin : binA T o t (.int p m) (.int p n) = some w := by
          rw [← h5]
          cases o <;> first | exact (q1 rfl).elim | exact (q2 rfl).elim | simp [binA]
        simp only [opA, h1, h3, hbin, valS]
    · exact fvGen_ok T _ E env σ k r hR h4
  case load t a =>
    simp only [fval]
    split
    · rename_i i ht
      cases hb0 : (!pureLd T t a && (Nat.beq i.size 1 && !i.k.isAgg)) with
      | false => exact fvGen_ok T _
      | true =>
        simp only [Bool.and_eq_true, Bool.not_eq_true'] at hb0
        obtain ⟨hpl, hb⟩ := hb0
        intro E env σ k r hR h
        obtain ⟨p, h1, h2⟩ := fx_ok hR (x := a) h
        obtain ⟨x, h3, h4⟩ := ld1_ok h2
        refine ⟨x, σ, ?_, h4⟩
        have hs := Nat.eq_of_beq_eq_true hb.1
        simp only [opA, h1, hpl, cond_false, loadA, ht, hs, h3, asVar, hb.2, valS, Bool.false_eq_true, if_false]
    · exact fvGen_ok T _
  case store t a x =>
    simp only [fval]
    split
    · rename_i i ht
      cases hb : Nat.beq i.size 1 with
      | false => exact fvGen_ok T _
      | true =>
        intro E env σ k r hR h
        obtain ⟨p, h1, h2⟩ := fx_ok hR (x := a) h
        obtain ⟨v, h3, h4⟩ := fx_ok hR (x := x) h2
        obtain ⟨σ', h5, h6⟩ := st1_ok ht (Nat.eq_of_beq_eq_true hb) h4
        exact ⟨.und, σ', by simp only [opA, h1, h3, h5], h6⟩
    · exact fvGen_ok T _
  case indexAddr t x i =>
    simp only [fval]
    split
    · rename_i ti ht
      split
      · rename_i e hk
        split
        · rename_i z hz
          intro E env σ k r hR h
          obtain ⟨u, h1, h2⟩ := fx_ok hR (x := x) h
          obtain ⟨v, h3, h4⟩ := fx_ok hR (x := i) h2
          split at h4
          · rename_i b off len cap q j
            cases hb : Nat.blt j len with
            | false => rw [hb] at h4; cases h4
            | true =>
              rw [hb] at h4
              refine ⟨_, σ, ?_, h4⟩
              simp only [opA, h1, h3, indexAddrA, ht, hk, hz, inB, hb, cond_true, valS, Int.toNat]
              rfl
          · rename_i len cs q j
            cases hb : Nat.blt j len with
            | false => rw [hb] at h4; cases h4
            | true =>
              rw [hb] at h4
              refine ⟨_, σ, ?_, h4⟩
              simp only [opA, h1, h3, indexAddrA, ht, hk, hz, inB, hb, cond_true, valS, Int.toNat]
              rfl
          · cases h4
        · exact fvGen_ok T _
      · exact fvGen_ok T _
    · exact fvGen_ok T _
  case convert s d x =>
    simp only [fval]
    split
    · rename_i i j hi hj
      split
      · rename_i a kk ha hk
        intro E env σ k r hR h
        obtain ⟨u, h1, h2⟩ := fx_ok hR (x := x) h
        split at h2
        · exact ⟨_, σ, by simp only [opA, h1, convA, hi, hj, ha, hk, val2], h2⟩
        · cases h2
      · exact fvGen_ok T _
    · exact fvGen_ok T _
  case unOp o t x =>
    intro E env σ k r hR h
    obtain ⟨u, h1, h2⟩ := fx_ok hR (x := x) h
    obtain ⟨w, h3, h4⟩ := opt (k := fun w => k w σ) h2
    exact ⟨w, σ, by simp only [opA, h1, h3, valS], h4⟩
  case nilCheck x =>
    intro E env σ k r hR h
    obtain ⟨u, h1, h2⟩ := fx_ok hR (x := x) h
    split at h2
    · exact ⟨_, σ, by simp only [opA, h1], h2⟩
    · exact ⟨_, σ, by simp only [opA, h1], h2⟩
    · exact ⟨_, σ, by simp only [opA, h1], h2⟩
    · cases h2
  case extract x i =>
    intro E env σ k r hR h
    obtain ⟨u, h1, h2⟩ := fx_ok hR (x := x) h
    split at h2
    · obtain ⟨w, h3, h4⟩ := opt (k := fun w => k w σ) h2
      rw [lstAt_eq] at h3
      exact ⟨w, σ, by simp only [opA, h1, h3, valS], h4⟩
    · cases h2
  case pick c a b =>
    intro E env σ k r hR h
    obtain ⟨u, h1, h2⟩ := fx_ok hR (x := c) h
    split at h2
    · obtain ⟨w, h3, h4⟩ := fx_ok hR (x := a) h2
      exact ⟨w, σ, by simp only [opA, h1, h3, valS], h4⟩
    · obtain ⟨w, h3, h4⟩ := fx_ok hR (x := b) h2
      exact ⟨w, σ, by simp only [opA, h1, h3, valS], h4⟩
    · cases h2
  case fieldAddr t x i =>
    intro E env σ k r hR h
    obtain ⟨u, h1, h2⟩ := fx_ok hR (x := x) h
    obtain ⟨w, h3, h4⟩ := opt (k := fun w => k w σ) h2
    exact ⟨w, σ, by simp only [opA, h1, h3, valS], h4⟩
  all_goals exact fvGen_ok T _

end Go.Abs
