/- Regions whose order the model draws: the walk. Nothing is claimed here; no condition. -/
import Derived.Test.YtjecbjnckbihoaaDoorAbsN
namespace Go.Abs
open Go

variable {P : Program} {T : Tab} {Z Zc : Fz} {φ : Nat → Pl} {σ σ' : St} {w w' : World}

theorem clsA_cases (op : Op) : clsA T op = 0 ∨ clsA T op = 1 ∨ clsA T op = 2 := by
  cases op
  case load t x =>
    simp only [clsA]
    cases pureLd T t x <;> simp
  all_goals simp only [clsA] <;> (repeat' split) <;> simp

/-! ### The way of the text -/
structure Way (T : Tab) (call : FuncId → List AV → St → Option (AV × St)) (nt : Nat) (ops : Array Oper) (ps : List (Nat × Nat)) (E : Nat → Env) (H : Nat → St) : Prop where
  step : ∀ i o, ops[i]? = some o → opStep T call nt ops o (E i) (H i) = some (E (i + 1), H (i + 1))
  pair : ∀ i j o, (i, j) ∈ ps → ops[i]? = some o → wantedA ops o (E i) = some true → ∃ v s s', opA T (E i) (H i) o.op = some (.val v s) ∧ opA T (E i) (H (if j < i then j else j + 1)) o.op = some (.val v s')

variable {call : FuncId → List AV → St → Option (AV × St)} {nt : Nat} {ops : Array Oper} {ps : List (Nat × Nat)} {E : Nat → Env} {H : Nat → St} {R : Nat → Nat → Prop}

theorem opStep_quiet {o : Oper} {env env' : Env} (h : opStep T call nt ops o env σ = some (env', σ')) (hc : clsA T o.op ≠ 2) : σ' = σ := by
  unfold opStep at h
  split at h
  · cases h
  · split at h <;> cases h; rfl
  · have key : ∀ r, opA T env σ o.op = some r → ∃ v, r = .val v σ := fun r hr => by
      rcases clsA_cases (T := T) o.op with h0 | h1 | h2
      · obtain ⟨v, hv, _⟩ := opA_pure h0 hr; exact ⟨v, hv⟩
      · exact opA_read h1 hr
      · exact (hc h2).elim
    split at h
    · cases h
    · rename_i v s hop
      obtain ⟨v', hv⟩ := key _ hop
      cases hv
      split at h <;> cases h; rfl
    · rename_i f args hop
      obtain ⟨v', hv⟩ := key _ hop
      cases hv

theorem opStep_put {o : Oper} {env env' : Env} (h : opStep T call nt ops o env σ = some (env', σ')) : ∃ v, putE nt o.dst v env = some env' := by
  unfold opStep at h
  split at h
  · cases h
  · split at h
    · rename_i e he; cases h; exact ⟨_, he⟩
    · cases h
  · split at h
    · cases h
    · split at h
      · rename_i e he; cases h; exact ⟨_, he⟩
      · cases h
    · split at h
      · cases h
      · split at h
        · rename_i e he; cases h; exact ⟨_, he⟩
        · cases h

theorem putE_ne {dst : Option Nat} {v : AV} {env env' : Env} {t : Nat} (h : putE nt dst v env = some env') (hd : dst ≠ some t) : lk env' t = lk env t := by
  unfold putE at h
  split at h
  · cases h; rfl
  · rename_i s
    split at h
    · cases h; rw [lk_cons, if_neg (fun e => hd (by rw [e]))]
    · cases h

/-- No effect, no change: or there is a first effect. -/
theorem Way.first (hW : Way T call nt ops ps E H) {p : Nat} : ∀ k, p + k ≤ ops.size → H p = H (p + k) ∨ ∃ j o, ops[j]? = some o ∧ clsA T o.op = 2 ∧ p ≤ j ∧ j < p + k ∧ H p = H j
  | 0, _ => .inl rfl
  | k + 1, hk => by
    rcases hW.first (p := p) k (by omega) with h | ⟨j, o, h1, h2, h3, h4, h5⟩
    · obtain ⟨o, ho⟩ : ∃ o, ops[p + k]? = some o := ⟨_, Array.getElem?_eq_getElem (by omega)⟩
      by_cases hc : clsA T o.op = 2
      · exact .inr ⟨p + k, o, ho, hc, by omega, by omega, h⟩
      · left; rw [h]; exact (opStep_quiet (hW.step _ o ho) hc).symm
    · exact .inr ⟨j, o, h1, h2, h3, by omega, h5⟩

/-- ... or a last one. -/
theorem Way.last (hW : Way T call nt ops ps E H) {p : Nat} : ∀ k, p + k ≤ ops.size → H p = H (p + k) ∨ ∃ j o, ops[j]? = some o ∧ clsA T o.op = 2 ∧ p ≤ j ∧ j < p + k ∧ H (j + 1) = H (p + k)
  | 0, _ => .inl rfl
  | k + 1, hk => by
    obtain ⟨o, ho⟩ : ∃ o, ops[p + k]? = some o := ⟨_, Array.getElem?_eq_getElem (by omega)⟩
    by_cases hc : clsA T o.op = 2
    · exact .inr ⟨p + k, o, ho, hc, by omega, by omega, rfl⟩
    · have hq : H (p + (k + 1)) = H (p + k) := opStep_quiet (hW.step _ o ho) hc
      rw [hq]
      rcases hW.last (p := p) k (by omega) with h | ⟨j, o, h1, h2, h3, h4, h5⟩
      · exact .inl h
      · exact .inr ⟨j, o, h1, h2, h3, by omega, h5⟩

/-- A slot that nobody writes. -/
theorem Way.slot (hW : Way T call nt ops ps E H) {p t : Nat} : ∀ k, p + k ≤ ops.size → (∀ j o, ops[j]? = some o → p ≤ j → j < p + k → o.dst ≠ some t) → lk (E (p + k)) t = lk (E p) t
  | 0, _, _ => rfl
  | k + 1, hk, h => by
    obtain ⟨o, ho⟩ : ∃ o, ops[p + k]? = some o := ⟨_, Array.getElem?_eq_getElem (by omega)⟩
    obtain ⟨v, hv⟩ := opStep_put (hW.step _ o ho)
    rw [← hW.slot (p := p) k (by omega) (fun j o h1 h2 h3 => h j o h1 h2 (by omega))]
    exact putE_ne hv (h _ o ho (by omega) (by omega))

/-! ### What holds on the way of the machine -/
structure DInv (T : Tab) (ops : Array Oper) (E : Nat → Env) (H : Nat → St) (Z : Fz) (φ : Nat → Pl) (w0 : World) (a0 : Act) (listed : Array Bool) (a : Act) (w : World) (Z1 : Fz) (φ1 : Nat → Pl) (p : Nat) : Prop where
  size : listed.size = ops.size
  closed : ∀ j o, ops[j]? = some o → listed.getD j false = true → ∀ e ∈ o.after, Region.binds .any e = true → listed.getD e.on false = true
  le : p ≤ ops.size
  eff : ∀ i o, ops[i]? = some o → clsA T o.op = 2 → (listed.getD i false = true ↔ i < p)
  inv : Inv Z1 φ1 (H p) w
  ext : Ext Z φ (H 0) w0 Z1 φ1 (H p) w
  slots : ∀ t m, m ≤ ops.size → (∀ i o, ops[i]? = some o → o.dst = some t → (listed.getD i false = true ↔ i < m)) → ∀ v, lk (E m) t = some v → ∃ u, a.tmps[t]? = some u ∧ VR Z1 φ1 v u ∧ Sc (H p).n v
  defers : a.defers = a0.defers
  tmps : a.tmps.size = a0.tmps.size

theorem reach_in (hO : Ordered T ops ps R) {listed : Array Bool} (hcl : ∀ j o, ops[j]? = some o → listed.getD j false = true → ∀ e ∈ o.after, Region.binds .any e = true → listed.getD e.on false = true) :
    ∀ j i o, ops[j]? = some o → R i j → (∀ e ∈ o.after, Region.binds .any e = true → listed.getD e.on false = true) → listed.getD i false = true := by
  intro j
  induction j using Nat.strongRecOn with
  | _ j ih =>
    intro i o ho hr he
    obtain ⟨e, h1, h2, h3⟩ := hO.step i j o hr ho
    rcases h3 with h3 | h3
    · rw [← h3]; exact he e h1 h2
    · have hlt := hO.down j o ho e h1 h2
      have hj : j < ops.size := (Array.getElem?_eq_some_iff.1 ho).1
      obtain ⟨o', ho'⟩ : ∃ o', ops[e.on]? = some o' := ⟨_, Array.getElem?_eq_getElem (by omega)⟩
      exact ih e.on hlt i o' ho' h3 (hcl e.on o' ho' (he e h1 h2))

theorem getD_set {listed : Array Bool} {i j : Nat} (hi : i < listed.size) : (listed.setIfInBounds i true).getD j false = true ↔ (listed.getD j false = true ∨ j = i) := by
  by_cases h : i = j
  · subst h; simp [hi]
  · rw [getD_set_ne false h]
    constructor
    · exact .inl
    · rintro (h' | h')
      · exact h'
      · exact (h h'.symm).elim

set_option maxHeartbeats 1000000 in
theorem draw_go (hT : TyT P T) (hC : CallOK P call) (hO : Ordered T ops ps R) (hW : Way T call nt ops ps E H) {w0 : World} {a0 : Act} (hn : nt ≤ a0.tmps.size) {Q : Exit → Act → World → Prop}
    (hQ : ∀ a w Z1 φ1, ER Z1 φ1 (H ops.size).n (E ops.size) a.tmps → a.defers = a0.defers → a.tmps.size = a0.tmps.size → Inv Z1 φ1 (H ops.size) w → Ext Z φ (H 0) w0 Z1 φ1 (H ops.size) w → Q .normal a w) :
    ∀ (fuel : Nat) (listed : Array Bool) (a : Act) (w : World) (Z1 : Fz) (φ1 : Nat → Pl) (p : Nat), DInv T ops E H Z φ w0 a0 listed a w Z1 φ1 p → listed.toList.count false = fuel → wpAny P .any ops Q fuel listed a w := by
  -- behind the last operation
  have done : ∀ (listed : Array Bool) (a : Act) (w : World) (Z1 : Fz) (φ1 : Nat → Pl) (p : Nat), DInv T ops E H Z φ w0 a0 listed a w Z1 φ1 p → Region.ready .any ops listed = [] → Q .normal a w := by
    intro listed a w Z1 φ1 p D hr
    have all : ∀ i, i < ops.size → listed.getD i false = true := by
      intro i
      induction i using Nat.strongRecOn with
      | _ i ih =>
        intro hi
        rcases Bool.eq_false_or_eq_true (listed.getD i false) with h | h
        · exact h
        · exfalso
          have : i ∈ Region.ready .any ops listed := by
            rw [mem_ready]
            refine ⟨?_, ops[i], by simp [hi], fun e he hb => ?_⟩
            · have hs : i < listed.size := by rw [D.size]; exact hi
              simpa [hs] using h
            · have := hO.down i ops[i] (by simp [hi]) e he hb
              exact ih e.on this (by omega)
          rw [hr] at this
          cases this
    have hlt : ∀ i o, ops[i]? = some o → i < ops.size := fun i o ho => (Array.getElem?_eq_some_iff.1 ho).1
    have hp : H p = H ops.size := by
      have hle := D.le
      rcases hW.first (p := p) (ops.size - p) (by omega) with h | ⟨j, o, h1, h2, h3, h4, _⟩
      · rw [h]; congr 1; omega
      · have := (D.eff j o h1 h2).1 (all j (hlt j o h1))
        omega
    refine hQ a w Z1 φ1 (fun t v hv => ?_) D.defers D.tmps (hp ▸ D.inv) (hp ▸ D.ext)
    rw [← hp]
    exact D.slots t ops.size (Nat.le_refl _) (fun i o ho _ => ⟨fun _ => hlt i o ho, fun _ => all i (hlt i o ho)⟩) v hv
  intro fuel
  induction fuel with
  | zero =>
    intro listed a w Z1 φ1 p D hcount
    have hr : Region.ready .any ops listed = [] := by
      cases hx : Region.ready .any ops listed with
      | nil => rfl
      | cons i r =>
        have hi : i ∈ Region.ready .any ops listed := by rw [hx]; simp
        obtain ⟨h1, _⟩ := mem_ready.1 hi
        have hs : i < listed.size := by
          rcases Nat.lt_or_ge i listed.size with h | h
          · exact h
          · simp [Array.getElem?_eq_none h] at h1
        have : false ∈ listed.toList := by
          have h2 : listed[i] = false := by simpa [hs] using h1
          rw [← h2]; simp
        exact absurd hcount (by have := List.count_pos_iff.2 this; omega)
    exact ⟨hr, done listed a w Z1 φ1 p D hr⟩
  | succ fuel ih =>
    intro listed a w Z1 φ1 p D hcount
    refine ⟨done listed a w Z1 φ1 p D, fun i hi => ?_⟩
    obtain ⟨hun, o, ho, hedge⟩ := mem_ready.1 hi
    have hlt : i < ops.size := (Array.getElem?_eq_some_iff.1 ho).1
    have hls : i < listed.size := by rw [D.size]; exact hlt
    have hun' : listed.getD i false = false := by simpa [hls] using hun
    have hin : ∀ j, R j i → listed.getD j false = true := fun j hr => reach_in hO D.closed i j o ho hr hedge
    have hout : ∀ j oj, ops[j]? = some oj → R i j → ¬ listed.getD j false = true := fun j oj hj hr hs => by
      have := reach_in hO D.closed j i oj hj hr (D.closed j oj hj hs)
      rw [hun'] at this; cases this
    have hole := D.le
    -- the step, from the heap as it is
    have hstep : ∃ p', p' ≤ ops.size ∧ opStep T call nt ops o (E i) (H p) = some (E (i + 1), H p') ∧ ∀ j oj, ops[j]? = some oj → clsA T oj.op = 2 → ((listed.getD j false = true ∨ j = i) ↔ j < p') := by
      have hs := hW.step i o ho
      have quiet : clsA T o.op ≠ 2 → ∀ j oj, ops[j]? = some oj → clsA T oj.op = 2 → ((listed.getD j false = true ∨ j = i) ↔ j < p) := by
        intro hc j oj hj hcj
        rw [D.eff j oj hj hcj]
        constructor
        · rintro (h | h)
          · exact h
          · subst h; rw [hj] at ho; cases ho; exact (hc hcj).elim
        · exact .inl
      rcases clsA_cases (T := T) o.op with hc | hc | hc
      · refine ⟨p, hole, ?_, quiet (by omega)⟩
        unfold opStep at hs ⊢
        split at hs
        · cases hs
        · rename_i hw
          split at hs
          case h_2 => cases hs
          rename_i e he
          simp only [Option.some.injEq, Prod.mk.injEq] at hs
          first | (rw [he]; simp [hs.1]; done) | (simp [hs.1]; done)
        · rename_i hw
          split at hs
          · cases hs
          · rename_i v s hop
            obtain ⟨v', hv, hall⟩ := opA_pure hc hop
            cases hv
            rw [hall (H p)]; simp only []
            split at hs
            case h_2 => cases hs
            rename_i e he
            simp only [Option.some.injEq, Prod.mk.injEq] at hs
            first | (rw [he]; simp [hs.1]; done) | (simp [hs.1]; done)
          · rename_i f args hop
            obtain ⟨v', hv, hall⟩ := opA_pure hc hop
            cases hv
      · refine ⟨p, hole, ?_, quiet (by omega)⟩
        unfold opStep at hs ⊢
        split at hs
        · cases hs
        · rename_i hw
          split at hs
          case h_2 => cases hs
          rename_i e he
          simp only [Option.some.injEq, Prod.mk.injEq] at hs
          first | (rw [he]; simp [hs.1]; done) | (simp [hs.1]; done)
        · rename_i hw
          have stable : ∀ v s, opA T (E i) (H i) o.op = some (.val v s) → opA T (E i) (H p) o.op = some (.val v (H p)) := by
            intro v s hv
            have fix : ∀ q, H p = H q → (∃ v s s', opA T (E i) (H i) o.op = some (.val v s) ∧ opA T (E i) (H q) o.op = some (.val v s')) → opA T (E i) (H p) o.op = some (.val v (H p)) := by
              rintro q hq ⟨v', s1, s2, h1, h2⟩
              rw [hv] at h1
              cases h1
              obtain ⟨v2, h3⟩ := opA_read hc h2
              cases h3
              rw [hq]; exact h2
            by_cases hpi : p ≤ i
            · rcases hW.first (p := p) (i - p) (by omega) with h | ⟨j, oj, h1, h2, h3, h4, h5⟩
              · exact fix i (by rw [h]; congr 1; omega) ⟨v, s, s, hv, hv⟩
              · have hnj : ¬ listed.getD j false = true := fun hx => by have := (D.eff j oj h1 h2).1 hx; omega
                rcases hO.er j i oj o h1 ho (by omega) h2 hc with h | h
                · exact (hnj (hin j h)).elim
                · have := hW.pair i j o h ho hw
                  rw [if_pos (by omega)] at this
                  exact fix j h5 this
            · rcases hW.last (p := i) (p - i) (by omega) with h | ⟨j, oj, h1, h2, h3, h4, h5⟩
              · exact fix i (by rw [h]; congr 1; omega) ⟨v, s, s, hv, hv⟩
              · have hsj : listed.getD j false = true := (D.eff j oj h1 h2).2 (by omega)
                have hij : i < j := by
                  rcases Nat.lt_or_ge i j with h | h
                  · exact h
                  · have : i = j := by omega
                    subst this; rw [hun'] at hsj; cases hsj
                rcases hO.re i j o oj ho h1 hij hc h2 with h | h
                · exact (hout j oj h1 h hsj).elim
                · have := hW.pair i j o h ho hw
                  rw [if_neg (by omega)] at this
                  exact fix (j + 1) (by rw [h5]; congr 1; omega) this
          split at hs
          · cases hs
          · rename_i v s hop
            rw [stable v s hop]; simp only []
            split at hs
            case h_2 => cases hs
            rename_i e he
            simp only [Option.some.injEq, Prod.mk.injEq] at hs
            first | (rw [he]; simp [hs.1]; done) | (simp [hs.1]; done)
          · rename_i f args hop
            obtain ⟨v', hv⟩ := opA_read hc hop
            cases hv
      · have hpi : p ≤ i := by
          rcases Nat.lt_or_ge i p with h | h
          · have := (D.eff i o ho hc).2 h
            rw [hun'] at this; cases this
          · exact h
        have hno : ∀ j oj, ops[j]? = some oj → clsA T oj.op = 2 → p ≤ j → ¬ j < i := by
          intro j oj h1 h2 h3 h4
          have := (D.eff j oj h1 h2).1 (hin j (hO.ee j i oj o h1 ho h4 h2 hc))
          omega
        have hH : H p = H i := by
          rcases hW.first (p := p) (i - p) (by omega) with h | ⟨j, oj, h1, h2, h3, h4, h5⟩
          · rw [h]; congr 1; omega
          · exact (hno j oj h1 h2 h3 (by omega)).elim
        refine ⟨i + 1, hlt, by rw [hH]; exact hs, fun j oj hj hcj => ?_⟩
        rw [D.eff j oj hj hcj]
        constructor
        · rintro (h | h) <;> omega
        · intro h
          by_cases hji : j = i
          · exact .inr hji
          · left
            rcases Nat.lt_or_ge j p with h' | h'
            · exact h'
            · exact (hno j oj hj hcj h' (by omega)).elim
    obtain ⟨p', hp', hst, heff⟩ := hstep
    obtain ⟨env2, hst2, hput⟩ := opStep_restrict hst
    have hcut : ∀ t, t ∈ o.looksAt ops → ∀ j oj, ops[j]? = some oj → oj.dst = some t → (listed.getD j false = true ↔ j < i) := by
      intro t ht j oj hj hd
      constructor
      · intro hs
        rcases Nat.lt_trichotomy j i with h | h | h
        · exact h
        · subst h; rw [hun'] at hs; cases hs
        · exact (hout j oj hj (hO.r i j o oj t ho hj h hd ht) hs).elim
      · intro h
        exact hin j (hO.w j i oj o t hj ho h hd (.inl ht))
    have hER : ER Z1 φ1 (H p).n (restrict (o.looksAt ops) (E i)) a.tmps := by
      intro t v hv
      exact D.slots t i (Nat.le_of_lt hlt) (hcut t (lk_restrict_in _ t v hv)) v (lk_restrict _ t v hv)
    unfold wpOp
    simp only [ho]
    refine opStep_wp (K := wpAny P .any ops Q fuel (listed.setIfInBounds i true)) hT hC hst2 hER D.inv ?_
    intro v u Z2 φ2 w1 hpv hv hs hI2 hx2
    have hpE := hput v hpv
    have hcnt : (listed.setIfInBounds i true).toList.count false = fuel := by
      rw [Array.toList_setIfInBounds, List.count_set (by simpa using hls)]
      have h2 : listed[i] = false := by simpa [hls] using hun
      simp [h2, hcount]
    refine ih _ _ _ Z2 φ2 p' ⟨by simp [D.size], ?_, hp', ?_, hI2, D.ext.trans hx2, ?_, ?_, ?_⟩ hcnt
    · intro j oj hj hsj e he hb
      rw [getD_set hls] at hsj ⊢
      rcases hsj with h | h
      · exact .inl (D.closed j oj hj h e he hb)
      · subst h; rw [ho] at hj; cases hj; exact .inl (hedge e he hb)
    · intro j oj hj hcj
      rw [getD_set hls]; exact heff j oj hj hcj
    · intro t m hm hcut' x hx
      have hsz : a.tmps.size = a0.tmps.size := D.tmps
      by_cases hd : o.dst = some t
      · -- the slot that has been written
        have him : i < m := (hcut' i o ho hd).1 ((getD_set hls).2 (.inr rfl))
        have hnot : ∀ j oj, ops[j]? = some oj → i + 1 ≤ j → j < (i + 1) + (m - (i + 1)) → oj.dst ≠ some t := by
          intro j oj hj h1 h2 hdj
          have h3 := (hcut' j oj hj hdj).2 (by omega)
          rw [getD_set hls] at h3
          rcases h3 with h3 | h3
          · exact hout j oj hj (hO.w i j o oj t ho hj (by omega) hd (.inr hdj)) h3
          · omega
        have he := hW.slot (p := i + 1) (t := t) (m - (i + 1)) (by omega) hnot
        rw [show i + 1 + (m - (i + 1)) = m by omega] at he
        rw [he] at hx
        unfold putE at hpE
        rw [hd] at hpE
        simp only [] at hpE
        split at hpE
        case isFalse => cases hpE
        rename_i hlt'
        simp only [Option.some.injEq] at hpE
        rw [← hpE, lk_cons, if_pos rfl] at hx
        cases hx
        refine ⟨u, ?_, hv, hs⟩
        rw [hd]
        simp only [Act.put]
        rw [Array.getElem?_setIfInBounds]
        simp
        omega
      · have hcut0 : ∀ j oj, ops[j]? = some oj → oj.dst = some t → (listed.getD j false = true ↔ j < m) := by
          intro j oj hj hdj
          rw [← hcut' j oj hj hdj, getD_set hls]
          constructor
          · exact .inl
          · rintro (h | h)
            · exact h
            · subst h; rw [ho] at hj; cases hj; exact (hd hdj).elim
        obtain ⟨y, h1, h2, h3⟩ := D.slots t m hm hcut0 x hx
        refine ⟨y, ?_, hx2.vr h3 h2, Sc_mono hx2.nn _ h3⟩
        cases hdd : o.dst with
        | none => exact h1
        | some d =>
          simp only [Act.put]
          rw [Array.getElem?_setIfInBounds_ne (fun e => hd (by rw [hdd, e]))]
          exact h1
    · rw [Act.put_defers']; exact D.defers
    · rw [← D.tmps]
      cases o.dst <;> simp [Act.put]

/-! ### From the interpreter's run -/
theorem runTr_spec : ∀ (l : List Oper) (env : Env) (σ : St) (tr : List (Env × St)), runTr T call nt ops l env σ = some tr →
    tr.length = l.length + 1 ∧ tr[0]? = some (env, σ) ∧ ∀ i o, l[i]? = some o → ∃ e s e' s', tr[i]? = some (e, s) ∧ tr[i + 1]? = some (e', s') ∧ opStep T call nt ops o e s = some (e', s')
  | [], env, σ, tr, h => by simp only [runTr] at h; cases h; simp
  | o :: r, env, σ, tr, h => by
    simp only [runTr] at h
    split at h
    case h_2 => cases h
    rename_i e1 s1 hs
    split at h
    case h_2 => cases h
    rename_i l hl
    cases h
    obtain ⟨h1, h2, h3⟩ := runTr_spec r e1 s1 l hl
    refine ⟨by simp [h1], rfl, fun i oi hi => ?_⟩
    cases i with
    | zero =>
      simp at hi; subst hi
      exact ⟨env, σ, e1, s1, rfl, by simpa using h2, hs⟩
    | succ i =>
      obtain ⟨e, s, e', s', k1, k2, k3⟩ := h3 i oi (by simpa using hi)
      exact ⟨e, s, e', s', by simpa using k1, by simpa using k2, k3⟩

theorem runOps_tr : ∀ (l : List Oper) (env : Env) (σ : St) (e : Env) (s : St), runOps T call nt ops l env σ = some (e, s) → ∃ tr, runTr T call nt ops l env σ = some tr ∧ lastOf tr = some (e, s)
  | [], env, σ, e, s, h => by simp only [runOps] at h; cases h; exact ⟨_, rfl, rfl⟩
  | o :: r, env, σ, e, s, h => by
    simp only [runOps] at h
    split at h
    case h_2 => cases h
    rename_i e1 s1 hs
    obtain ⟨tr, h1, h2⟩ := runOps_tr r e1 s1 e s h
    refine ⟨(env, σ) :: tr, by simp only [runTr, hs, h1], ?_⟩
    cases tr with
    | nil => simp [lastOf] at h2
    | cons x y => exact h2

theorem lastOf_eq {α : Type} : ∀ (l : List α), lastOf l = l[l.length - 1]?
  | [] => rfl
  | [x] => rfl
  | x :: y :: r => by
    rw [show lastOf (x :: y :: r) = lastOf (y :: r) from rfl, lastOf_eq (y :: r)]
    simp

theorem pairsOk_spec {tr : List (Env × St)} : ∀ {l : List (Nat × Nat)}, pairsOk T ops tr l = true → ∀ i j, (i, j) ∈ l → pairOk T ops tr i j = true
  | (a, b) :: r, h, i, j, hm => by
    simp only [pairsOk, Bool.and_eq_true] at h
    rcases List.mem_cons.1 hm with he | hm
    · cases he; exact h.1
    · exact pairsOk_spec h.2 i j hm

/-- Does a list of pairs tell of a region in two parts? -/
def isF : List (Nat × Nat) → Bool
  | p :: _ => Nat.beq p.1 1000000
  | [] => false

theorem regOK_drawn (hm : P.follows .mixedOrders = true) (hT : TyT P T) {fi : FI} {id : Nat} {ops : Array Oper} (hF : isF (pairsOf fi.dyn id) = false) (hchk : drawOK T ops (pairsOf fi.dyn id) = true) : RegOK P T fi id ops true := by
  intro call hC env σ env' σ' Z φ a w h hE hn hI
  obtain ⟨R, hO⟩ := drawOK_spec hchk
  unfold regA at h
  split at h
  case h_2 => cases h
  rename_i e1 σ1 h1
  cases h
  simp only [] at h1
  generalize hgz : σ1 = σ' at h1 ⊢
  have htr : ∃ tr, runTr T call fi.nt ops ops.toList env σ = some tr ∧ lastOf tr = some (e1, σ') ∧ pairsOk T ops tr (pairsOf fi.dyn id) = true := by
    cases hp : pairsOf fi.dyn id with
    | nil =>
      rw [hp] at h1
      obtain ⟨tr, k1, k2⟩ := runOps_tr _ _ _ _ _ (show runOps T call fi.nt ops ops.toList env σ = some (e1, σ') from h1)
      exact ⟨tr, k1, k2, rfl⟩
    | cons q qs =>
      rw [hp] at h1
      have hq : ¬ q.1 = 1000000 := by rw [hp] at hF; intro e; simp [isF, e] at hF
      simp only [regOps, nif_eq, if_neg hq] at h1
      split at h1
      case h_2 => cases h1
      rename_i tr k1
      split at h1
      · rename_i k2; exact ⟨tr, k1, h1, k2⟩
      · cases h1
  obtain ⟨tr, k1, k2, k3⟩ := htr
  obtain ⟨s1, s2, s3⟩ := runTr_spec _ _ _ _ k1
  have hd : ∀ i, i ≤ ops.size → ∃ x, tr[i]? = some x := fun i hi => ⟨_, List.getElem?_eq_getElem (by simp [s1]; omega)⟩
  let E : Nat → Env := fun i => ((tr[i]?).getD (env, σ)).1
  let H : Nat → St := fun i => ((tr[i]?).getD (env, σ)).2
  have hEH : ∀ i e s, tr[i]? = some (e, s) → E i = e ∧ H i = s := fun i e s h => by simp [E, H, h]
  have h0 := hEH 0 _ _ s2
  have hlast : E ops.size = e1 ∧ H ops.size = σ' := by
    rw [lastOf_eq, s1] at k2
    exact hEH _ _ _ (by simpa using k2)
  have hW : Way T call fi.nt ops (pairsOf fi.dyn id) E H := by
    constructor
    · intro i o ho
      obtain ⟨e, s, e', s', q1, q2, q3⟩ := s3 i o (by simpa using ho)
      rw [(hEH _ _ _ q1).1, (hEH _ _ _ q1).2, (hEH _ _ _ q2).1, (hEH _ _ _ q2).2]
      exact q3
    · intro i j o hij ho hw
      have hp := pairsOk_spec k3 i j hij
      unfold pairOk at hp
      rw [ho] at hp
      split at hp
      case h_2 => cases hp
      rename_i o' e s e' s' q1 q2 q3
      cases q1
      rw [lstAt_eq] at q2 q3
      obtain ⟨r1, r2⟩ := hEH _ _ _ q2
      have hb : (bif Nat.blt j i then j else j + 1) = if j < i then j else j + 1 := by
        by_cases hji : j < i
        · have : Nat.blt j i = true := by unfold Nat.blt; rw [Nat.ble_eq]; exact hji
          rw [this, if_pos hji]; rfl
        · have : Nat.blt j i = false := by
            cases hx : Nat.blt j i with
            | false => rfl
            | true => exact (hji (Nat.le_of_ble_eq_true hx)).elim
          rw [this, if_neg hji]; rfl
      rw [hb] at q3
      obtain ⟨_, r4⟩ := hEH _ _ _ q3
      rw [← r1, hw] at hp
      simp only [] at hp
      rw [← r2, ← r4] at hp
      unfold sameVal at hp
      split at hp
      · rename_i v _ u _ z1 z2
        rw [eqv_sound _ _ hp] at z1
        exact ⟨_, _, _, z1, z2⟩
      · cases hp
  have hff : ∀ j, (Array.replicate ops.size false).getD j false = false := by
    intro j
    simp only [Array.getD_eq_getD_getElem?, Array.getElem?_replicate]
    split <;> rfl
  refine wp_region_any hm ?_
  refine draw_go (Z := Z) (φ := φ) (w0 := w) (a0 := a) hT hC hO hW hn ?_ ops.size _ a _ Z φ 0 ⟨by simp, ?_, Nat.zero_le _, ?_, ?_, ?_, ?_, rfl, rfl⟩ (by simp)
  · intro a1 w1 Z1 φ1 q1 q2 q3 q4 q5
    rw [hlast.1, hlast.2] at q1
    rw [hlast.2] at q4
    rw [hlast.2, h0.2] at q5
    exact RegQ.restrict _ _ _ _ _ ⟨rfl, Z1, φ1, q1, q2, q3, q4, q5⟩
  · intro j o hj hs
    rw [hff] at hs; cases hs
  · intro i o hi _
    rw [hff]; simp
  · rw [h0.2]; exact hI.drew
  · rw [h0.2]; exact Ext.drew
  · intro t m hm' hcut v hv
    rw [h0.2]
    have hnot : ∀ j o, ops[j]? = some o → 0 ≤ j → j < 0 + m → o.dst ≠ some t := by
      intro j o hj _ h2 hdj
      have := (hcut j o hj hdj).2 (by omega)
      rw [hff] at this; cases this
    have := hW.slot (p := 0) (t := t) m (by omega) hnot
    rw [Nat.zero_add] at this
    rw [this, h0.1] at hv
    exact hE t v hv

end Go.Abs
