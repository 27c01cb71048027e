/- Each operation of the interpreter holds of the model's, fifth part. Nothing is claimed here; no condition. -/
import Derived.Test.YtjecbjnckbihoaaDoorAbsH
namespace Go.Abs
open Go

variable {P : Program} {T : Tab} {Z : Fz} {φ : Nat → Pl} {σ σ' : St} {w w' : World}

theorem foldl_set_splice : ∀ (vs : List Value) (k off : Nat) (cells : Array Value), off + k + vs.length ≤ cells.size →
    ((vs.zipIdx k).foldl (fun (cs : Array Value) (p : Value × Nat) => cs.setIfInBounds (off + p.2) p.1) cells).toList = splice cells.toList (off + k) vs
  | [], k, off, cells, _ => by simp [splice]
  | v :: vs, k, off, cells, h => by
    simp only [List.length_cons] at h
    simp only [List.zipIdx_cons, List.foldl_cons]
    rw [foldl_set_splice vs (k + 1) off _ (by simp; omega)]
    apply List.ext_getElem?
    intro j
    rw [splice_get (by simp; omega), splice_get (by simp; omega)]
    simp only [Array.toList_setIfInBounds, List.getElem?_set, List.length_cons]
    by_cases hj : off + k = j
    · subst hj
      rw [if_neg (by omega), if_pos rfl, if_pos (by simp; omega), if_pos (by omega)]
      simp
    · by_cases h2 : off + (k + 1) ≤ j ∧ j < off + (k + 1) + vs.length
      · rw [if_pos h2, if_pos (by omega), show j - (off + k) = (j - (off + (k + 1))) + 1 by omega]
        simp
      · rw [if_neg h2, if_neg hj, if_neg (by omega)]

theorem VRs_splice0 {xs new : List AV} {c : List Value} {off : Nat} {vs : List Value} (h : VRs Z φ xs c) (hn : VRs Z φ new vs) (hl : vs.length = new.length) (hle : off + new.length ≤ xs.length) (hc : xs.length ≤ c.length) :
    VRs Z φ (putCells xs off new) (splice c off vs) := by
  have := VRs_splice (base := 0) (c := c) (by simpa using h) hn hl hle (by omega)
  simpa using this

inductive PairsR (Z : Fz) (φ : Nat → Pl) (n : Nat) : List (Nat × AV) → List (Nat × Value) → Prop where
  | nil : PairsR Z φ n [] []
  | cons {i : Nat} {x : AV} {u : Value} {r : List (Nat × AV)} {s : List (Nat × Value)} (hv : VR Z φ x u) (hs : Sc n x) (h : PairsR Z φ n r s) : PairsR Z φ n ((i, x) :: r) ((i, u) :: s)

theorem fill_ok {n : Nat} {place : Nat → Option (Nat × Nat)} : ∀ (parts : List (Nat × AV)) (ps : List (Nat × Value)) (cells out : List AV) (us : Array Value),
    fillA place cells parts = some out → PairsR Z φ n parts ps → VRs Z φ cells us.toList → us.size = cells.length → Scs n cells →
    ∃ ws : Array Value, Instr.fill place us ps = some ws ∧ ws.size = out.length ∧ VRs Z φ out ws.toList ∧ Scs n out
  | [], _, cells, out, us, h, hp, hv, hl, hs => by
    cases hp
    simp only [fillA] at h
    cases h
    exact ⟨us, rfl, hl, hv, hs⟩
  | (i, x) :: r, _, cells, out, us, h, hp, hv, hl, hs => by
    cases hp with
    | cons hx hsx hr =>
      rename_i u s
      simp only [fillA] at h
      split at h
      · cases h
      rename_i off size hpl
      split at h
      case isFalse => cases h
      rename_i hc
      obtain ⟨c1, c2, c3⟩ := cells_rel hc.2.2 hx hsx
      have hlist := foldl_set_splice u.cells.toList 0 off us (by simp; omega)
      have hfold : u.cells.zipIdx.foldl (fun cs (c, j) => cs.setIfInBounds (off + j) c) us = (u.cells.toList.zipIdx 0).foldl (fun (cs : Array Value) (p : Value × Nat) => cs.setIfInBounds (off + p.2) p.1) us := by
        rw [← Array.foldl_toList]
        simp
      have hsp := VRs_splice0 (off := off) hv c2 (by simpa using c1) hc.2.1 (by simp [hl])
      have hsz : (u.cells.zipIdx.foldl (fun cs (c, j) => cs.setIfInBounds (off + j) c) us).toList = splice us.toList off u.cells.toList := by rw [hfold, hlist]; rfl
      obtain ⟨ws, h1, h2⟩ := fill_ok (place := place) r s _ out (u.cells.zipIdx.foldl (fun cs (c, j) => cs.setIfInBounds (off + j) c) us) h hr (by rw [hsz]; exact hsp)
        (by rw [← Array.length_toList, hsz, splice_length (by simp; omega), putCells_eq, splice_length hc.2.1]; simpa using hl) (Scs_splice hs c3)
      refine ⟨ws, ?_, h2⟩
      simp only [Instr.fill, hpl]
      rw [if_neg (by simp; omega)]
      exact h1

theorem sizes_ok (hT : TyT P T) : ∀ (gs : List Field) (ps : List (Nat × Nat)), sizesOf T (gs.map fun f => (f.type, f.offset)) = some ps →
    (gs.mapM fun f => Functor.map (Prod.mk f.offset) (sizeOf f.type) : Sem (List (Nat × Nat))).run P w = .ok ps w
  | [], ps, h => by simp [sizesOf] at h; subst h; simp
  | g :: gs, ps, h => by
    simp only [List.map_cons, sizesOf] at h
    split at h
    case h_2 => cases h
    rename_i i l hi hl
    cases h
    have := sizes_ok hT gs l hl
    simp [List.mapM_cons, (hT.ok hi).size, this]

theorem build_ok (hT : TyT P T) {t : TypeId} {parts : List (Nat × AV)} {ps : List (Nat × Value)} {v : AV} {n : Nat} (h : buildA T t parts = some v) (hp : PairsR Z φ n parts ps) :
    ∃ r, (Instr.build t ⟨ps⟩).run P w = .ok r w ∧ VR Z φ v r ∧ Sc n v := by
  unfold buildA at h
  split at h
  case h_2 => cases h
  rename_i i ht
  have ok := hT.ok ht
  obtain ⟨z, hz, hz1, hz2⟩ := ok.zero
  obtain ⟨zc1, zc2, _⟩ := ofConsts_spec (Z := Z) (φ := φ) _ _ hz2
  split at h
  · rename_i fs hk
    obtain ⟨gs, hu, rfl⟩ := hT.struct ht hk
    split at h
    case h_2 => cases h
    rename_i pl hpl
    split at h
    case h_2 => cases h
    rename_i cs hcs
    cases h
    have hm := sizes_ok (w := w) hT _ _ hpl
    obtain ⟨ws, h1, h2, h3, h4⟩ := fill_ok _ _ _ _ z.cells hcs hp zc1 (by rw [hz1, ok.zlen]) (Scs_mono (Nat.zero_le _) _ zc2)
    refine ⟨.agg ws, ?_, ⟨ws.toList, rfl, by simpa using h2, h3⟩, h4⟩
    have h1' : Instr.fill (fun x => pl[x]?) z.cells ps = some ws := h1
    simp [Instr.build, hz, run_underlying hu, Array.mapM_eq_mapM_toList, hm, h1']
  · rename_i len e hk
    have hu := hT.array ht hk
    split at h
    case h_2 => cases h
    rename_i y hy
    split at h
    case h_2 => cases h
    rename_i cs hcs
    cases h
    obtain ⟨ws, h1, h2, h3, h4⟩ := fill_ok _ _ _ _ z.cells hcs hp zc1 (by rw [hz1, ok.zlen]) (Scs_mono (Nat.zero_le _) _ zc2)
    refine ⟨.agg ws, ?_, ⟨ws.toList, rfl, by simpa using h2, h3⟩, h4⟩
    simp [Instr.build, hz, run_underlying hu, (hT.ok hy).size, h1]
  · cases h

/-! ### Rows of zeros -/
theorem repeatCells_length (z : List AV) : ∀ n, (repeatCells z n).length = n * z.length
  | 0 => by simp [repeatCells]
  | n + 1 => by simp [repeatCells, repeatCells_length z n, Nat.add_mul, Nat.add_comm]

def repeatV (z : List Value) : Nat → List Value
  | 0 => []
  | n + 1 => z ++ repeatV z n

theorem repeatV_length (z : List Value) : ∀ n, (repeatV z n).length = n * z.length
  | 0 => by simp [repeatV]
  | n + 1 => by simp [repeatV, repeatV_length z n, Nat.add_mul, Nat.add_comm]

theorem repeatV_get (z : List Value) : ∀ n i, i < n * z.length → (repeatV z n)[i]? = z[i % z.length]?
  | 0, i, h => by simp at h
  | n + 1, i, h => by
    simp only [repeatV, List.getElem?_append]
    by_cases hi : i < z.length
    · rw [if_pos hi, Nat.mod_eq_of_lt hi]
    · rw [if_neg hi, repeatV_get z n (i - z.length) (by rw [Nat.add_mul] at h; omega)]
      congr 1
      rw [Nat.mod_eq_sub_mod (a := i) (by omega)]

theorem range_repeat (z : Array Value) (n : Nat) : ((Array.range (n * z.size)).map fun i => z[i % z.size]!) = ⟨repeatV z.toList n⟩ := by
  apply Array.toList_inj.1
  apply List.ext_getElem?
  intro i
  by_cases hi : i < n * z.size
  · have hz : 0 < z.size := by
      rcases Nat.eq_zero_or_pos z.size with h | h
      · rw [h] at hi; simp at hi
      · exact h
    have hlt : i % z.size < z.size := Nat.mod_lt _ hz
    rw [repeatV_get _ _ _ (by simpa using hi)]
    simp [hi, hlt]
  · rw [List.getElem?_eq_none (by simp; omega), List.getElem?_eq_none (by rw [repeatV_length]; simp; omega)]

theorem rows_none (z : List Value) {k size : Nat} (h0 : k * size = 0) (hz : z.length = size) : ((Array.range (k * size)).map fun x => (#[] : Array Value)[x % (#[] : Array Value).size]!) = ⟨repeatV z k⟩ := by
  apply Array.toList_inj.1
  rw [h0]
  have : repeatV z k = [] := List.eq_nil_of_length_eq_zero (by rw [repeatV_length, hz, h0])
  simp [this]

theorem rows_some {z : Array Value} {k size : Nat} (hz : z.size = size) : ((Array.range (k * size)).map fun x => z[x % z.size]!) = ⟨repeatV z.toList k⟩ := by
  rw [← hz]; exact range_repeat z k

theorem repeat_rel {n : Nat} {z : List AV} {u : List Value} (hl : u.length = z.length) (hv : VRs Z φ z u) (hs : Scs n z) (h1 : allOne z = true) : ∀ k, VRs Z φ (repeatCells z k) (repeatV u k) ∧ Scs n (repeatCells z k) ∧ allOne (repeatCells z k) = true
  | 0 => ⟨trivial, trivial, rfl⟩
  | k + 1 => by
    obtain ⟨a, b, c⟩ := repeat_rel hl hv hs h1 k
    refine ⟨VRs_append hv hl a, Scs_append hs b, ?_⟩
    have : ∀ (x y : List AV), allOne x = true → allOne y = true → allOne (x ++ y) = true := by
      intro x
      induction x with
      | nil => intro y _ h; exact h
      | cons p r ih => intro y h h'; simp only [List.cons_append, allOne, Bool.and_eq_true] at *; exact ⟨h.1, ih y h.2 h'⟩
    exact this _ _ h1 c

theorem buildSlice_ok (hT : TyT P T) (hI : Inv Z φ σ w) {t : TypeId} {len : Nat} {parts : List (Nat × AV)} {ps : List (Nat × Value)} {v : AV} (h : buildSliceA T σ t len parts = some (v, σ')) (hp : PairsR Z φ σ.n parts ps) :
    ∃ φ' w' r, (Instr.buildSlice t len ⟨ps⟩).run P w = .ok r w' ∧ Good Z φ σ w v σ' Z φ' r w' := by
  unfold buildSliceA at h
  split at h
  case h_2 => cases h
  rename_i i ht
  split at h
  case h_2 => cases h
  rename_i e hk
  have hu := hT.slice ht hk
  split at h
  case h_2 => cases h
  rename_i z hz
  have ok := hT.ok hz
  obtain ⟨zv, hzv, hz1, hz2⟩ := ok.zero
  obtain ⟨zc1, zc2, zc3⟩ := ofConsts_spec (Z := Z) (φ := φ) _ _ hz2
  split at h
  case isFalse => cases h
  rename_i hlen
  split at h
  case h_2 => cases h
  rename_i cs hcs
  cases h
  have hzl : zv.cells.toList.length = z.zero.length := by simp [hz1, ok.zlen]
  obtain ⟨r1, r2, r3⟩ := repeat_rel (n := σ.n) hzl zc1 (Scs_mono (Nat.zero_le _) _ zc2) zc3 len
  obtain ⟨ws, h1, h2, h3, h4⟩ := fill_ok _ _ _ _ ⟨repeatV zv.cells.toList len⟩ hcs hp r1 (by simp [repeatV_length, repeatCells_length, hz1, ok.zlen]) r2
  obtain ⟨k1, k2⟩ := alloc_ok hI (x := ⟨cs, z.size, false⟩) (c := ws) (e := e) (fz := (0, 0)) (extra := 0) h3 (by simp; omega) (by intro j _; simp) (fun _ => rfl) h4 (fun h => absurd h (by show ¬ _ ≤ z.size; have := ok.small; omega))
  refine ⟨_, _, .slice (some ⟨w.heap.size, 0, none⟩) len len, ?_, ?_, ?_, k1, k2⟩
  · simp only [Instr.buildSlice, Sem.run_bind, run_underlying hu, Result.andThen_ok, ok.size]
    rw [if_neg (by omega)]
    split
    · rename_i h0
      rw [pure_bind, rows_none zv.cells.toList h0 (by simp [hz1])]
      simp only [h1]
      simp [newRow]
    · simp only [Sem.run_bind, hzv, Result.andThen_ok, Sem.run_pure]
      rw [rows_some hz1]
      simp only [h1]
      simp [newRow]
  · simp [VR, upd_same]
  · show σ.n < σ.n + 1; omega

theorem makeSlice_ok (hT : TyT P T) (hI : Inv Z φ σ w) {t : TypeId} {l c : AV} {ul uc : Value} {v : AV} (h : makeSliceA T σ t l c = some (v, σ')) (hl : VR Z φ l ul) (hc : VR Z φ c uc) :
    ∃ φ' w' r, (Instr.makeSlice t ul uc).run P w = .ok r w' ∧ Good Z φ σ w v σ' Z φ' r w' := by
  unfold makeSliceA at h
  split at h
  case h_2 => cases h
  rename_i i _ l _ c ht
  simp only [VR] at hl hc
  subst hl hc
  split at h
  case h_2 => cases h
  rename_i e hk
  have hu := hT.slice ht hk
  split at h
  case h_2 => cases h
  rename_i z hz
  have ok := hT.ok hz
  obtain ⟨zv, hzv, hz1, hz2⟩ := ok.zero
  obtain ⟨tinfo, hti, htb⟩ := ok.info
  obtain ⟨zc1, zc2, zc3⟩ := ofConsts_spec (Z := Z) (φ := φ) _ _ hz2
  split at h
  case isFalse => cases h
  rename_i hb
  cases h
  have hzl : zv.cells.toList.length = z.zero.length := by simp [hz1, ok.zlen]
  obtain ⟨r1, r2, r3⟩ := repeat_rel (n := σ.n) hzl zc1 (Scs_mono (Nat.zero_le _) _ zc2) zc3 c.toNat
  obtain ⟨k1, k2⟩ := alloc_ok hI (x := ⟨repeatCells z.zero c.toNat, z.size, false⟩) (c := ⟨repeatV zv.cells.toList c.toNat⟩) (e := e) (fz := (0, 0)) (extra := 0) r1
    (by simp [repeatV_length, repeatCells_length, hz1, ok.zlen]) (by intro j _; simp) (fun _ => rfl) r2 (fun h => absurd h (by show ¬ _ ≤ z.size; have := ok.small; omega))
  refine ⟨_, _, .slice (some ⟨w.heap.size, 0, none⟩) l.toNat c.toNat, ?_, ?_, ?_, k1, k2⟩
  · have hwl : IntKind.i64.wrap l = l := IntWalk.i64_in _ (by omega)
    have hwc : IntKind.i64.wrap c = c := IntWalk.i64_in _ (by omega)
    have hbig : ¬ ((z.bytes : Int) * c > 2 ^ 48) := by
      rw [Int.mul_comm]; omega
    have hc0 : ¬ (c < 0) := by omega
    have htl : (decide (c < 0) || decide ((z.bytes : Int) * c > 2 ^ 48)) = false := by simp [hc0]; omega
    simp only [Instr.makeSlice, Sem.run_bind, run_underlying hu, Result.andThen_ok, asInt, asIntOf, pure_bind, hti, htb, hwl, hwc]
    rw [if_neg (by simp only [Bool.or_eq_true, decide_eq_true_eq]; omega)]
    simp only [Sem.run_bind, run_askRoom, Result.andThen_ok, ok.size]
    split
    · rename_i h0
      rw [rows_none zv.cells.toList h0 (by simp [hz1])]
      simp [newRow]
    · simp only [Sem.run_bind, hzv, Result.andThen_ok]
      rw [rows_some hz1]
      simp [newRow]
  · simp [VR, upd_same]
  · show σ.n < σ.n + 1; omega

theorem copy_ok (hT : TyT P T) (hI : Inv Z φ σ w) {dt xt ty : TypeId} {d s v : AV} {ud us : Value} (h : copyA T σ dt d s = some (v, σ')) (hd : VR Z φ d ud) (hs : VR Z φ s us) (hss : Sc σ.n s) :
    ∃ w' r, (Builtin.copy_ #[dt, xt] ty #[ud, us]).run P w = .ok r w' ∧ Good Z φ σ w v σ' Z φ r w' := by
  unfold copyA at h
  split at h
  case h_2 => cases h
  rename_i i m ht hm
  split at h
  · rename_i e b off len cap hk
    have hu := hT.slice ht hk
    split at h
    case h_2 => cases h
    rename_i z hz
    have ok := hT.ok hz
    split at h
    case h_2 => cases h
    rename_i cs hcs
    split at h
    case h_2 => cases h
    rename_i σ₂ hst
    cases h
    simp only [VR] at hd
    subst hd
    obtain ⟨vs, hf, hvl, hvr, hvs⟩ := first_ok (P := P) hI hcs hs hss
    obtain ⟨w', hr, k1, k2, k3⟩ := storeCells_ok (P := P) hI hst hvr hvl hvs
    refine ⟨w', .int .i64 (Nat.min m len), ?_, rfl, trivial, k1, k2⟩
    have hlen := len_ok (P := P) (w := w) hm hs
    simp only [Builtin.copy_, List.getElem?_toArray, List.getElem?_cons_zero, List.getElem?_cons_succ, Sem.run_bind, run_underlying hu, Result.andThen_ok, hlen, ok.size, hf w rfl]
    rw [hr]
    rfl
  · rename_i e hk
    have hu := hT.slice ht hk
    simp only [VR] at hd
    subst hd
    split at h
    case h_2 => cases h
    rename_i z hz
    have ok := hT.ok hz
    split at h
    case h_2 => cases h
    rename_i cs hcs
    cases h
    obtain ⟨vs, hf, hvl, hvr, hvs⟩ := first_ok (P := P) hI hcs hs hss
    have hlen := len_ok (P := P) (w := w) hm hs
    refine ⟨w, .int .i64 0, ?_, Good.same hI rfl trivial⟩
    have hmin : Nat.min m 0 = 0 := Nat.min_zero m
    simp only [Builtin.copy_, List.getElem?_toArray, List.getElem?_cons_zero, List.getElem?_cons_succ, Sem.run_bind, run_underlying hu, Result.andThen_ok, hlen, ok.size, hmin, hf w rfl]
    rfl
  · cases h

theorem clear_ok (hT : TyT P T) (hI : Inv Z φ σ w) {t ty : TypeId} {x v : AV} {u : Value} (h : clearA T σ t x = some (v, σ')) (hx : VR Z φ x u) :
    ∃ w' r, (Builtin.clear_ #[t] ty #[u]).run P w = .ok r w' ∧ Good Z φ σ w v σ' Z φ r w' := by
  unfold clearA at h
  split at h
  case h_2 => cases h
  rename_i i ht
  split at h
  · rename_i e hk
    cases h
    have hu := hT.slice ht hk
    simp only [VR] at hx
    subst hx
    exact ⟨w, .tuple #[], by simp [Builtin.clear_, run_underlying hu], trivial, trivial, hI, Ext.refl _ _ _ _⟩
  · rename_i e b off len cap hk
    have hu := hT.slice ht hk
    simp only [VR] at hx
    subst hx
    split at h
    · rename_i h0
      cases h
      subst h0
      exact ⟨w, .tuple #[], by simp [Builtin.clear_, run_underlying hu], trivial, trivial, hI, Ext.refl _ _ _ _⟩
    rename_i h0
    split at h
    case h_2 => cases h
    rename_i z hz
    have ok := hT.ok hz
    obtain ⟨zv, hzv, hz1, hz2⟩ := ok.zero
    obtain ⟨zc1, zc2, zc3⟩ := ofConsts_spec (Z := Z) (φ := φ) _ _ hz2
    split at h
    case h_2 => cases h
    rename_i σ₂ hst
    cases h
    have hzl : zv.cells.toList.length = z.zero.length := by simp [hz1, ok.zlen]
    obtain ⟨r1, r2, r3⟩ := repeat_rel (n := σ.n) hzl zc1 (Scs_mono (Nat.zero_le _) _ zc2) zc3 len
    obtain ⟨w', hr, k1, k2, k3⟩ := storeCells_ok (P := P) hI hst r1 (by simp [repeatV_length, repeatCells_length, hz1, ok.zlen]) r2
    refine ⟨w', .tuple #[], ?_, trivial, trivial, k1, k2⟩
    have hzc : Builtin.zeroCells zv.cells len = ⟨repeatV zv.cells.toList len⟩ := range_repeat _ _
    obtain ⟨len', rfl⟩ : ∃ k, len = k + 1 := ⟨len - 1, by omega⟩
    simp [Builtin.clear_, run_underlying hu, hzv, hzc, hr]
  · cases h

end Go.Abs
