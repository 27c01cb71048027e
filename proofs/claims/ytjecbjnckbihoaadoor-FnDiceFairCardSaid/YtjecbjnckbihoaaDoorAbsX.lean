/- A row's step for a law that says true and leaves all arguments as they are, whatever their types. Nothing is claimed here; no condition. -/
import Derived.Test.YtjecbjnckbihoaaDoorAbsW
import Derived.Carry
import Derived.OpenShut
namespace Go.Abs
open Go Go.RowKit Go.ChangeShapes

variable {H : Type} {enc : TypeId × Value → H} {P : Program} {W W' : World}

theorem stays_all (hl : laidOutB P = true) {sp : Nat → Bool} : ∀ (ts : List TypeId) (vs : List Value) (ds : List (DataW H)) (ps : List MemPlace), (∀ t ∈ ts, P.readableRec t = true ∧ t < P.types.size) →
    DataW.TrodAll enc P W 0 (fun _ => true) true ts vs ds ps → (∀ p ∈ ps, W.sameAt W' p) → (∀ p ∈ ps, sp p.block = true) → DataW.TrodAll enc P W' 0 sp true ts vs ds ps
  | [], [], [], ps, _, h, _, _ => h
  | [], _ :: _, _, _, _, h, _, _ => by simp [DataW.TrodAll] at h
  | [], [], _ :: _, _, _, h, _, _ => by simp [DataW.TrodAll] at h
  | _ :: _, [], _, _, _, h, _, _ => by simp [DataW.TrodAll] at h
  | _ :: _, _ :: _, [], _, _, h, _, _ => by simp [DataW.TrodAll] at h
  | t :: ts, v :: vs, d :: ds, ps, ht, h, hs, hsp => by
    obtain ⟨p, q, h1, h2, rfl⟩ := h
    have hh := ht t (by simp)
    exact ⟨p, q, WideElems.Trod_stays hl hh.1 hh.2 h1 (fun x hx => hs x (by simp [hx])) (fun x hx => hsp x (by simp [hx])),
      stays_all hl ts vs ds q (fun u hu => ht u (by simp [hu])) h2 (fun x hx => hs x (by simp [hx])) (fun x hx => hsp x (by simp [hx])), rfl⟩

theorem post_law (hl : laidOutB P = true) {f : Func} {s : ChangeSpec} {apart fresh handsOn again : Bool} {args : Array Value} {ds gs : List (DataW H)} {before : List MemPlace}
    (hW : DataW.Whole enc P f.params.toList s.vars apart W args.toList ds gs before) (hv : s.vars = []) (hfn : s.fn H (ds ++ gs) = { results := [.lit (.bool true)], args := ds })
    (hts : ∀ t ∈ f.params.toList, P.readableRec t = true ∧ t < P.types.size) {tb : TypeId} (hr : f.resultTypes = #[tb]) (hub : P.underlying tb = some .bool) (hb : Below W.heap.size W W') :
    s.post enc P f apart fresh handsOn again W args (.bool true) W' := by
  have hold : ∀ p ∈ before, p.block < W.heap.size := fun p hp => hW.lt p hp
  obtain ⟨p, q, hA, hV, hpq, _, _⟩ := id hW
  rw [hv] at hV
  obtain ⟨rfl, rfl⟩ := trodVars_none hV
  rw [List.append_nil] at hpq
  subst hpq
  refine post_below (pa := before) (pv := []) hW ?_ ?_ ?_ (by simp) hb ?_
  · intro b sp hd
    rw [hfn, hr]
    exact trodAll_cons_mk (shut_bool hub true) trodAll_mk0
  · intro sp hsp
    rw [hfn]
    exact stays_all hl _ _ _ _ hts hA (fun x hx => hb.same (hold x hx)) hsp
  · intro sp hsp
    rw [hfn, hv]
    rfl
  · exact ok_one hr rfl (okWide_bool_mk hub true)

theorem trod_int_inv {base : Nat} {sp : Nat → Bool} {held : Bool} {t : TypeId} {k : IntKind} {fuel : Nat} {c : Value} {y : DataW H × List MemPlace} (ht : P.underlying t = some (.int k)) (h : DataW.trod enc P W base sp held fuel t [c] = some y) : ∃ n, c = .int k n := by
  cases fuel with
  | zero => simp [DataW.trod] at h
  | succ m =>
    unfold DataW.trod at h
    rw [ht] at h
    cases c <;> simp at h
    rename_i k' n
    exact ⟨n, by rw [h.1.1]⟩

theorem open_ints_struct {base : Nat} {sp : Nat → Bool} {held : Bool} {t : TypeId} {fs : Array Field} {fuel : Nat} {cs : List Value} {x : DataW H × List MemPlace} (ht : P.underlying t = some (.struct fs)) (hall : ∀ (i : Nat) (f : Field), fs[i]? = some f → f.offset = i ∧ P.underlying f.type = some (.int .i64) ∧ P.cellsOf f.type = 1)
    (hsz : P.cellsOf t = fs.size) (h : DataW.trod enc P W base sp held fuel t cs = some x) : cs.length = fs.size ∧ ∀ (i : Nat) (c : Value), cs[i]? = some c → ∃ n, c = .int .i64 n := by
  obtain ⟨xs, n, _, _, hl, hlen, hf⟩ := DataW.trod_struct ht h
  rw [hsz] at hl
  refine ⟨hl, fun i c hc => ?_⟩
  have hi : i < fs.size := by rw [← hl]; exact (List.getElem?_eq_some_iff.1 hc).1
  obtain ⟨h1, h2, h3⟩ := hall i fs[i] (by simp [hi])
  have h4 := hf i fs[i] (by simp [hi])
  rw [h1, h3] at h4
  have h5 : (cs.drop i).take 1 = [c] := by
    obtain ⟨hi', hc'⟩ := List.getElem?_eq_some_iff.1 hc
    rw [List.drop_eq_getElem_cons hi', hc']; rfl
  rw [h5, List.getElem?_eq_getElem (by rw [hlen]; exact hi)] at h4
  exact trod_int_inv h2 h4

end Go.Abs
