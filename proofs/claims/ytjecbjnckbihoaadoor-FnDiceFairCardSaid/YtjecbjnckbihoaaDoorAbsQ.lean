/- From the interpreter's outcome to a row's step. Nothing is claimed here; no condition. -/
import Derived.Test.YtjecbjnckbihoaaDoorAbsP
import Derived.ChangeSame
import Derived.Below
namespace Go.Abs
open Go Go.RowKit Go.ChangeShapes

variable {P : Program} {T : Tab} {Z Zc : Fz} {φ : Nat → Pl} {σ σ' : St} {w w' : World}

theorem calls_true (hT : TabOK P T) {n : Nat} {f : FuncId} {args : List AV} (hx : callA T (exec T n) f args ⟨[], 0⟩ = some (.bool true, σ')) {us : Array Value} {W : World} (hZ : ∀ B o, Z B = some o → W.heap[B]? = some o)
    (hv : VRs Z φ args us.toList) (hsz : us.size = args.length) (hs : Scs 0 args) : Calls P f us W fun e w' => e = .returned (.bool true) ∧ Below W.heap.size W w' := by
  refine Calls.mono ((exec_ok hT n).2 f args ⟨[], 0⟩ _ _ hx Z φ W us (Inv.empty φ hZ) hv hsz hs).2 ?_
  rintro e w' ⟨Z', φ', u, rfl, hg⟩
  obtain ⟨h1, _, _, h4⟩ := hg
  simp only [VR] at h1
  subst h1
  refine ⟨rfl, h4.os, h4.tape, h4.output, h4.sz, fun k hk => h4.fr k hk ?_⟩
  rintro ⟨b, x, hb, _⟩
  simp [St.get, hget] at hb

/-- The row's step, where old memory is as it was. -/
theorem post_below {H : Type} {enc : TypeId × Value → H} {f : Func} {s : ChangeSpec} {apart fresh handsOn again : Bool} {W W' : World} {args : Array Value} {v : Value} {ds gs : List (DataW H)} {before pa pv : List MemPlace}
    (hW : DataW.Whole enc P f.params.toList s.vars apart W args.toList ds gs before)
    (hres : ∀ (b : Nat) (sp : Nat → Bool) (hd : Bool), DataW.TrodAll enc P W' b sp hd f.resultTypes.toList (v.resultList f.resultTypes.size) (s.fn H (ds ++ gs)).results [])
    (hargs : ∀ sp : Nat → Bool, (∀ p ∈ before, sp p.block = true) → DataW.TrodAll enc P W' 0 sp true f.params.toList args.toList (s.fn H (ds ++ gs)).args pa)
    (hvars : ∀ sp : Nat → Bool, (∀ p ∈ before, sp p.block = true) → DataW.TrodVars enc P W' sp s.vars (s.fn H (ds ++ gs)).vars pv)
    (hps : before = pa ++ pv) (hb : Below W.heap.size W W')
    (hok : ∀ (j : Nat) (t : TypeId) (r : Value), f.resultTypes[j]? = some t → (v.resultList f.resultTypes.size)[j]? = some r → Value.okWide P W' .any 0 t r) :
    s.post enc P f apart fresh handsOn again W args v W' := by
  have old : ∀ p ∈ before, p.block < W.heap.size := fun p hp => hW.lt p hp
  have sp0 : ∀ p ∈ before, (fun b => decide (b < W.heap.size)) p.block = true := fun p hp => by simpa using old p hp
  have all : ∀ p ∈ before, (fun _ : Nat => true) p.block = true := fun _ _ => rfl
  obtain ⟨p0, q0, z1, z2, z3, hz, hn⟩ := id hW
  refine ⟨ds, gs, before, [], pa, pv, hW, hres _ _ _, hargs _ sp0, hvars _ sp0, World.keptBut_mono (fun p hp => ⟨hp, .inr (by rwa [hps, List.mem_append] at hp)⟩) (hb.frame _), fun _ => ?_⟩
  refine ⟨hok, _, _, pa ++ pv, ⟨pa, pv, trodAll_append (hargs _ all) (hres _ _ _), hvars _ all, rfl, fun b off hp => ?_, fun ha => ?_⟩, fun p hp _ => ?_⟩
  · rw [← hps] at hp
    rw [hb.frozen (p := ⟨b, off, none⟩) (by exact old _ hp)]
    exact hz b off hp
  · have := hn ha
    rwa [hps] at this
  · rw [hps]; exact hp

end Go.Abs
