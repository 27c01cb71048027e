/- The statement 'Rows.FnDiceFairCardSaid': for all arguments the law returns true, where the two tables read as the program's text lays them. No condition. -/
import Derived.Test.YtjecbjnckbihoaaDoorRows
import Derived.Test.YtjecbjnckbihoaaDoorCards
import Derived.Test.YtjecbjnckbihoaaDoorTie
import Derived.Test.YtjecbjnckbihoaaDoorJp
import Derived.WalkKit
import Derived.ProofKit
import Derived.OpenShut
import Derived.LaidMore
import Derived.Lay
import Derived.SevenTiedAt
import Derived.Stop.Joined
import Derived.Test.YtjecbjnckbihoaaDoorAbsT
import Derived.Test.YtjecbjnckbihoaaDoorDf
namespace Go.Proofs.YtjecbjnckbihoaaDoor.fnDiceFair
open Go.Abs Go.ChangeShapes Go.WideShapes Go.ChangeAt Go.RowKit
set_option linter.unusedVariables false
set_option linter.unusedSimpArgs false
theorem jf0 : (Rows.fnDiceFairRow.wf (OpenSpec.ofChange Rows.fnDiceFairSpec)) = true := by kernel_rfl
theorem jf3 : (Tryd.f3.params.all (Tryd.prog.readableRec ·)) = true := by kernel_rfl
theorem jf4 : (namedTie Tryd.prog Rows.fnDiceFairRow.named Rows.fnDiceFairSpec.vars) = true := by kernel_rfl
theorem jf5 : ((Rows.fnDiceFairRow.stops == [])) = true := by kernel_rfl
theorem jf7 : ((Rows.fnDiceFairRow.knobs == [])) = true := by kernel_rfl
theorem jf9 : ((Rows.fnDiceFairRow.inPlace == Tryd.prog.inPlace 3)) = true := by kernel_rfl
theorem jf10 : ((Rows.fnDiceFairRow.unfollowed == Tryd.prog.unfollowed 3)) = true := by kernel_rfl
theorem jf11 : ((Rows.fnDiceFairRow.recurses == Tryd.prog.recurses 3)) = true := by kernel_rfl
theorem jf12 : ((Rows.fnDiceFairRow.named == Tryd.prog.varsNamed 3)) = true := by kernel_rfl
theorem jf13 : ((Rows.fnDiceFairRow.maps == (Tryd.f3.params.toList ++ Rows.fnDiceFairSpec.plain.varTypes Tryd.prog).any (Tryd.prog.mapsRec ·))) = true := by kernel_rfl
theorem jf14 : ((Rows.fnDiceFairRow.ifaces == (Tryd.f3.params.toList ++ Rows.fnDiceFairSpec.plain.varTypes Tryd.prog).any (Tryd.prog.ifacesRec ·))) = true := by kernel_rfl
theorem jf15 : ((Rows.fnDiceFairRow.mapsOut == Tryd.prog.mapsAmong Tryd.f3.resultTypes.toList)) = true := by kernel_rfl
theorem jf16 : ((Rows.fnDiceFairRow.loops == (Tryd.f3.params.toList ++ Rows.fnDiceFairSpec.plain.varTypes Tryd.prog).any (Tryd.prog.loopsFrom ·))) = true := by kernel_rfl
theorem jf17 : ((Rows.fnDiceFairRow.wideKeys == (Tryd.f3.params.toList ++ Rows.fnDiceFairSpec.plain.varTypes Tryd.prog ++ Tryd.f3.resultTypes.toList).any (Tryd.prog.wideKeysFrom ·))) = true := by kernel_rfl
theorem jf18 : (Rows.fnDiceFairSpec.vars.all (Tryd.prog.varReadable ·)) = true := by kernel_rfl
theorem jf19 : (Tryd.f3.resultTypes.all (fun t => Tryd.prog.readableRec t && decide (t < Tryd.prog.types.size))) = true := by kernel_rfl
theorem jf20 : ((Rows.fnDiceFairRow.ifacesOut == Tryd.f3.resultTypes.toList.any (Tryd.prog.ifacesRec ·))) = true := by kernel_rfl
theorem jf21 : ((Rows.fnDiceFairRow.loopsOut == Tryd.f3.resultTypes.toList.any (Tryd.prog.loopsFrom ·))) = true := by kernel_rfl
theorem jf23 : (Rows.fnDiceFairRow.shortTexts.isNone) = true := by kernel_rfl
theorem jf28 : ((Rows.fnDiceFairRow.kinds == (if Rows.fnDiceFairRow.domain.isEmpty then [] else Tryd.f3.params.toList.map fun t => match Tryd.prog.underlying t with | some (.int k) => some k | _ => none))) = true := by kernel_rfl
theorem jf29 : ((Rows.fnDiceFairRow.pinned == Rows.fnDiceFairRow.pinnedBy)) = true := by kernel_rfl
theorem jf30 : ((Rows.fnDiceFairRow.veiled == (Tryd.f3.params.toList ++ Rows.fnDiceFairSpec.plain.varTypes Tryd.prog ++ Tryd.f3.resultTypes.toList).any (Tryd.prog.veiledRec ·))) = true := by kernel_rfl
theorem jf31 : (Rows.fnDiceFairRow.veiledFits Tryd.prog Tryd.f3.params.toList (Tryd.f3.params.toList ++ Rows.fnDiceFairSpec.plain.varTypes Tryd.prog ++ Tryd.f3.resultTypes.toList)) = true := by kernel_rfl
set_option maxRecDepth 100000 in
theorem closed : joinedFacts Tryd.prog 3 Tryd.f3 Rows.fnDiceFairSpec Rows.fnDiceFairRow = true := Jp.andT (Jp.andT (Jp.andT (Jp.andT (Jp.andT (Jp.andT (Jp.andT (Jp.andT (Jp.andT (Jp.andT (Jp.andT (Jp.andT (Jp.andT (Jp.andT (Jp.andT (Jp.andT (Jp.andT (Jp.andT (Jp.andT (Jp.andT (Jp.andT (Jp.andT (Jp.andT (Jp.andT (Jp.andT (Jp.andT (Jp.andT (Jp.andT (Jp.andT (Jp.andT (Jp.andT (jf0) Jp.jf1) Jp.jf2) jf3) jf4) jf5) Jp.jf6) jf7) Jp.jf8) jf9) jf10) jf11) jf12) jf13) jf14) jf15) jf16) jf17) jf18) jf19) jf20) jf21) Jp.jf22) jf23) Jp.jf24) Jp.jf25) Jp.jf26) Jp.jf27) jf28) jf29) jf30) jf31
theorem fname : Tryd.pinned.checked.prog.funcNamed Rows.fnDiceFairRow.func = some 3 := by kernel_rfl
theorem params_ok : ∀ t ∈ Tryd.f3.params.toList, Tryd.prog.readableRec t = true ∧ t < Tryd.prog.types.size := by
  intro t ht
  have : t = 22 := by rw [Tryd.params3] at ht; simpa using ht
  subst this
  exact ⟨by kernel_rfl, of_decide_eq_true (by kernel_rfl)⟩
theorem results_ok : Tryd.f3.resultTypes = #[4] := by kernel_rfl
theorem cells5 : Tryd.prog.cellsOf 5 = 1 := by kernel_rfl
set_option maxRecDepth 100000 in
theorem lifted (os : Os) (started : os.Started) (H : Type) (enc : TypeId × Value → H) :
    ReturnsInHanded {} Tryd.checked os 3 .any (fun w args => (Rows.fnDiceFairSpec.pre enc Tryd.prog Tryd.f3 Rows.fnDiceFairRow.domain false w args ∧ laidMetH Tryd.prog Rows.fnDiceFairRow.laid w) ∧ sizedMet enc Tryd.prog Tryd.f3 (OpenSpec.ofChange Rows.fnDiceFairSpec) false w args)
      (Rows.fnDiceFairSpec.post enc Tryd.prog Tryd.f3 false true false false) := by
  refine returnsInHanded_of_change_and (C := Tryd.checked) (X := fun w _ => laidMetH Tryd.prog Rows.fnDiceFairRow.laid w) (fun _ _ _ hh h => h.of_heap hh) Jp.own started (by kernel_rfl) Tryd.func3
    (ChangeSpec.witness_shaped (enc := enc) (C := Tryd.checked) (os := os) (X := fun w _ => laidMetH Tryd.prog Rows.fnDiceFairRow.laid w) false (World.laidAll Tryd.prog os Rows.fnDiceFairRow.laid) #[.slice none 0 0, .slice none 0 0] 8 (World.laidAll_os _ _ _)
      (World.shaped_of_ZipB (by kernel_rfl) (by kernel_rfl)) (by kernel_rfl) (by kernel_rfl) (by kernel_rfl)
      (by rw [MakeChecks.laidMetH_plain _ _ _ (by kernel_rfl)]; exact laidMet_laidAll _ (by kernel_rfl) (by kernel_rfl))) ?_
  intro W base args ds gs before hval0 hW hcnd _ hL _
  have hval : ∀ (j : Nat) t v, Tryd.f3.params[j]? = some t → args[j]? = some v → Value.okWide Tryd.prog W .any base t v := hval0
  have hW' := hW
  obtain ⟨p, q, hA0, hV, rfl, hfz, hnd⟩ := hW
  have hA : DataW.TrodAll enc Tryd.prog W 0 (fun _ => true) true Tryd.f3.params.toList args.toList ds p := hA0
  rw [Tryd.params3] at hA hval
  obtain ⟨v0, vs0, d0, ds0, p0, q0, hargs, rfl, rfl, h0, r0⟩ := trodAll_cons hA
  obtain ⟨v1, vs1, d1, ds1, p1, q1, rfl, rfl, rfl, h1, r1⟩ := trodAll_cons r0
  obtain ⟨rfl, rfl, rfl⟩ := trodAll_nil r1
  obtain rfl : args = #[v0, v1] := by cases args; simp_all
  obtain ⟨rfl, rfl⟩ := trodVars_none hV
  obtain ⟨l0, lb0, hl0⟩ := open_byts Tryd.underlying22 Tryd.underlying5 cells5 (hval 0 22 v0 rfl rfl) h0
  obtain ⟨l1, lb1, hl1⟩ := open_byts Tryd.underlying22 Tryd.underlying5 cells5 (hval 1 22 v1 rfl rfl) h1
  have hwalk : Calls Tryd.prog 3 #[v0, v1] W fun e w' => e = .returned (.bool true) ∧ Below W.heap.size W w' :=
    calls_V (φ := fun _ => ⟨0, 0, 0⟩) TT_ok (w3 l0 lb0 l1 lb1) rfl (args := [.lst l0.length (byts l0), .lst l1.length (byts l1)]) ⟨hl0 _, ⟨hl1 _, trivial⟩⟩ rfl ⟨Scs_byts 0 l0, ⟨Scs_byts 0 l1, trivial⟩⟩
  refine hwalk.mono fun e W' ⟨he, hg⟩ => ?_
  subst he
  exact ⟨_, rfl, post_law Jp.jf1 hW' rfl rfl params_ok results_ok Tryd.underlying4 hg⟩
theorem over : Rows.fnDiceFairRow.holds Tryd.pinned (OpenSpec.ofChange Rows.fnDiceFairSpec) :=
  OpenClaim.holds_of_wide 3 Tryd.f3 rfl rfl rfl rfl rfl rfl rfl ⟨rfl, rfl, rfl, rfl, rfl⟩ rfl rfl rfl rfl rfl fname Tryd.func3 closed
    (of_decide_eq_true (by kernel_rfl)) (by unfold Func.isWrapper; first | (rw [if_pos (by decide +kernel)]; kernel_rfl) | (rw [if_neg (by decide +kernel)]; exact ⟨rfl, rfl⟩))
    (fun os started H enc _ => lifted os started H enc)
theorem proved : Rows.FnDiceFairCardSaid :=
  Claim7.holds_tied_plain_at .later [] [.data, .pinned] true (true, "8191d94337fc0785e43a2b65437e5a45d1263f670674e0bc13dcc9cefca7a274") false over (fun _ h => by cases h) (by kernel_rfl) (fun _ h => by cases h) fnDiceFair_row_tie rfl ⟨rfl, rfl⟩ (by kernel_rfl) rfl
    (fun f fn hf hfn => by
      obtain rfl : f = 3 := Option.some.inj ((show Tryd.prog.funcNamed Rows.fnDiceFairRow.func = some 3 by kernel_rfl).symm.trans hf) |>.symm
      obtain rfl : fn = Tryd.f3 := (Option.some.inj (Tryd.func3.symm.trans hfn)).symm
      exact ⟨by kernel_rfl, fun j t ht => by
        rw [Tryd.params3] at ht
        have hm : t ∈ [22, 22] := by simpa using Array.mem_of_getElem? ht
        have hall : (([22, 22] : List TypeId).all fun u => !Tryd.prog.wantsStandIn u) = true := by kernel_rfl
        exact (show Tryd.prog.wantsStandIn t = false by simpa using List.all_eq_true.1 hall t hm)⟩)
    (by kernel_rfl)
#print axioms proved
end Go.Proofs.YtjecbjnckbihoaaDoor.fnDiceFair
