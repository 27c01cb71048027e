/- The statement 'Rows.FnCombinedStreamsCardSaid': for all arguments the law returns true, where the two tables read as the program's text lays them. No condition. -/
import Derived.Test.YthkdbkjkccogfaaDoorRows
import Derived.Test.YthkdbkjkccogfaaDoorCards
import Derived.Test.YthkdbkjkccogfaaDoorTie
import Derived.Test.YthkdbkjkccogfaaDoorJp
import Derived.WalkKit
import Derived.ProofKit
import Derived.OpenShut
import Derived.LaidMore
import Derived.Lay
import Derived.SevenTiedAt
import Derived.Stop.Joined
import Derived.Test.YthkdbkjkccogfaaDoorAbsT
import Derived.Test.YthkdbkjkccogfaaDoorJe
namespace Go.Proofs.YthkdbkjkccogfaaDoor.fnCombinedStreams
open Go.Abs Go.ChangeShapes Go.WideShapes Go.ChangeAt Go.RowKit
set_option linter.unusedVariables false
set_option linter.unusedSimpArgs false
theorem jf0 : (Rows.fnCombinedStreamsRow.wf (OpenSpec.ofChange Rows.fnCombinedStreamsSpec)) = true := by kernel_rfl
theorem jf3 : (Tryd.f9.params.all (Tryd.prog.readableRec ·)) = true := by kernel_rfl
theorem jf4 : (namedTie Tryd.prog Rows.fnCombinedStreamsRow.named Rows.fnCombinedStreamsSpec.vars) = true := by kernel_rfl
theorem jf5 : ((Rows.fnCombinedStreamsRow.stops == [])) = true := by kernel_rfl
theorem jf7 : ((Rows.fnCombinedStreamsRow.knobs == [])) = true := by kernel_rfl
theorem jf9 : ((Rows.fnCombinedStreamsRow.inPlace == Tryd.prog.inPlace 9)) = true := by kernel_rfl
theorem jf10 : ((Rows.fnCombinedStreamsRow.unfollowed == Tryd.prog.unfollowed 9)) = true := by kernel_rfl
theorem jf11 : ((Rows.fnCombinedStreamsRow.recurses == Tryd.prog.recurses 9)) = true := by kernel_rfl
theorem jf12 : ((Rows.fnCombinedStreamsRow.named == Tryd.prog.varsNamed 9)) = true := by kernel_rfl
theorem jf13 : ((Rows.fnCombinedStreamsRow.maps == (Tryd.f9.params.toList ++ Rows.fnCombinedStreamsSpec.plain.varTypes Tryd.prog).any (Tryd.prog.mapsRec ·))) = true := by kernel_rfl
theorem jf14 : ((Rows.fnCombinedStreamsRow.ifaces == (Tryd.f9.params.toList ++ Rows.fnCombinedStreamsSpec.plain.varTypes Tryd.prog).any (Tryd.prog.ifacesRec ·))) = true := by kernel_rfl
theorem jf15 : ((Rows.fnCombinedStreamsRow.mapsOut == Tryd.prog.mapsAmong Tryd.f9.resultTypes.toList)) = true := by kernel_rfl
theorem jf16 : ((Rows.fnCombinedStreamsRow.loops == (Tryd.f9.params.toList ++ Rows.fnCombinedStreamsSpec.plain.varTypes Tryd.prog).any (Tryd.prog.loopsFrom ·))) = true := by kernel_rfl
theorem jf17 : ((Rows.fnCombinedStreamsRow.wideKeys == (Tryd.f9.params.toList ++ Rows.fnCombinedStreamsSpec.plain.varTypes Tryd.prog ++ Tryd.f9.resultTypes.toList).any (Tryd.prog.wideKeysFrom ·))) = true := by kernel_rfl
theorem jf18 : (Rows.fnCombinedStreamsSpec.vars.all (Tryd.prog.varReadable ·)) = true := by kernel_rfl
theorem jf19 : (Tryd.f9.resultTypes.all (fun t => Tryd.prog.readableRec t && decide (t < Tryd.prog.types.size))) = true := by kernel_rfl
theorem jf20 : ((Rows.fnCombinedStreamsRow.ifacesOut == Tryd.f9.resultTypes.toList.any (Tryd.prog.ifacesRec ·))) = true := by kernel_rfl
theorem jf21 : ((Rows.fnCombinedStreamsRow.loopsOut == Tryd.f9.resultTypes.toList.any (Tryd.prog.loopsFrom ·))) = true := by kernel_rfl
theorem jf23 : (Rows.fnCombinedStreamsRow.shortTexts.isNone) = true := by kernel_rfl
theorem jf28 : ((Rows.fnCombinedStreamsRow.kinds == (if Rows.fnCombinedStreamsRow.domain.isEmpty then [] else Tryd.f9.params.toList.map fun t => match Tryd.prog.underlying t with | some (.int k) => some k | _ => none))) = true := by kernel_rfl
theorem jf29 : ((Rows.fnCombinedStreamsRow.pinned == Rows.fnCombinedStreamsRow.pinnedBy)) = true := by kernel_rfl
theorem jf30 : ((Rows.fnCombinedStreamsRow.veiled == (Tryd.f9.params.toList ++ Rows.fnCombinedStreamsSpec.plain.varTypes Tryd.prog ++ Tryd.f9.resultTypes.toList).any (Tryd.prog.veiledRec ·))) = true := by kernel_rfl
theorem jf31 : (Rows.fnCombinedStreamsRow.veiledFits Tryd.prog Tryd.f9.params.toList (Tryd.f9.params.toList ++ Rows.fnCombinedStreamsSpec.plain.varTypes Tryd.prog ++ Tryd.f9.resultTypes.toList)) = true := by kernel_rfl
set_option maxRecDepth 100000 in
theorem closed : joinedFacts Tryd.prog 9 Tryd.f9 Rows.fnCombinedStreamsSpec Rows.fnCombinedStreamsRow = true := Jp.andT (Jp.andT (Jp.andT (Jp.andT (Jp.andT (Jp.andT (Jp.andT (Jp.andT (Jp.andT (Jp.andT (Jp.andT (Jp.andT (Jp.andT (Jp.andT (Jp.andT (Jp.andT (Jp.andT (Jp.andT (Jp.andT (Jp.andT (Jp.andT (Jp.andT (Jp.andT (Jp.andT (Jp.andT (Jp.andT (Jp.andT (Jp.andT (Jp.andT (Jp.andT (Jp.andT (jf0) Jp.jf1) Jp.jf2) jf3) jf4) jf5) Jp.jf6) jf7) Jp.jf8) jf9) jf10) jf11) jf12) jf13) jf14) jf15) jf16) jf17) jf18) jf19) jf20) jf21) Jp.jf22) jf23) Jp.jf24) Jp.jf25) Jp.jf26) Jp.jf27) jf28) jf29) jf30) jf31
theorem fname : Tryd.pinned.checked.prog.funcNamed Rows.fnCombinedStreamsRow.func = some 9 := by kernel_rfl
theorem params_ok : ∀ t ∈ Tryd.f9.params.toList, Tryd.prog.readableRec t = true ∧ t < Tryd.prog.types.size := by
  intro t ht
  have : t = 32 := by rw [Tryd.params9] at ht; simpa using ht
  subst this
  exact ⟨by kernel_rfl, of_decide_eq_true (by kernel_rfl)⟩
theorem results_ok : Tryd.f9.resultTypes = #[4] := by kernel_rfl
theorem cells5 : Tryd.prog.cellsOf 5 = 1 := by kernel_rfl
set_option maxRecDepth 100000 in
theorem lifted (os : Os) (started : os.Started) (H : Type) (enc : TypeId × Value → H) :
    ReturnsInHanded {} Tryd.checked os 9 .any (fun w args => (Rows.fnCombinedStreamsSpec.pre enc Tryd.prog Tryd.f9 Rows.fnCombinedStreamsRow.domain false w args ∧ laidMetH Tryd.prog Rows.fnCombinedStreamsRow.laid w) ∧ sizedMet enc Tryd.prog Tryd.f9 (OpenSpec.ofChange Rows.fnCombinedStreamsSpec) false w args)
      (Rows.fnCombinedStreamsSpec.post enc Tryd.prog Tryd.f9 false true false false) := by
  refine returnsInHanded_of_change_and (C := Tryd.checked) (X := fun w _ => laidMetH Tryd.prog Rows.fnCombinedStreamsRow.laid w) (fun _ _ _ hh h => h.of_heap hh) Jp.own started (by kernel_rfl) Tryd.func9
    (ChangeSpec.witness_shaped (enc := enc) (C := Tryd.checked) (os := os) (X := fun w _ => laidMetH Tryd.prog Rows.fnCombinedStreamsRow.laid w) false (World.laidAll Tryd.prog os Rows.fnCombinedStreamsRow.laid) #[.slice none 0 0, .slice none 0 0] 8 (World.laidAll_os _ _ _)
      (World.shaped_of_ZipB (by kernel_rfl) (by kernel_rfl)) (by kernel_rfl) (by kernel_rfl) (by kernel_rfl)
      (by rw [MakeChecks.laidMetH_plain _ _ _ (by kernel_rfl)]; exact laidMet_laidAll _ (by kernel_rfl) (by kernel_rfl))) ?_
  intro W base args ds gs before hval0 hW hcnd _ hL _
  have hval : ∀ (j : Nat) t v, Tryd.f9.params[j]? = some t → args[j]? = some v → Value.okWide Tryd.prog W .any base t v := hval0
  have hW' := hW
  obtain ⟨p, q, hA0, hV, rfl, hfz, hnd⟩ := hW
  have hA : DataW.TrodAll enc Tryd.prog W 0 (fun _ => true) true Tryd.f9.params.toList args.toList ds p := hA0
  rw [Tryd.params9] at hA hval
  obtain ⟨v0, vs0, d0, ds0, p0, q0, hargs, rfl, rfl, h0, r0⟩ := trodAll_cons hA
  obtain ⟨v1, vs1, d1, ds1, p1, q1, rfl, rfl, rfl, h1, r1⟩ := trodAll_cons r0
  obtain ⟨rfl, rfl, rfl⟩ := trodAll_nil r1
  obtain rfl : args = #[v0, v1] := by cases args; simp_all
  obtain ⟨rfl, rfl⟩ := trodVars_none hV
  obtain ⟨l0, lb0, hl0⟩ := open_byts Tryd.underlying32 Tryd.underlying5 cells5 (hval 0 32 v0 rfl rfl) h0
  obtain ⟨l1, lb1, hl1⟩ := open_byts Tryd.underlying32 Tryd.underlying5 cells5 (hval 1 32 v1 rfl rfl) h1
  have hwalk : Calls Tryd.prog 9 #[v0, v1] W fun e w' => e = .returned (.bool true) ∧ Below W.heap.size W w' :=
    calls_V (φ := fun _ => ⟨0, 0, 0⟩) TX_ok (TXG.w9 l0 lb0 l1 lb1) rfl (args := [.lst l0.length (byts l0), .lst l1.length (byts l1)]) ⟨hl0 _, ⟨hl1 _, trivial⟩⟩ rfl ⟨Scs_byts 0 l0, ⟨Scs_byts 0 l1, trivial⟩⟩
  refine hwalk.mono fun e W' ⟨he, hg⟩ => ?_
  subst he
  exact ⟨_, rfl, post_law Jp.jf1 hW' rfl rfl params_ok results_ok Tryd.underlying4 hg⟩
theorem over : Rows.fnCombinedStreamsRow.holds Tryd.pinned (OpenSpec.ofChange Rows.fnCombinedStreamsSpec) :=
  OpenClaim.holds_of_wide 9 Tryd.f9 rfl rfl rfl rfl rfl rfl rfl ⟨rfl, rfl, rfl, rfl, rfl⟩ rfl rfl rfl rfl rfl fname Tryd.func9 closed
    (of_decide_eq_true (by kernel_rfl)) (by unfold Func.isWrapper; first | (rw [if_pos (by decide +kernel)]; kernel_rfl) | (rw [if_neg (by decide +kernel)]; exact ⟨rfl, rfl⟩))
    (fun os started H enc _ => lifted os started H enc)
theorem proved : Rows.FnCombinedStreamsCardSaid :=
  Claim7.holds_tied_plain_at .later [] [.data, .pinned] true (true, "e357d815c7fe4da50be4ce61d6e656e3e97f38d58aebf0dfd1127778262e4b71") false over (fun _ h => by cases h) (by kernel_rfl) (fun _ h => by cases h) fnCombinedStreams_row_tie rfl ⟨rfl, rfl⟩ (by kernel_rfl) rfl
    (fun f fn hf hfn => by
      obtain rfl : f = 9 := Option.some.inj ((show Tryd.prog.funcNamed Rows.fnCombinedStreamsRow.func = some 9 by kernel_rfl).symm.trans hf) |>.symm
      obtain rfl : fn = Tryd.f9 := (Option.some.inj (Tryd.func9.symm.trans hfn)).symm
      exact ⟨by kernel_rfl, fun j t ht => by
        rw [Tryd.params9] at ht
        have hm : t ∈ [32, 32] := by simpa using Array.mem_of_getElem? ht
        have hall : (([32, 32] : List TypeId).all fun u => !Tryd.prog.wantsStandIn u) = true := by kernel_rfl
        exact (show Tryd.prog.wantsStandIn t = false by simpa using List.all_eq_true.1 hall t hm)⟩)
    (by kernel_rfl)
#print axioms proved
end Go.Proofs.YthkdbkjkccogfaaDoor.fnCombinedStreams
