/- The statement 'Rows.FnTreeRollsCardSaid': for all arguments the law returns true, where the two tables read as the program's text lays them. No condition. -/
import Derived.Test.YthkdbkjkccogfaaDoorRows
import Derived.Test.YthkdbkjkccogfaaDoorCards
import Derived.Test.YthkdbkjkccogfaaDoorTie
import Derived.Test.YthkdbkjkccogfaaDoorJp
import Derived.WalkKit
import Derived.ProofKit
import Derived.OpenShut
import Derived.LaidMore
import Derived.Lay
import Derived.SevenTiedAt
import Derived.Stop.Joined
import Derived.Test.YthkdbkjkccogfaaDoorAbsT
import Derived.Test.YthkdbkjkccogfaaDoorKe
import Derived.Test.YthkdbkjkccogfaaDoorGf
namespace Go.Proofs.YthkdbkjkccogfaaDoor.fnTreeRolls
open Go.Abs Go.ChangeShapes Go.WideShapes Go.ChangeAt Go.RowKit
set_option linter.unusedVariables false
set_option linter.unusedSimpArgs false
theorem jf0 : (Rows.fnTreeRollsRow.wf (OpenSpec.ofChange Rows.fnTreeRollsSpec)) = true := by kernel_rfl
theorem jf3 : (Tryd.f11.params.all (Tryd.prog.readableRec ·)) = true := by kernel_rfl
theorem jf4 : (namedTie Tryd.prog Rows.fnTreeRollsRow.named Rows.fnTreeRollsSpec.vars) = true := by kernel_rfl
theorem jf5 : ((Rows.fnTreeRollsRow.stops == [])) = true := by kernel_rfl
theorem jf7 : ((Rows.fnTreeRollsRow.knobs == [])) = true := by kernel_rfl
theorem jf9 : ((Rows.fnTreeRollsRow.inPlace == Tryd.prog.inPlace 11)) = true := by kernel_rfl
theorem jf10 : ((Rows.fnTreeRollsRow.unfollowed == Tryd.prog.unfollowed 11)) = true := by kernel_rfl
theorem jf11 : ((Rows.fnTreeRollsRow.recurses == Tryd.prog.recurses 11)) = true := by kernel_rfl
theorem jf12 : ((Rows.fnTreeRollsRow.named == Tryd.prog.varsNamed 11)) = true := by kernel_rfl
theorem jf13 : ((Rows.fnTreeRollsRow.maps == (Tryd.f11.params.toList ++ Rows.fnTreeRollsSpec.plain.varTypes Tryd.prog).any (Tryd.prog.mapsRec ·))) = true := by kernel_rfl
theorem jf14 : ((Rows.fnTreeRollsRow.ifaces == (Tryd.f11.params.toList ++ Rows.fnTreeRollsSpec.plain.varTypes Tryd.prog).any (Tryd.prog.ifacesRec ·))) = true := by kernel_rfl
theorem jf15 : ((Rows.fnTreeRollsRow.mapsOut == Tryd.prog.mapsAmong Tryd.f11.resultTypes.toList)) = true := by kernel_rfl
theorem jf16 : ((Rows.fnTreeRollsRow.loops == (Tryd.f11.params.toList ++ Rows.fnTreeRollsSpec.plain.varTypes Tryd.prog).any (Tryd.prog.loopsFrom ·))) = true := by kernel_rfl
theorem jf17 : ((Rows.fnTreeRollsRow.wideKeys == (Tryd.f11.params.toList ++ Rows.fnTreeRollsSpec.plain.varTypes Tryd.prog ++ Tryd.f11.resultTypes.toList).any (Tryd.prog.wideKeysFrom ·))) = true := by kernel_rfl
theorem jf18 : (Rows.fnTreeRollsSpec.vars.all (Tryd.prog.varReadable ·)) = true := by kernel_rfl
theorem jf19 : (Tryd.f11.resultTypes.all (fun t => Tryd.prog.readableRec t && decide (t < Tryd.prog.types.size))) = true := by kernel_rfl
theorem jf20 : ((Rows.fnTreeRollsRow.ifacesOut == Tryd.f11.resultTypes.toList.any (Tryd.prog.ifacesRec ·))) = true := by kernel_rfl
theorem jf21 : ((Rows.fnTreeRollsRow.loopsOut == Tryd.f11.resultTypes.toList.any (Tryd.prog.loopsFrom ·))) = true := by kernel_rfl
theorem jf23 : (Rows.fnTreeRollsRow.shortTexts.isNone) = true := by kernel_rfl
theorem jf28 : ((Rows.fnTreeRollsRow.kinds == (if Rows.fnTreeRollsRow.domain.isEmpty then [] else Tryd.f11.params.toList.map fun t => match Tryd.prog.underlying t with | some (.int k) => some k | _ => none))) = true := by kernel_rfl
theorem jf29 : ((Rows.fnTreeRollsRow.pinned == Rows.fnTreeRollsRow.pinnedBy)) = true := by kernel_rfl
theorem jf30 : ((Rows.fnTreeRollsRow.veiled == (Tryd.f11.params.toList ++ Rows.fnTreeRollsSpec.plain.varTypes Tryd.prog ++ Tryd.f11.resultTypes.toList).any (Tryd.prog.veiledRec ·))) = true := by kernel_rfl
theorem jf31 : (Rows.fnTreeRollsRow.veiledFits Tryd.prog Tryd.f11.params.toList (Tryd.f11.params.toList ++ Rows.fnTreeRollsSpec.plain.varTypes Tryd.prog ++ Tryd.f11.resultTypes.toList)) = true := by kernel_rfl
set_option maxRecDepth 100000 in
theorem closed : joinedFacts Tryd.prog 11 Tryd.f11 Rows.fnTreeRollsSpec Rows.fnTreeRollsRow = true := Jp.andT (Jp.andT (Jp.andT (Jp.andT (Jp.andT (Jp.andT (Jp.andT (Jp.andT (Jp.andT (Jp.andT (Jp.andT (Jp.andT (Jp.andT (Jp.andT (Jp.andT (Jp.andT (Jp.andT (Jp.andT (Jp.andT (Jp.andT (Jp.andT (Jp.andT (Jp.andT (Jp.andT (Jp.andT (Jp.andT (Jp.andT (Jp.andT (Jp.andT (Jp.andT (Jp.andT (jf0) Jp.jf1) Jp.jf2) jf3) jf4) jf5) Jp.jf6) jf7) Jp.jf8) jf9) jf10) jf11) jf12) jf13) jf14) jf15) jf16) jf17) jf18) jf19) jf20) jf21) Jp.jf22) jf23) Jp.jf24) Jp.jf25) Jp.jf26) Jp.jf27) jf28) jf29) jf30) jf31
theorem fname : Tryd.pinned.checked.prog.funcNamed Rows.fnTreeRollsRow.func = some 11 := by kernel_rfl
theorem params_ok : ∀ t ∈ Tryd.f11.params.toList, Tryd.prog.readableRec t = true ∧ t < Tryd.prog.types.size := by
  intro t ht
  have : t = 32 := by rw [Tryd.params11] at ht; simpa using ht
  subst this
  exact ⟨by kernel_rfl, of_decide_eq_true (by kernel_rfl)⟩
theorem results_ok : Tryd.f11.resultTypes = #[4] := by kernel_rfl
theorem cells5 : Tryd.prog.cellsOf 5 = 1 := by kernel_rfl
set_option maxRecDepth 100000 in
theorem lifted (os : Os) (started : os.Started) (H : Type) (enc : TypeId × Value → H) :
    ReturnsInHanded {} Tryd.checked os 11 .any (fun w args => (Rows.fnTreeRollsSpec.pre enc Tryd.prog Tryd.f11 Rows.fnTreeRollsRow.domain false w args ∧ laidMetH Tryd.prog Rows.fnTreeRollsRow.laid w) ∧ sizedMet enc Tryd.prog Tryd.f11 (OpenSpec.ofChange Rows.fnTreeRollsSpec) false w args)
      (Rows.fnTreeRollsSpec.post enc Tryd.prog Tryd.f11 false true false false) := by
  refine returnsInHanded_of_change_and (C := Tryd.checked) (X := fun w _ => laidMetH Tryd.prog Rows.fnTreeRollsRow.laid w) (fun _ _ _ hh h => h.of_heap hh) Jp.own started (by kernel_rfl) Tryd.func11
    (ChangeSpec.witness_shaped (enc := enc) (C := Tryd.checked) (os := os) (X := fun w _ => laidMetH Tryd.prog Rows.fnTreeRollsRow.laid w) false (World.laidAll Tryd.prog os Rows.fnTreeRollsRow.laid) #[.slice none 0 0, .slice none 0 0] 8 (World.laidAll_os _ _ _)
      (World.shaped_of_ZipB (by kernel_rfl) (by kernel_rfl)) (by kernel_rfl) (by kernel_rfl) (by kernel_rfl)
      (by rw [MakeChecks.laidMetH_plain _ _ _ (by kernel_rfl)]; exact laidMet_laidAll _ (by kernel_rfl) (by kernel_rfl))) ?_
  intro W base args ds gs before hval0 hW hcnd _ hL _
  have hval : ∀ (j : Nat) t v, Tryd.f11.params[j]? = some t → args[j]? = some v → Value.okWide Tryd.prog W .any base t v := hval0
  have hW' := hW
  obtain ⟨p, q, hA0, hV, rfl, hfz, hnd⟩ := hW
  have hA : DataW.TrodAll enc Tryd.prog W 0 (fun _ => true) true Tryd.f11.params.toList args.toList ds p := hA0
  rw [Tryd.params11] at hA hval
  obtain ⟨v0, vs0, d0, ds0, p0, q0, hargs, rfl, rfl, h0, r0⟩ := trodAll_cons hA
  obtain ⟨v1, vs1, d1, ds1, p1, q1, rfl, rfl, rfl, h1, r1⟩ := trodAll_cons r0
  obtain ⟨rfl, rfl, rfl⟩ := trodAll_nil r1
  obtain rfl : args = #[v0, v1] := by cases args; simp_all
  obtain ⟨rfl, rfl⟩ := trodVars_none hV
  obtain ⟨l0, lb0, hl0⟩ := open_byts Tryd.underlying32 Tryd.underlying5 cells5 (hval 0 32 v0 rfl rfl) h0
  obtain ⟨l1, lb1, hl1⟩ := open_byts Tryd.underlying32 Tryd.underlying5 cells5 (hval 1 32 v1 rfl rfl) h1
  have hwalk : Calls Tryd.prog 11 #[v0, v1] W fun e w' => e = .returned (.bool true) ∧ Below W.heap.size W w' :=
    calls_V (φ := fun _ => ⟨0, 0, 0⟩) TT_ok (w11 l0 lb0 l1 lb1) rfl (args := [.lst l0.length (byts l0), .lst l1.length (byts l1)]) ⟨hl0 _, ⟨hl1 _, trivial⟩⟩ rfl ⟨Scs_byts 0 l0, ⟨Scs_byts 0 l1, trivial⟩⟩
  refine hwalk.mono fun e W' ⟨he, hg⟩ => ?_
  subst he
  exact ⟨_, rfl, post_law Jp.jf1 hW' rfl rfl params_ok results_ok Tryd.underlying4 hg⟩
theorem over : Rows.fnTreeRollsRow.holds Tryd.pinned (OpenSpec.ofChange Rows.fnTreeRollsSpec) :=
  OpenClaim.holds_of_wide 11 Tryd.f11 rfl rfl rfl rfl rfl rfl rfl ⟨rfl, rfl, rfl, rfl, rfl⟩ rfl rfl rfl rfl rfl fname Tryd.func11 closed
    (of_decide_eq_true (by kernel_rfl)) (by unfold Func.isWrapper; first | (rw [if_pos (by decide +kernel)]; kernel_rfl) | (rw [if_neg (by decide +kernel)]; exact ⟨rfl, rfl⟩))
    (fun os started H enc _ => lifted os started H enc)
theorem proved : Rows.FnTreeRollsCardSaid :=
  Claim7.holds_tied_plain_at .later [] [.data, .pinned] true (true, "e357d815c7fe4da50be4ce61d6e656e3e97f38d58aebf0dfd1127778262e4b71") false over (fun _ h => by cases h) (by kernel_rfl) (fun _ h => by cases h) fnTreeRolls_row_tie rfl ⟨rfl, rfl⟩ (by kernel_rfl) rfl
    (fun f fn hf hfn => by
      obtain rfl : f = 11 := Option.some.inj ((show Tryd.prog.funcNamed Rows.fnTreeRollsRow.func = some 11 by kernel_rfl).symm.trans hf) |>.symm
      obtain rfl : fn = Tryd.f11 := (Option.some.inj (Tryd.func11.symm.trans hfn)).symm
      exact ⟨by kernel_rfl, fun j t ht => by
        rw [Tryd.params11] at ht
        have hm : t ∈ [32, 32] := by simpa using Array.mem_of_getElem? ht
        have hall : (([32, 32] : List TypeId).all fun u => !Tryd.prog.wantsStandIn u) = true := by kernel_rfl
        exact (show Tryd.prog.wantsStandIn t = false by simpa using List.all_eq_true.1 hall t hm)⟩)
    (by kernel_rfl)
#print axioms proved
end Go.Proofs.YthkdbkjkccogfaaDoor.fnTreeRolls
