/- The statement 'Rows.FnExtractedSaid': for all arguments the law returns true. No condition. -/
import Derived.Test.YtkglajdhlmmlfaaGreatRows
import Derived.Test.YtkglajdhlmmlfaaGreatJp
import Derived.WalkKit
import Derived.ProofKit
import Derived.OpenShut
import Derived.Test.YtkglajdhlmmlfaaGreatAbsZ
import Derived.Test.YtkglajdhlmmlfaaGreatPr
namespace Go.Proofs.YtkglajdhlmmlfaaGreat.fnExtracted
open Go.Abs Go.ChangeShapes Go.WideShapes Go.ChangeAt Go.RowKit
set_option linter.unusedVariables false
set_option linter.unusedSimpArgs false
theorem jf0 : (Rows.fnExtractedRow.wf (OpenSpec.ofChange Rows.fnExtractedSpec)) = true := by kernel_rfl
theorem jf3 : (Tryz.f3.params.all (Tryz.prog.readableRec ·)) = true := by kernel_rfl
theorem jf4 : (namedTie Tryz.prog Rows.fnExtractedRow.named Rows.fnExtractedSpec.vars) = true := by kernel_rfl
theorem jf5 : ((Rows.fnExtractedRow.stops == [])) = true := by kernel_rfl
theorem jf7 : ((Rows.fnExtractedRow.knobs == [])) = true := by kernel_rfl
theorem jf9 : ((Rows.fnExtractedRow.inPlace == Tryz.prog.inPlace 3)) = true := by kernel_rfl
theorem jf10 : ((Rows.fnExtractedRow.unfollowed == Tryz.prog.unfollowed 3)) = true := by kernel_rfl
theorem jf11 : ((Rows.fnExtractedRow.recurses == Tryz.prog.recurses 3)) = true := by kernel_rfl
theorem jf12 : ((Rows.fnExtractedRow.named == Tryz.prog.varsNamed 3)) = true := by kernel_rfl
theorem jf13 : ((Rows.fnExtractedRow.maps == (Tryz.f3.params.toList ++ Rows.fnExtractedSpec.plain.varTypes Tryz.prog).any (Tryz.prog.mapsRec ·))) = true := by kernel_rfl
theorem jf14 : ((Rows.fnExtractedRow.ifaces == (Tryz.f3.params.toList ++ Rows.fnExtractedSpec.plain.varTypes Tryz.prog).any (Tryz.prog.ifacesRec ·))) = true := by kernel_rfl
theorem jf15 : ((Rows.fnExtractedRow.mapsOut == Tryz.prog.mapsAmong Tryz.f3.resultTypes.toList)) = true := by kernel_rfl
theorem jf16 : ((Rows.fnExtractedRow.loops == (Tryz.f3.params.toList ++ Rows.fnExtractedSpec.plain.varTypes Tryz.prog).any (Tryz.prog.loopsFrom ·))) = true := by kernel_rfl
theorem jf17 : ((Rows.fnExtractedRow.wideKeys == (Tryz.f3.params.toList ++ Rows.fnExtractedSpec.plain.varTypes Tryz.prog ++ Tryz.f3.resultTypes.toList).any (Tryz.prog.wideKeysFrom ·))) = true := by kernel_rfl
theorem jf18 : (Rows.fnExtractedSpec.vars.all (Tryz.prog.varReadable ·)) = true := by kernel_rfl
theorem jf19 : (Tryz.f3.resultTypes.all (fun t => Tryz.prog.readableRec t && decide (t < Tryz.prog.types.size))) = true := by kernel_rfl
theorem jf20 : ((Rows.fnExtractedRow.ifacesOut == Tryz.f3.resultTypes.toList.any (Tryz.prog.ifacesRec ·))) = true := by kernel_rfl
theorem jf21 : ((Rows.fnExtractedRow.loopsOut == Tryz.f3.resultTypes.toList.any (Tryz.prog.loopsFrom ·))) = true := by kernel_rfl
theorem jf23 : (Rows.fnExtractedRow.shortTexts.isNone) = true := by kernel_rfl
theorem jf28 : ((Rows.fnExtractedRow.kinds == (if Rows.fnExtractedRow.domain.isEmpty then [] else Tryz.f3.params.toList.map fun t => match Tryz.prog.underlying t with | some (.int k) => some k | _ => none))) = true := by kernel_rfl
theorem jf29 : ((Rows.fnExtractedRow.pinned == Rows.fnExtractedRow.pinnedBy)) = true := by kernel_rfl
theorem jf30 : ((Rows.fnExtractedRow.veiled == (Tryz.f3.params.toList ++ Rows.fnExtractedSpec.plain.varTypes Tryz.prog ++ Tryz.f3.resultTypes.toList).any (Tryz.prog.veiledRec ·))) = true := by kernel_rfl
theorem jf31 : (Rows.fnExtractedRow.veiledFits Tryz.prog Tryz.f3.params.toList (Tryz.f3.params.toList ++ Rows.fnExtractedSpec.plain.varTypes Tryz.prog ++ Tryz.f3.resultTypes.toList)) = true := by kernel_rfl
set_option maxRecDepth 100000 in
theorem closed : joinedFacts Tryz.prog 3 Tryz.f3 Rows.fnExtractedSpec Rows.fnExtractedRow = true := Jp.andT (Jp.andT (Jp.andT (Jp.andT (Jp.andT (Jp.andT (Jp.andT (Jp.andT (Jp.andT (Jp.andT (Jp.andT (Jp.andT (Jp.andT (Jp.andT (Jp.andT (Jp.andT (Jp.andT (Jp.andT (Jp.andT (Jp.andT (Jp.andT (Jp.andT (Jp.andT (Jp.andT (Jp.andT (Jp.andT (Jp.andT (Jp.andT (Jp.andT (Jp.andT (Jp.andT (jf0) Jp.jf1) Jp.jf2) jf3) jf4) jf5) Jp.jf6) jf7) Jp.jf8) jf9) jf10) jf11) jf12) jf13) jf14) jf15) jf16) jf17) jf18) jf19) jf20) jf21) Jp.jf22) jf23) Jp.jf24) Jp.jf25) Jp.jf26) Jp.jf27) jf28) jf29) jf30) jf31
theorem fname : Tryz.pinned.checked.prog.funcNamed Rows.fnExtractedRow.func = some 3 := by kernel_rfl
theorem params_ok : ∀ t ∈ Tryz.f3.params.toList, Tryz.prog.readableRec t = true ∧ t < Tryz.prog.types.size := by
  intro t ht
  have : t = 22 := by rw [Tryz.params3] at ht; simpa using ht
  subst this
  exact ⟨by kernel_rfl, of_decide_eq_true (by kernel_rfl)⟩
theorem results_ok : Tryz.f3.resultTypes = #[4] := by kernel_rfl
theorem cells5 : Tryz.prog.cellsOf 5 = 1 := by kernel_rfl
set_option maxRecDepth 100000 in
theorem lifted (os : Os) (started : os.Started) (H : Type) (enc : TypeId × Value → H) :
    ReturnsInHanded {} Tryz.checked os 3 .any (Rows.fnExtractedSpec.pre6 enc Tryz.prog Tryz.f3 Rows.fnExtractedRow.domain false) (Rows.fnExtractedSpec.post enc Tryz.prog Tryz.f3 false true false false) := by
  refine returnsInHanded_of_change (C := Tryz.checked) Jp.own started (by kernel_rfl) Tryz.func3
    (ChangeSpec.witness6 (enc := enc) (C := Tryz.checked) false ⟨#[], #[.slice none 0 0, .slice none 0 0], []⟩ 8 (by kernel_rfl) (by kernel_rfl) (by kernel_rfl) (by kernel_rfl)) ?_
  intro W base args ds gs before hval0 hW hcnd _
  have hval : ∀ (j : Nat) t v, Tryz.f3.params[j]? = some t → args[j]? = some v → Value.okWide Tryz.prog W .any base t v := hval0
  have hW' := hW
  obtain ⟨p, q, hA0, hV, rfl, hfz, hnd⟩ := hW
  have hA : DataW.TrodAll enc Tryz.prog W 0 (fun _ => true) true Tryz.f3.params.toList args.toList ds p := hA0
  rw [Tryz.params3] at hA hval
  obtain ⟨v0, vs0, d0, ds0, p0, q0, hargs, rfl, rfl, h0, r0⟩ := trodAll_cons hA
  obtain ⟨v1, vs1, d1, ds1, p1, q1, rfl, rfl, rfl, h1, r1⟩ := trodAll_cons r0
  obtain ⟨rfl, rfl, rfl⟩ := trodAll_nil r1
  obtain rfl : args = #[v0, v1] := by cases args; simp_all
  obtain ⟨rfl, rfl⟩ := trodVars_none hV
  obtain ⟨l0, lb0, hl0⟩ := open_byts Tryz.underlying22 Tryz.underlying5 cells5 (hval 0 22 v0 rfl rfl) h0
  obtain ⟨l1, lb1, hl1⟩ := open_byts Tryz.underlying22 Tryz.underlying5 cells5 (hval 1 22 v1 rfl rfl) h1
  have hwalk : Calls Tryz.prog 3 #[v0, v1] W fun e w' => e = .returned (.bool true) ∧ Below W.heap.size W w' :=
    calls_V (φ := fun _ => ⟨0, 0, 0⟩) TT_ok (w3 l0 lb0 l1 lb1) rfl (args := [.lst l0.length (byts l0), .lst l1.length (byts l1)]) ⟨hl0 _, ⟨hl1 _, trivial⟩⟩ rfl ⟨Scs_byts 0 l0, ⟨Scs_byts 0 l1, trivial⟩⟩
  refine hwalk.mono fun e W' ⟨he, hg⟩ => ?_
  subst he
  exact ⟨_, rfl, post_law Jp.jf1 hW' rfl rfl params_ok results_ok Tryz.underlying4 hg⟩
theorem over : Rows.fnExtractedRow.holds Tryz.pinned (OpenSpec.ofChange Rows.fnExtractedSpec) :=
  OpenClaim.holds_of_wide 3 Tryz.f3 rfl rfl rfl rfl rfl rfl rfl ⟨rfl, rfl, rfl, rfl, rfl⟩ rfl rfl rfl rfl rfl fname Tryz.func3 closed
    (of_decide_eq_true (by kernel_rfl)) (by unfold Func.isWrapper; first | (rw [if_pos (by decide +kernel)]; kernel_rfl) | (rw [if_neg (by decide +kernel)]; exact ⟨rfl, rfl⟩))
    (fun os started H enc _ => lifted os started H enc)
theorem proved : Rows.FnExtractedSaid :=
  over
#print axioms proved
end Go.Proofs.YtkglajdhlmmlfaaGreat.fnExtracted
