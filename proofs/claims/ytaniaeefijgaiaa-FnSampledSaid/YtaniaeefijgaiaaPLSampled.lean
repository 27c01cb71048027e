/- The statement 'Rows.FnSampledSaid': for all arguments the law returns true. No condition. -/
import Derived.Test.YtaniaeefijgaiaaRows
import Derived.Test.YtaniaeefijgaiaaJp
import Derived.WalkKit
import Derived.ProofKit
import Derived.OpenShut
import Derived.Test.YtaniaeefijgaiaaAbsZ
import Derived.Test.YtaniaeefijgaiaaDo
namespace Go.Proofs.Ytaniaeefijgaiaa.fnSampled
open Go.Abs Go.ChangeShapes Go.WideShapes Go.ChangeAt Go.RowKit
set_option linter.unusedVariables false
set_option linter.unusedSimpArgs false
theorem jf0 : (Rows.fnSampledRow.wf (OpenSpec.ofChange Rows.fnSampledSpec)) = true := by kernel_rfl
theorem jf3 : (Try.f17.params.all (Try.prog.readableRec ·)) = true := by kernel_rfl
theorem jf4 : (namedTie Try.prog Rows.fnSampledRow.named Rows.fnSampledSpec.vars) = true := by kernel_rfl
theorem jf5 : ((Rows.fnSampledRow.stops == [])) = true := by kernel_rfl
theorem jf7 : ((Rows.fnSampledRow.knobs == [])) = true := by kernel_rfl
theorem jf9 : ((Rows.fnSampledRow.inPlace == Try.prog.inPlace 17)) = true := by kernel_rfl
theorem jf10 : ((Rows.fnSampledRow.unfollowed == Try.prog.unfollowed 17)) = true := by kernel_rfl
theorem jf11 : ((Rows.fnSampledRow.recurses == Try.prog.recurses 17)) = true := by kernel_rfl
theorem jf12 : ((Rows.fnSampledRow.named == Try.prog.varsNamed 17)) = true := by kernel_rfl
theorem jf13 : ((Rows.fnSampledRow.maps == (Try.f17.params.toList ++ Rows.fnSampledSpec.plain.varTypes Try.prog).any (Try.prog.mapsRec ·))) = true := by kernel_rfl
theorem jf14 : ((Rows.fnSampledRow.ifaces == (Try.f17.params.toList ++ Rows.fnSampledSpec.plain.varTypes Try.prog).any (Try.prog.ifacesRec ·))) = true := by kernel_rfl
theorem jf15 : ((Rows.fnSampledRow.mapsOut == Try.prog.mapsAmong Try.f17.resultTypes.toList)) = true := by kernel_rfl
theorem jf16 : ((Rows.fnSampledRow.loops == (Try.f17.params.toList ++ Rows.fnSampledSpec.plain.varTypes Try.prog).any (Try.prog.loopsFrom ·))) = true := by kernel_rfl
theorem jf17 : ((Rows.fnSampledRow.wideKeys == (Try.f17.params.toList ++ Rows.fnSampledSpec.plain.varTypes Try.prog ++ Try.f17.resultTypes.toList).any (Try.prog.wideKeysFrom ·))) = true := by kernel_rfl
theorem jf18 : (Rows.fnSampledSpec.vars.all (Try.prog.varReadable ·)) = true := by kernel_rfl
theorem jf19 : (Try.f17.resultTypes.all (fun t => Try.prog.readableRec t && decide (t < Try.prog.types.size))) = true := by kernel_rfl
theorem jf20 : ((Rows.fnSampledRow.ifacesOut == Try.f17.resultTypes.toList.any (Try.prog.ifacesRec ·))) = true := by kernel_rfl
theorem jf21 : ((Rows.fnSampledRow.loopsOut == Try.f17.resultTypes.toList.any (Try.prog.loopsFrom ·))) = true := by kernel_rfl
theorem jf23 : (Rows.fnSampledRow.shortTexts.isNone) = true := by kernel_rfl
theorem jf28 : ((Rows.fnSampledRow.kinds == (if Rows.fnSampledRow.domain.isEmpty then [] else Try.f17.params.toList.map fun t => match Try.prog.underlying t with | some (.int k) => some k | _ => none))) = true := by kernel_rfl
theorem jf29 : ((Rows.fnSampledRow.pinned == Rows.fnSampledRow.pinnedBy)) = true := by kernel_rfl
theorem jf30 : ((Rows.fnSampledRow.veiled == (Try.f17.params.toList ++ Rows.fnSampledSpec.plain.varTypes Try.prog ++ Try.f17.resultTypes.toList).any (Try.prog.veiledRec ·))) = true := by kernel_rfl
theorem jf31 : (Rows.fnSampledRow.veiledFits Try.prog Try.f17.params.toList (Try.f17.params.toList ++ Rows.fnSampledSpec.plain.varTypes Try.prog ++ Try.f17.resultTypes.toList)) = true := by kernel_rfl
set_option maxRecDepth 100000 in
theorem closed : joinedFacts Try.prog 17 Try.f17 Rows.fnSampledSpec Rows.fnSampledRow = true := Jp.andT (Jp.andT (Jp.andT (Jp.andT (Jp.andT (Jp.andT (Jp.andT (Jp.andT (Jp.andT (Jp.andT (Jp.andT (Jp.andT (Jp.andT (Jp.andT (Jp.andT (Jp.andT (Jp.andT (Jp.andT (Jp.andT (Jp.andT (Jp.andT (Jp.andT (Jp.andT (Jp.andT (Jp.andT (Jp.andT (Jp.andT (Jp.andT (Jp.andT (Jp.andT (Jp.andT (jf0) Jp.jf1) Jp.jf2) jf3) jf4) jf5) Jp.jf6) jf7) Jp.jf8) jf9) jf10) jf11) jf12) jf13) jf14) jf15) jf16) jf17) jf18) jf19) jf20) jf21) Jp.jf22) jf23) Jp.jf24) Jp.jf25) Jp.jf26) Jp.jf27) jf28) jf29) jf30) jf31
theorem fname : Try.pinned.checked.prog.funcNamed Rows.fnSampledRow.func = some 17 := by kernel_rfl
theorem params_ok : ∀ t ∈ Try.f17.params.toList, Try.prog.readableRec t = true ∧ t < Try.prog.types.size := by
  intro t ht
  have : t = 45 := by rw [Try.params17] at ht; simpa using ht
  subst this
  exact ⟨by kernel_rfl, of_decide_eq_true (by kernel_rfl)⟩
theorem results_ok : Try.f17.resultTypes = #[4] := by kernel_rfl
theorem cells5 : Try.prog.cellsOf 5 = 1 := by kernel_rfl
set_option maxRecDepth 100000 in
theorem lifted (os : Os) (started : os.Started) (H : Type) (enc : TypeId × Value → H) :
    ReturnsInHanded {} Try.checked os 17 .any (Rows.fnSampledSpec.pre6 enc Try.prog Try.f17 Rows.fnSampledRow.domain false) (Rows.fnSampledSpec.post enc Try.prog Try.f17 false true false false) := by
  refine returnsInHanded_of_change (C := Try.checked) Jp.own started (by kernel_rfl) Try.func17
    (ChangeSpec.witness6 (enc := enc) (C := Try.checked) false ⟨#[], #[.slice none 0 0, .slice none 0 0], []⟩ 8 (by kernel_rfl) (by kernel_rfl) (by kernel_rfl) (by kernel_rfl)) ?_
  intro W base args ds gs before hval0 hW hcnd _
  have hval : ∀ (j : Nat) t v, Try.f17.params[j]? = some t → args[j]? = some v → Value.okWide Try.prog W .any base t v := hval0
  have hW' := hW
  obtain ⟨p, q, hA0, hV, rfl, hfz, hnd⟩ := hW
  have hA : DataW.TrodAll enc Try.prog W 0 (fun _ => true) true Try.f17.params.toList args.toList ds p := hA0
  rw [Try.params17] at hA hval
  obtain ⟨v0, vs0, d0, ds0, p0, q0, hargs, rfl, rfl, h0, r0⟩ := trodAll_cons hA
  obtain ⟨v1, vs1, d1, ds1, p1, q1, rfl, rfl, rfl, h1, r1⟩ := trodAll_cons r0
  obtain ⟨rfl, rfl, rfl⟩ := trodAll_nil r1
  obtain rfl : args = #[v0, v1] := by cases args; simp_all
  obtain ⟨rfl, rfl⟩ := trodVars_none hV
  obtain ⟨l0, lb0, hl0⟩ := open_byts Try.underlying45 Try.underlying5 cells5 (hval 0 45 v0 rfl rfl) h0
  obtain ⟨l1, lb1, hl1⟩ := open_byts Try.underlying45 Try.underlying5 cells5 (hval 1 45 v1 rfl rfl) h1
  have hwalk : Calls Try.prog 17 #[v0, v1] W fun e w' => e = .returned (.bool true) ∧ Below W.heap.size W w' :=
    calls_V (φ := fun _ => ⟨0, 0, 0⟩) TT_ok (w17 l0 l1 lb0 lb1) rfl (args := [.lst l0.length (byts l0), .lst l1.length (byts l1)]) ⟨hl0 _, ⟨hl1 _, trivial⟩⟩ rfl ⟨Scs_byts 0 l0, ⟨Scs_byts 0 l1, trivial⟩⟩
  refine hwalk.mono fun e W' ⟨he, hg⟩ => ?_
  subst he
  exact ⟨_, rfl, post_law Jp.jf1 hW' rfl rfl params_ok results_ok Try.underlying4 hg⟩
theorem over : Rows.fnSampledRow.holds Try.pinned (OpenSpec.ofChange Rows.fnSampledSpec) :=
  OpenClaim.holds_of_wide 17 Try.f17 rfl rfl rfl rfl rfl rfl rfl ⟨rfl, rfl, rfl, rfl, rfl⟩ rfl rfl rfl rfl rfl fname Try.func17 closed
    (of_decide_eq_true (by kernel_rfl)) (by unfold Func.isWrapper; first | (rw [if_pos (by decide +kernel)]; kernel_rfl) | (rw [if_neg (by decide +kernel)]; exact ⟨rfl, rfl⟩))
    (fun os started H enc _ => lifted os started H enc)
theorem proved : Rows.FnSampledSaid :=
  over
#print axioms proved
end Go.Proofs.Ytaniaeefijgaiaa.fnSampled
