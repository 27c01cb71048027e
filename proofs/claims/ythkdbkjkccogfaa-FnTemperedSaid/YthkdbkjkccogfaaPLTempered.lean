/- The statement 'Rows.FnTemperedSaid': for all arguments the law returns true. No condition. -/
import Derived.Test.YthkdbkjkccogfaaRows
import Derived.Test.YthkdbkjkccogfaaJp
import Derived.WalkKit
import Derived.ProofKit
import Derived.OpenShut
import Derived.Test.YthkdbkjkccogfaaAbsZ
import Derived.Test.YthkdbkjkccogfaaXk
import Derived.Test.YthkdbkjkccogfaaGf
namespace Go.Proofs.Ythkdbkjkccogfaa.fnTempered
open Go.Abs Go.ChangeShapes Go.WideShapes Go.ChangeAt Go.RowKit
set_option linter.unusedVariables false
set_option linter.unusedSimpArgs false
theorem jf0 : (Rows.fnTemperedRow.wf (OpenSpec.ofChange Rows.fnTemperedSpec)) = true := by kernel_rfl
theorem jf3 : (Try.f4.params.all (Try.prog.readableRec ·)) = true := by kernel_rfl
theorem jf4 : (namedTie Try.prog Rows.fnTemperedRow.named Rows.fnTemperedSpec.vars) = true := by kernel_rfl
theorem jf5 : ((Rows.fnTemperedRow.stops == [])) = true := by kernel_rfl
theorem jf7 : ((Rows.fnTemperedRow.knobs == [])) = true := by kernel_rfl
theorem jf9 : ((Rows.fnTemperedRow.inPlace == Try.prog.inPlace 4)) = true := by kernel_rfl
theorem jf10 : ((Rows.fnTemperedRow.unfollowed == Try.prog.unfollowed 4)) = true := by kernel_rfl
theorem jf11 : ((Rows.fnTemperedRow.recurses == Try.prog.recurses 4)) = true := by kernel_rfl
theorem jf12 : ((Rows.fnTemperedRow.named == Try.prog.varsNamed 4)) = true := by kernel_rfl
theorem jf13 : ((Rows.fnTemperedRow.maps == (Try.f4.params.toList ++ Rows.fnTemperedSpec.plain.varTypes Try.prog).any (Try.prog.mapsRec ·))) = true := by kernel_rfl
theorem jf14 : ((Rows.fnTemperedRow.ifaces == (Try.f4.params.toList ++ Rows.fnTemperedSpec.plain.varTypes Try.prog).any (Try.prog.ifacesRec ·))) = true := by kernel_rfl
theorem jf15 : ((Rows.fnTemperedRow.mapsOut == Try.prog.mapsAmong Try.f4.resultTypes.toList)) = true := by kernel_rfl
theorem jf16 : ((Rows.fnTemperedRow.loops == (Try.f4.params.toList ++ Rows.fnTemperedSpec.plain.varTypes Try.prog).any (Try.prog.loopsFrom ·))) = true := by kernel_rfl
theorem jf17 : ((Rows.fnTemperedRow.wideKeys == (Try.f4.params.toList ++ Rows.fnTemperedSpec.plain.varTypes Try.prog ++ Try.f4.resultTypes.toList).any (Try.prog.wideKeysFrom ·))) = true := by kernel_rfl
theorem jf18 : (Rows.fnTemperedSpec.vars.all (Try.prog.varReadable ·)) = true := by kernel_rfl
theorem jf19 : (Try.f4.resultTypes.all (fun t => Try.prog.readableRec t && decide (t < Try.prog.types.size))) = true := by kernel_rfl
theorem jf20 : ((Rows.fnTemperedRow.ifacesOut == Try.f4.resultTypes.toList.any (Try.prog.ifacesRec ·))) = true := by kernel_rfl
theorem jf21 : ((Rows.fnTemperedRow.loopsOut == Try.f4.resultTypes.toList.any (Try.prog.loopsFrom ·))) = true := by kernel_rfl
theorem jf23 : (Rows.fnTemperedRow.shortTexts.isNone) = true := by kernel_rfl
theorem jf28 : ((Rows.fnTemperedRow.kinds == (if Rows.fnTemperedRow.domain.isEmpty then [] else Try.f4.params.toList.map fun t => match Try.prog.underlying t with | some (.int k) => some k | _ => none))) = true := by kernel_rfl
theorem jf29 : ((Rows.fnTemperedRow.pinned == Rows.fnTemperedRow.pinnedBy)) = true := by kernel_rfl
theorem jf30 : ((Rows.fnTemperedRow.veiled == (Try.f4.params.toList ++ Rows.fnTemperedSpec.plain.varTypes Try.prog ++ Try.f4.resultTypes.toList).any (Try.prog.veiledRec ·))) = true := by kernel_rfl
theorem jf31 : (Rows.fnTemperedRow.veiledFits Try.prog Try.f4.params.toList (Try.f4.params.toList ++ Rows.fnTemperedSpec.plain.varTypes Try.prog ++ Try.f4.resultTypes.toList)) = true := by kernel_rfl
set_option maxRecDepth 100000 in
theorem closed : joinedFacts Try.prog 4 Try.f4 Rows.fnTemperedSpec Rows.fnTemperedRow = true := Jp.andT (Jp.andT (Jp.andT (Jp.andT (Jp.andT (Jp.andT (Jp.andT (Jp.andT (Jp.andT (Jp.andT (Jp.andT (Jp.andT (Jp.andT (Jp.andT (Jp.andT (Jp.andT (Jp.andT (Jp.andT (Jp.andT (Jp.andT (Jp.andT (Jp.andT (Jp.andT (Jp.andT (Jp.andT (Jp.andT (Jp.andT (Jp.andT (Jp.andT (Jp.andT (Jp.andT (jf0) Jp.jf1) Jp.jf2) jf3) jf4) jf5) Jp.jf6) jf7) Jp.jf8) jf9) jf10) jf11) jf12) jf13) jf14) jf15) jf16) jf17) jf18) jf19) jf20) jf21) Jp.jf22) jf23) Jp.jf24) Jp.jf25) Jp.jf26) Jp.jf27) jf28) jf29) jf30) jf31
theorem fname : Try.pinned.checked.prog.funcNamed Rows.fnTemperedRow.func = some 4 := by kernel_rfl
theorem params_ok : ∀ t ∈ Try.f4.params.toList, Try.prog.readableRec t = true ∧ t < Try.prog.types.size := by
  intro t ht
  have : t = 29 := by rw [Try.params4] at ht; simpa using ht
  subst this
  exact ⟨by kernel_rfl, of_decide_eq_true (by kernel_rfl)⟩
theorem results_ok : Try.f4.resultTypes = #[4] := by kernel_rfl
theorem cells5 : Try.prog.cellsOf 5 = 1 := by kernel_rfl
set_option maxRecDepth 100000 in
theorem lifted (os : Os) (started : os.Started) (H : Type) (enc : TypeId × Value → H) :
    ReturnsInHanded {} Try.checked os 4 .any (Rows.fnTemperedSpec.pre6 enc Try.prog Try.f4 Rows.fnTemperedRow.domain false) (Rows.fnTemperedSpec.post enc Try.prog Try.f4 false true false false) := by
  refine returnsInHanded_of_change (C := Try.checked) Jp.own started (by kernel_rfl) Try.func4
    (ChangeSpec.witness6 (enc := enc) (C := Try.checked) false ⟨#[], #[.slice none 0 0, .slice none 0 0], []⟩ 8 (by kernel_rfl) (by kernel_rfl) (by kernel_rfl) (by kernel_rfl)) ?_
  intro W base args ds gs before hval0 hW hcnd _
  have hval : ∀ (j : Nat) t v, Try.f4.params[j]? = some t → args[j]? = some v → Value.okWide Try.prog W .any base t v := hval0
  have hW' := hW
  obtain ⟨p, q, hA0, hV, rfl, hfz, hnd⟩ := hW
  have hA : DataW.TrodAll enc Try.prog W 0 (fun _ => true) true Try.f4.params.toList args.toList ds p := hA0
  rw [Try.params4] at hA hval
  obtain ⟨v0, vs0, d0, ds0, p0, q0, hargs, rfl, rfl, h0, r0⟩ := trodAll_cons hA
  obtain ⟨v1, vs1, d1, ds1, p1, q1, rfl, rfl, rfl, h1, r1⟩ := trodAll_cons r0
  obtain ⟨rfl, rfl, rfl⟩ := trodAll_nil r1
  obtain rfl : args = #[v0, v1] := by cases args; simp_all
  obtain ⟨rfl, rfl⟩ := trodVars_none hV
  obtain ⟨l0, lb0, hl0⟩ := open_byts Try.underlying29 Try.underlying5 cells5 (hval 0 29 v0 rfl rfl) h0
  obtain ⟨l1, lb1, hl1⟩ := open_byts Try.underlying29 Try.underlying5 cells5 (hval 1 29 v1 rfl rfl) h1
  have hwalk : Calls Try.prog 4 #[v0, v1] W fun e w' => e = .returned (.bool true) ∧ Below W.heap.size W w' :=
    calls_V (φ := fun _ => ⟨0, 0, 0⟩) TX_ok (TXG.w4 l0 lb0 l1 lb1) rfl (args := [.lst l0.length (byts l0), .lst l1.length (byts l1)]) ⟨hl0 _, ⟨hl1 _, trivial⟩⟩ rfl ⟨Scs_byts 0 l0, ⟨Scs_byts 0 l1, trivial⟩⟩
  refine hwalk.mono fun e W' ⟨he, hg⟩ => ?_
  subst he
  exact ⟨_, rfl, post_law Jp.jf1 hW' rfl rfl params_ok results_ok Try.underlying4 hg⟩
theorem over : Rows.fnTemperedRow.holds Try.pinned (OpenSpec.ofChange Rows.fnTemperedSpec) :=
  OpenClaim.holds_of_wide 4 Try.f4 rfl rfl rfl rfl rfl rfl rfl ⟨rfl, rfl, rfl, rfl, rfl⟩ rfl rfl rfl rfl rfl fname Try.func4 closed
    (of_decide_eq_true (by kernel_rfl)) (by unfold Func.isWrapper; first | (rw [if_pos (by decide +kernel)]; kernel_rfl) | (rw [if_neg (by decide +kernel)]; exact ⟨rfl, rfl⟩))
    (fun os started H enc _ => lifted os started H enc)
theorem proved : Rows.FnTemperedSaid :=
  over
#print axioms proved
end Go.Proofs.Ythkdbkjkccogfaa.fnTempered
