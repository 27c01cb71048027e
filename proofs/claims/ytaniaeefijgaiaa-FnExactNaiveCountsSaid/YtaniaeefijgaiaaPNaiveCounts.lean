/- The statement 'Rows.FnExactNaiveCountsSaid': for all arguments the law returns true. No condition. -/
import Derived.Test.YtaniaeefijgaiaaRows
import Derived.Test.YtaniaeefijgaiaaJp
import Derived.WalkKit
import Derived.ProofKit
import Derived.OpenShut
import Derived.Test.YtaniaeefijgaiaaAbsZ
import Derived.Test.YtaniaeefijgaiaaDk
namespace Go.Proofs.Ytaniaeefijgaiaa.fnExactNaiveCounts
open Go.Abs Go.ChangeShapes Go.WideShapes Go.ChangeAt Go.RowKit
set_option linter.unusedVariables false
set_option linter.unusedSimpArgs false
theorem jf0 : (Rows.fnExactNaiveCountsRow.wf (OpenSpec.ofChange Rows.fnExactNaiveCountsSpec)) = true := by kernel_rfl
theorem jf3 : (Try.f8.params.all (Try.prog.readableRec ·)) = true := by kernel_rfl
theorem jf4 : (namedTie Try.prog Rows.fnExactNaiveCountsRow.named Rows.fnExactNaiveCountsSpec.vars) = true := by kernel_rfl
theorem jf5 : ((Rows.fnExactNaiveCountsRow.stops == [])) = true := by kernel_rfl
theorem jf7 : ((Rows.fnExactNaiveCountsRow.knobs == [])) = true := by kernel_rfl
theorem jf9 : ((Rows.fnExactNaiveCountsRow.inPlace == Try.prog.inPlace 8)) = true := by kernel_rfl
theorem jf10 : ((Rows.fnExactNaiveCountsRow.unfollowed == Try.prog.unfollowed 8)) = true := by kernel_rfl
theorem jf11 : ((Rows.fnExactNaiveCountsRow.recurses == Try.prog.recurses 8)) = true := by kernel_rfl
theorem jf12 : ((Rows.fnExactNaiveCountsRow.named == Try.prog.varsNamed 8)) = true := by kernel_rfl
theorem jf13 : ((Rows.fnExactNaiveCountsRow.maps == (Try.f8.params.toList ++ Rows.fnExactNaiveCountsSpec.plain.varTypes Try.prog).any (Try.prog.mapsRec ·))) = true := by kernel_rfl
theorem jf14 : ((Rows.fnExactNaiveCountsRow.ifaces == (Try.f8.params.toList ++ Rows.fnExactNaiveCountsSpec.plain.varTypes Try.prog).any (Try.prog.ifacesRec ·))) = true := by kernel_rfl
theorem jf15 : ((Rows.fnExactNaiveCountsRow.mapsOut == Try.prog.mapsAmong Try.f8.resultTypes.toList)) = true := by kernel_rfl
theorem jf16 : ((Rows.fnExactNaiveCountsRow.loops == (Try.f8.params.toList ++ Rows.fnExactNaiveCountsSpec.plain.varTypes Try.prog).any (Try.prog.loopsFrom ·))) = true := by kernel_rfl
theorem jf17 : ((Rows.fnExactNaiveCountsRow.wideKeys == (Try.f8.params.toList ++ Rows.fnExactNaiveCountsSpec.plain.varTypes Try.prog ++ Try.f8.resultTypes.toList).any (Try.prog.wideKeysFrom ·))) = true := by kernel_rfl
theorem jf18 : (Rows.fnExactNaiveCountsSpec.vars.all (Try.prog.varReadable ·)) = true := by kernel_rfl
theorem jf19 : (Try.f8.resultTypes.all (fun t => Try.prog.readableRec t && decide (t < Try.prog.types.size))) = true := by kernel_rfl
theorem jf20 : ((Rows.fnExactNaiveCountsRow.ifacesOut == Try.f8.resultTypes.toList.any (Try.prog.ifacesRec ·))) = true := by kernel_rfl
theorem jf21 : ((Rows.fnExactNaiveCountsRow.loopsOut == Try.f8.resultTypes.toList.any (Try.prog.loopsFrom ·))) = true := by kernel_rfl
theorem jf23 : (Rows.fnExactNaiveCountsRow.shortTexts.isNone) = true := by kernel_rfl
theorem jf28 : ((Rows.fnExactNaiveCountsRow.kinds == (if Rows.fnExactNaiveCountsRow.domain.isEmpty then [] else Try.f8.params.toList.map fun t => match Try.prog.underlying t with | some (.int k) => some k | _ => none))) = true := by kernel_rfl
theorem jf29 : ((Rows.fnExactNaiveCountsRow.pinned == Rows.fnExactNaiveCountsRow.pinnedBy)) = true := by kernel_rfl
theorem jf30 : ((Rows.fnExactNaiveCountsRow.veiled == (Try.f8.params.toList ++ Rows.fnExactNaiveCountsSpec.plain.varTypes Try.prog ++ Try.f8.resultTypes.toList).any (Try.prog.veiledRec ·))) = true := by kernel_rfl
theorem jf31 : (Rows.fnExactNaiveCountsRow.veiledFits Try.prog Try.f8.params.toList (Try.f8.params.toList ++ Rows.fnExactNaiveCountsSpec.plain.varTypes Try.prog ++ Try.f8.resultTypes.toList)) = true := by kernel_rfl
set_option maxRecDepth 100000 in
theorem closed : joinedFacts Try.prog 8 Try.f8 Rows.fnExactNaiveCountsSpec Rows.fnExactNaiveCountsRow = true := Jp.andT (Jp.andT (Jp.andT (Jp.andT (Jp.andT (Jp.andT (Jp.andT (Jp.andT (Jp.andT (Jp.andT (Jp.andT (Jp.andT (Jp.andT (Jp.andT (Jp.andT (Jp.andT (Jp.andT (Jp.andT (Jp.andT (Jp.andT (Jp.andT (Jp.andT (Jp.andT (Jp.andT (Jp.andT (Jp.andT (Jp.andT (Jp.andT (Jp.andT (Jp.andT (Jp.andT (jf0) Jp.jf1) Jp.jf2) jf3) jf4) jf5) Jp.jf6) jf7) Jp.jf8) jf9) jf10) jf11) jf12) jf13) jf14) jf15) jf16) jf17) jf18) jf19) jf20) jf21) Jp.jf22) jf23) Jp.jf24) Jp.jf25) Jp.jf26) Jp.jf27) jf28) jf29) jf30) jf31
theorem fname : Try.pinned.checked.prog.funcNamed Rows.fnExactNaiveCountsRow.func = some 8 := by kernel_rfl
theorem params_ok : ∀ t ∈ Try.f8.params.toList, Try.prog.readableRec t = true ∧ t < Try.prog.types.size := by
  intro t ht
  have : t = 2 := by rw [Try.params8] at ht; simpa using ht
  subst this
  exact ⟨by kernel_rfl, of_decide_eq_true (by kernel_rfl)⟩
theorem results_ok : Try.f8.resultTypes = #[4] := by kernel_rfl
set_option maxRecDepth 100000 in
theorem lifted (os : Os) (started : os.Started) (H : Type) (enc : TypeId × Value → H) :
    ReturnsInHanded {} Try.checked os 8 .any (Rows.fnExactNaiveCountsSpec.pre6 enc Try.prog Try.f8 Rows.fnExactNaiveCountsRow.domain false) (Rows.fnExactNaiveCountsSpec.post enc Try.prog Try.f8 false true false false) := by
  refine returnsInHanded_of_change (C := Try.checked) Jp.own started (by kernel_rfl) Try.func8
    (ChangeSpec.witness6 (enc := enc) (C := Try.checked) false ⟨#[], #[.int .i64 0], []⟩ 8 (by kernel_rfl) (by kernel_rfl) (by kernel_rfl) (by kernel_rfl)) ?_
  intro W base args ds gs before hval0 hW hcnd _
  have hval : ∀ (j : Nat) t v, Try.f8.params[j]? = some t → args[j]? = some v → Value.okWide Try.prog W .any base t v := hval0
  have hW' := hW
  obtain ⟨p, q, hA0, hV, rfl, hfz, hnd⟩ := hW
  have hA : DataW.TrodAll enc Try.prog W 0 (fun _ => true) true Try.f8.params.toList args.toList ds p := hA0
  rw [Try.params8] at hA hval
  obtain ⟨v0, vs0, d0, ds0, p0, q0, hargs, rfl, rfl, h0, r0⟩ := trodAll_cons hA
  obtain ⟨rfl, rfl, rfl⟩ := trodAll_nil r0
  obtain rfl : args = #[v0] := by cases args; simp_all
  obtain ⟨rfl, rfl⟩ := trodVars_none hV
  obtain ⟨a0, rfl, rfl, rfl, w0⟩ := open_int Try.underlying2 (hval 0 2 v0 rfl rfl) h0
  have hwalk : Calls Try.prog 8 #[.int .i64 a0] W fun e w' => e = .returned (.bool true) ∧ Below W.heap.size W w' :=
    calls_V (φ := fun _ => ⟨0, 0, 0⟩) TT_ok (w8 a0) rfl (args := [.int .i64 a0]) ⟨rfl, trivial⟩ rfl ⟨trivial, trivial⟩
  refine hwalk.mono fun e W' ⟨he, hg⟩ => ?_
  subst he
  exact ⟨_, rfl, post_law Jp.jf1 hW' rfl rfl params_ok results_ok Try.underlying4 hg⟩
theorem over : Rows.fnExactNaiveCountsRow.holds Try.pinned (OpenSpec.ofChange Rows.fnExactNaiveCountsSpec) :=
  OpenClaim.holds_of_wide 8 Try.f8 rfl rfl rfl rfl rfl rfl rfl ⟨rfl, rfl, rfl, rfl, rfl⟩ rfl rfl rfl rfl rfl fname Try.func8 closed
    (of_decide_eq_true (by kernel_rfl)) (by unfold Func.isWrapper; first | (rw [if_pos (by decide +kernel)]; kernel_rfl) | (rw [if_neg (by decide +kernel)]; exact ⟨rfl, rfl⟩))
    (fun os started H enc _ => lifted os started H enc)
theorem proved : Rows.FnExactNaiveCountsSaid :=
  over
#print axioms proved
end Go.Proofs.Ytaniaeefijgaiaa.fnExactNaiveCounts
