/- The statement 'Rows.FnExactRiffleDistanceSaid': for all arguments the law returns true. No condition. -/
import Derived.Test.YtihoeimlkbjgmaaRows
import Derived.Test.YtihoeimlkbjgmaaJp
import Derived.WalkKit
import Derived.ProofKit
import Derived.OpenShut
import Derived.Test.YtihoeimlkbjgmaaAbsZ
import Derived.Test.YtihoeimlkbjgmaaRc
namespace Go.Proofs.Ytihoeimlkbjgmaa.fnExactRiffleDistance
open Go.Abs Go.ChangeShapes Go.WideShapes Go.ChangeAt Go.RowKit
set_option linter.unusedVariables false
set_option linter.unusedSimpArgs false
theorem jf0 : (Rows.fnExactRiffleDistanceRow.wf (OpenSpec.ofChange Rows.fnExactRiffleDistanceSpec)) = true := by kernel_rfl
theorem jf3 : (Try.f10.params.all (Try.prog.readableRec ·)) = true := by kernel_rfl
theorem jf4 : (namedTie Try.prog Rows.fnExactRiffleDistanceRow.named Rows.fnExactRiffleDistanceSpec.vars) = true := by kernel_rfl
theorem jf5 : ((Rows.fnExactRiffleDistanceRow.stops == [])) = true := by kernel_rfl
theorem jf7 : ((Rows.fnExactRiffleDistanceRow.knobs == [])) = true := by kernel_rfl
theorem jf9 : ((Rows.fnExactRiffleDistanceRow.inPlace == Try.prog.inPlace 10)) = true := by kernel_rfl
theorem jf10 : ((Rows.fnExactRiffleDistanceRow.unfollowed == Try.prog.unfollowed 10)) = true := by kernel_rfl
theorem jf11 : ((Rows.fnExactRiffleDistanceRow.recurses == Try.prog.recurses 10)) = true := by kernel_rfl
theorem jf12 : ((Rows.fnExactRiffleDistanceRow.named == Try.prog.varsNamed 10)) = true := by kernel_rfl
theorem jf13 : ((Rows.fnExactRiffleDistanceRow.maps == (Try.f10.params.toList ++ Rows.fnExactRiffleDistanceSpec.plain.varTypes Try.prog).any (Try.prog.mapsRec ·))) = true := by kernel_rfl
theorem jf14 : ((Rows.fnExactRiffleDistanceRow.ifaces == (Try.f10.params.toList ++ Rows.fnExactRiffleDistanceSpec.plain.varTypes Try.prog).any (Try.prog.ifacesRec ·))) = true := by kernel_rfl
theorem jf15 : ((Rows.fnExactRiffleDistanceRow.mapsOut == Try.prog.mapsAmong Try.f10.resultTypes.toList)) = true := by kernel_rfl
theorem jf16 : ((Rows.fnExactRiffleDistanceRow.loops == (Try.f10.params.toList ++ Rows.fnExactRiffleDistanceSpec.plain.varTypes Try.prog).any (Try.prog.loopsFrom ·))) = true := by kernel_rfl
theorem jf17 : ((Rows.fnExactRiffleDistanceRow.wideKeys == (Try.f10.params.toList ++ Rows.fnExactRiffleDistanceSpec.plain.varTypes Try.prog ++ Try.f10.resultTypes.toList).any (Try.prog.wideKeysFrom ·))) = true := by kernel_rfl
theorem jf18 : (Rows.fnExactRiffleDistanceSpec.vars.all (Try.prog.varReadable ·)) = true := by kernel_rfl
theorem jf19 : (Try.f10.resultTypes.all (fun t => Try.prog.readableRec t && decide (t < Try.prog.types.size))) = true := by kernel_rfl
theorem jf20 : ((Rows.fnExactRiffleDistanceRow.ifacesOut == Try.f10.resultTypes.toList.any (Try.prog.ifacesRec ·))) = true := by kernel_rfl
theorem jf21 : ((Rows.fnExactRiffleDistanceRow.loopsOut == Try.f10.resultTypes.toList.any (Try.prog.loopsFrom ·))) = true := by kernel_rfl
theorem jf23 : (Rows.fnExactRiffleDistanceRow.shortTexts.isNone) = true := by kernel_rfl
theorem jf28 : ((Rows.fnExactRiffleDistanceRow.kinds == (if Rows.fnExactRiffleDistanceRow.domain.isEmpty then [] else Try.f10.params.toList.map fun t => match Try.prog.underlying t with | some (.int k) => some k | _ => none))) = true := by kernel_rfl
theorem jf29 : ((Rows.fnExactRiffleDistanceRow.pinned == Rows.fnExactRiffleDistanceRow.pinnedBy)) = true := by kernel_rfl
theorem jf30 : ((Rows.fnExactRiffleDistanceRow.veiled == (Try.f10.params.toList ++ Rows.fnExactRiffleDistanceSpec.plain.varTypes Try.prog ++ Try.f10.resultTypes.toList).any (Try.prog.veiledRec ·))) = true := by kernel_rfl
theorem jf31 : (Rows.fnExactRiffleDistanceRow.veiledFits Try.prog Try.f10.params.toList (Try.f10.params.toList ++ Rows.fnExactRiffleDistanceSpec.plain.varTypes Try.prog ++ Try.f10.resultTypes.toList)) = true := by kernel_rfl
set_option maxRecDepth 100000 in
theorem closed : joinedFacts Try.prog 10 Try.f10 Rows.fnExactRiffleDistanceSpec Rows.fnExactRiffleDistanceRow = true := Jp.andT (Jp.andT (Jp.andT (Jp.andT (Jp.andT (Jp.andT (Jp.andT (Jp.andT (Jp.andT (Jp.andT (Jp.andT (Jp.andT (Jp.andT (Jp.andT (Jp.andT (Jp.andT (Jp.andT (Jp.andT (Jp.andT (Jp.andT (Jp.andT (Jp.andT (Jp.andT (Jp.andT (Jp.andT (Jp.andT (Jp.andT (Jp.andT (Jp.andT (Jp.andT (Jp.andT (jf0) Jp.jf1) Jp.jf2) jf3) jf4) jf5) Jp.jf6) jf7) Jp.jf8) jf9) jf10) jf11) jf12) jf13) jf14) jf15) jf16) jf17) jf18) jf19) jf20) jf21) Jp.jf22) jf23) Jp.jf24) Jp.jf25) Jp.jf26) Jp.jf27) jf28) jf29) jf30) jf31
theorem fname : Try.pinned.checked.prog.funcNamed Rows.fnExactRiffleDistanceRow.func = some 10 := by kernel_rfl
theorem params_ok : ∀ t ∈ Try.f10.params.toList, Try.prog.readableRec t = true ∧ t < Try.prog.types.size := by
  intro t ht
  have : t = 2 := by rw [Try.params10] at ht; simpa using ht
  subst this
  exact ⟨by kernel_rfl, of_decide_eq_true (by kernel_rfl)⟩
theorem results_ok : Try.f10.resultTypes = #[4] := by kernel_rfl
set_option maxRecDepth 100000 in
theorem lifted (os : Os) (started : os.Started) (H : Type) (enc : TypeId × Value → H) :
    ReturnsInHanded {} Try.checked os 10 .any (Rows.fnExactRiffleDistanceSpec.pre6 enc Try.prog Try.f10 Rows.fnExactRiffleDistanceRow.domain false) (Rows.fnExactRiffleDistanceSpec.post enc Try.prog Try.f10 false true false false) := by
  refine returnsInHanded_of_change (C := Try.checked) Jp.own started (by kernel_rfl) Try.func10
    (ChangeSpec.witness6 (enc := enc) (C := Try.checked) false ⟨#[], #[.int .i64 0, .int .i64 0], []⟩ 8 (by kernel_rfl) (by kernel_rfl) (by kernel_rfl) (by kernel_rfl)) ?_
  intro W base args ds gs before hval0 hW hcnd _
  have hval : ∀ (j : Nat) t v, Try.f10.params[j]? = some t → args[j]? = some v → Value.okWide Try.prog W .any base t v := hval0
  have hW' := hW
  obtain ⟨p, q, hA0, hV, rfl, hfz, hnd⟩ := hW
  have hA : DataW.TrodAll enc Try.prog W 0 (fun _ => true) true Try.f10.params.toList args.toList ds p := hA0
  rw [Try.params10] at hA hval
  obtain ⟨v0, vs0, d0, ds0, p0, q0, hargs, rfl, rfl, h0, r0⟩ := trodAll_cons hA
  obtain ⟨v1, vs1, d1, ds1, p1, q1, rfl, rfl, rfl, h1, r1⟩ := trodAll_cons r0
  obtain ⟨rfl, rfl, rfl⟩ := trodAll_nil r1
  obtain rfl : args = #[v0, v1] := by cases args; simp_all
  obtain ⟨rfl, rfl⟩ := trodVars_none hV
  obtain ⟨a0, rfl, rfl, rfl, w0⟩ := open_int Try.underlying2 (hval 0 2 v0 rfl rfl) h0
  obtain ⟨a1, rfl, rfl, rfl, w1⟩ := open_int Try.underlying2 (hval 1 2 v1 rfl rfl) h1
  have hwalk : Calls Try.prog 10 #[.int .i64 a0, .int .i64 a1] W fun e w' => e = .returned (.bool true) ∧ Below W.heap.size W w' :=
    calls_V (φ := fun _ => ⟨0, 0, 0⟩) TT_ok (w10 a0 a1) rfl (args := [.int .i64 a0, .int .i64 a1]) ⟨rfl, ⟨rfl, trivial⟩⟩ rfl ⟨trivial, ⟨trivial, trivial⟩⟩
  refine hwalk.mono fun e W' ⟨he, hg⟩ => ?_
  subst he
  exact ⟨_, rfl, post_law Jp.jf1 hW' rfl rfl params_ok results_ok Try.underlying4 hg⟩
theorem over : Rows.fnExactRiffleDistanceRow.holds Try.pinned (OpenSpec.ofChange Rows.fnExactRiffleDistanceSpec) :=
  OpenClaim.holds_of_wide 10 Try.f10 rfl rfl rfl rfl rfl rfl rfl ⟨rfl, rfl, rfl, rfl, rfl⟩ rfl rfl rfl rfl rfl fname Try.func10 closed
    (of_decide_eq_true (by kernel_rfl)) (by unfold Func.isWrapper; first | (rw [if_pos (by decide +kernel)]; kernel_rfl) | (rw [if_neg (by decide +kernel)]; exact ⟨rfl, rfl⟩))
    (fun os started H enc _ => lifted os started H enc)
theorem proved : Rows.FnExactRiffleDistanceSaid :=
  over
#print axioms proved
end Go.Proofs.Ytihoeimlkbjgmaa.fnExactRiffleDistance
