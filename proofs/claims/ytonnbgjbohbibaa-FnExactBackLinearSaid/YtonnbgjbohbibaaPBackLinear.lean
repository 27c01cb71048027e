/- The statement 'Rows.FnExactBackLinearSaid': for all arguments the law returns true. No condition. -/
import Derived.Test.YtonnbgjbohbibaaRows
import Derived.Test.YtonnbgjbohbibaaJp
import Derived.WalkKit
import Derived.ProofKit
import Derived.OpenShut
import Derived.Test.YtonnbgjbohbibaaAbsZ
import Derived.Test.YtonnbgjbohbibaaEt
namespace Go.Proofs.Ytonnbgjbohbibaa.fnExactBackLinear
open Go.Abs Go.ChangeShapes Go.WideShapes Go.ChangeAt Go.RowKit
set_option linter.unusedVariables false
set_option linter.unusedSimpArgs false
theorem jf0 : (Rows.fnExactBackLinearRow.wf (OpenSpec.ofChange Rows.fnExactBackLinearSpec)) = true := by kernel_rfl
theorem jf3 : (Try.f16.params.all (Try.prog.readableRec ·)) = true := by kernel_rfl
theorem jf4 : (namedTie Try.prog Rows.fnExactBackLinearRow.named Rows.fnExactBackLinearSpec.vars) = true := by kernel_rfl
theorem jf5 : ((Rows.fnExactBackLinearRow.stops == [])) = true := by kernel_rfl
theorem jf7 : ((Rows.fnExactBackLinearRow.knobs == [])) = true := by kernel_rfl
theorem jf9 : ((Rows.fnExactBackLinearRow.inPlace == Try.prog.inPlace 16)) = true := by kernel_rfl
theorem jf10 : ((Rows.fnExactBackLinearRow.unfollowed == Try.prog.unfollowed 16)) = true := by kernel_rfl
theorem jf11 : ((Rows.fnExactBackLinearRow.recurses == Try.prog.recurses 16)) = true := by kernel_rfl
theorem jf12 : ((Rows.fnExactBackLinearRow.named == Try.prog.varsNamed 16)) = true := by kernel_rfl
theorem jf13 : ((Rows.fnExactBackLinearRow.maps == (Try.f16.params.toList ++ Rows.fnExactBackLinearSpec.plain.varTypes Try.prog).any (Try.prog.mapsRec ·))) = true := by kernel_rfl
theorem jf14 : ((Rows.fnExactBackLinearRow.ifaces == (Try.f16.params.toList ++ Rows.fnExactBackLinearSpec.plain.varTypes Try.prog).any (Try.prog.ifacesRec ·))) = true := by kernel_rfl
theorem jf15 : ((Rows.fnExactBackLinearRow.mapsOut == Try.prog.mapsAmong Try.f16.resultTypes.toList)) = true := by kernel_rfl
theorem jf16 : ((Rows.fnExactBackLinearRow.loops == (Try.f16.params.toList ++ Rows.fnExactBackLinearSpec.plain.varTypes Try.prog).any (Try.prog.loopsFrom ·))) = true := by kernel_rfl
theorem jf17 : ((Rows.fnExactBackLinearRow.wideKeys == (Try.f16.params.toList ++ Rows.fnExactBackLinearSpec.plain.varTypes Try.prog ++ Try.f16.resultTypes.toList).any (Try.prog.wideKeysFrom ·))) = true := by kernel_rfl
theorem jf18 : (Rows.fnExactBackLinearSpec.vars.all (Try.prog.varReadable ·)) = true := by kernel_rfl
theorem jf19 : (Try.f16.resultTypes.all (fun t => Try.prog.readableRec t && decide (t < Try.prog.types.size))) = true := by kernel_rfl
theorem jf20 : ((Rows.fnExactBackLinearRow.ifacesOut == Try.f16.resultTypes.toList.any (Try.prog.ifacesRec ·))) = true := by kernel_rfl
theorem jf21 : ((Rows.fnExactBackLinearRow.loopsOut == Try.f16.resultTypes.toList.any (Try.prog.loopsFrom ·))) = true := by kernel_rfl
theorem jf23 : (Rows.fnExactBackLinearRow.shortTexts.isNone) = true := by kernel_rfl
theorem jf28 : ((Rows.fnExactBackLinearRow.kinds == (if Rows.fnExactBackLinearRow.domain.isEmpty then [] else Try.f16.params.toList.map fun t => match Try.prog.underlying t with | some (.int k) => some k | _ => none))) = true := by kernel_rfl
theorem jf29 : ((Rows.fnExactBackLinearRow.pinned == Rows.fnExactBackLinearRow.pinnedBy)) = true := by kernel_rfl
theorem jf30 : ((Rows.fnExactBackLinearRow.veiled == (Try.f16.params.toList ++ Rows.fnExactBackLinearSpec.plain.varTypes Try.prog ++ Try.f16.resultTypes.toList).any (Try.prog.veiledRec ·))) = true := by kernel_rfl
theorem jf31 : (Rows.fnExactBackLinearRow.veiledFits Try.prog Try.f16.params.toList (Try.f16.params.toList ++ Rows.fnExactBackLinearSpec.plain.varTypes Try.prog ++ Try.f16.resultTypes.toList)) = true := by kernel_rfl
set_option maxRecDepth 100000 in
theorem closed : joinedFacts Try.prog 16 Try.f16 Rows.fnExactBackLinearSpec Rows.fnExactBackLinearRow = true := Jp.andT (Jp.andT (Jp.andT (Jp.andT (Jp.andT (Jp.andT (Jp.andT (Jp.andT (Jp.andT (Jp.andT (Jp.andT (Jp.andT (Jp.andT (Jp.andT (Jp.andT (Jp.andT (Jp.andT (Jp.andT (Jp.andT (Jp.andT (Jp.andT (Jp.andT (Jp.andT (Jp.andT (Jp.andT (Jp.andT (Jp.andT (Jp.andT (Jp.andT (Jp.andT (Jp.andT (jf0) Jp.jf1) Jp.jf2) jf3) jf4) jf5) Jp.jf6) jf7) Jp.jf8) jf9) jf10) jf11) jf12) jf13) jf14) jf15) jf16) jf17) jf18) jf19) jf20) jf21) Jp.jf22) jf23) Jp.jf24) Jp.jf25) Jp.jf26) Jp.jf27) jf28) jf29) jf30) jf31
theorem fname : Try.pinned.checked.prog.funcNamed Rows.fnExactBackLinearRow.func = some 16 := by kernel_rfl
theorem params_ok : ∀ t ∈ Try.f16.params.toList, Try.prog.readableRec t = true ∧ t < Try.prog.types.size := by
  intro t ht
  have : t = 38 ∨ t = 2 := by rw [Try.params16] at ht; simpa using ht
  rcases this with rfl | rfl <;> exact ⟨by kernel_rfl, of_decide_eq_true (by kernel_rfl)⟩
theorem results_ok : Try.f16.resultTypes = #[4] := by kernel_rfl
theorem sh38 : shOf Try.prog 4 38 = some [.int .i64, .sl [.int .i64], .int .i64] := by kernel_rfl
set_option maxRecDepth 100000 in
theorem lifted (os : Os) (started : os.Started) (H : Type) (enc : TypeId × Value → H) :
    ReturnsInHanded {} Try.checked os 16 .any (Rows.fnExactBackLinearSpec.pre6 enc Try.prog Try.f16 Rows.fnExactBackLinearRow.domain false) (Rows.fnExactBackLinearSpec.post enc Try.prog Try.f16 false true false false) := by
  refine returnsInHanded_of_change (C := Try.checked) Jp.own started (by kernel_rfl) Try.func16
    (ChangeSpec.witness6 (enc := enc) (C := Try.checked) false ⟨#[], #[.agg #[.int .i64 0, .slice none 0 0, .int .i64 0], .int .i64 0], []⟩ 8 (by kernel_rfl) (by kernel_rfl) (by kernel_rfl) (by kernel_rfl)) ?_
  intro W base args ds gs before hval0 hW hcnd _
  have hval : ∀ (j : Nat) t v, Try.f16.params[j]? = some t → args[j]? = some v → Value.okWide Try.prog W .any base t v := hval0
  have hW' := hW
  obtain ⟨p, q, hA0, hV, rfl, hfz, hnd⟩ := hW
  have hA : DataW.TrodAll enc Try.prog W 0 (fun _ => true) true Try.f16.params.toList args.toList ds p := hA0
  rw [Try.params16] at hA hval
  obtain ⟨v0, vs0, d0, ds0, p0, q0, hargs, rfl, rfl, h0, r0⟩ := trodAll_cons hA
  obtain ⟨v1, vs1, d1, ds1, p1, q1, rfl, rfl, rfl, h1, r1⟩ := trodAll_cons r0
  obtain ⟨rfl, rfl, rfl⟩ := trodAll_nil r1
  obtain rfl : args = #[v0, v1] := by cases args; simp_all
  obtain ⟨rfl, rfl⟩ := trodVars_none hV
  obtain ⟨cs0, rfl, _⟩ := okWide_struct Try.underlying38 (hval 0 38 v0 rfl rfl)
  obtain ⟨xs0, hf0, hs0, hv0⟩ := open_agg sh38 h0
  obtain ⟨w0, l0, o0, rfl, hb0⟩ := fits_lin hf0
  obtain ⟨a1, rfl, rfl, rfl, w1⟩ := open_int Try.underlying2 (hval 1 2 v1 rfl rfl) h1
  have hwalk : Calls Try.prog 16 #[.agg cs0, .int .i64 a1] W fun e w' => e = .returned (.bool true) ∧ Below W.heap.size W w' :=
    calls_V (φ := fun _ => ⟨0, 0, 0⟩) TT_ok (w16 w0 l0 o0 a1 (max_len hb0.1)) rfl (args := [.agg (lin w0 l0 o0), .int .i64 a1]) ⟨hv0 _, ⟨rfl, trivial⟩⟩ rfl ⟨hs0, ⟨trivial, trivial⟩⟩
  refine hwalk.mono fun e W' ⟨he, hg⟩ => ?_
  subst he
  exact ⟨_, rfl, post_law Jp.jf1 hW' rfl rfl params_ok results_ok Try.underlying4 hg⟩
theorem over : Rows.fnExactBackLinearRow.holds Try.pinned (OpenSpec.ofChange Rows.fnExactBackLinearSpec) :=
  OpenClaim.holds_of_wide 16 Try.f16 rfl rfl rfl rfl rfl rfl rfl ⟨rfl, rfl, rfl, rfl, rfl⟩ rfl rfl rfl rfl rfl fname Try.func16 closed
    (of_decide_eq_true (by kernel_rfl)) (by unfold Func.isWrapper; first | (rw [if_pos (by decide +kernel)]; kernel_rfl) | (rw [if_neg (by decide +kernel)]; exact ⟨rfl, rfl⟩))
    (fun os started H enc _ => lifted os started H enc)
theorem proved : Rows.FnExactBackLinearSaid :=
  over
#print axioms proved
end Go.Proofs.Ytonnbgjbohbibaa.fnExactBackLinear
