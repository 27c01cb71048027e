/- The statement 'Rows.FnExactUntemperWordSaid': for all arguments the law returns true. No condition. -/
import Derived.Test.YthkdbkjkccogfaaRows
import Derived.Test.YthkdbkjkccogfaaJp
import Derived.WalkKit
import Derived.ProofKit
import Derived.OpenShut
import Derived.Test.YthkdbkjkccogfaaAbsZ
import Derived.Test.YthkdbkjkccogfaaXj
import Derived.Test.YthkdbkjkccogfaaGf
namespace Go.Proofs.Ythkdbkjkccogfaa.fnExactUntemperWord
open Go.Abs Go.ChangeShapes Go.WideShapes Go.ChangeAt Go.RowKit
set_option linter.unusedVariables false
set_option linter.unusedSimpArgs false
theorem jf0 : (Rows.fnExactUntemperWordRow.wf (OpenSpec.ofChange Rows.fnExactUntemperWordSpec)) = true := by kernel_rfl
theorem jf3 : (Try.f3.params.all (Try.prog.readableRec ·)) = true := by kernel_rfl
theorem jf4 : (namedTie Try.prog Rows.fnExactUntemperWordRow.named Rows.fnExactUntemperWordSpec.vars) = true := by kernel_rfl
theorem jf5 : ((Rows.fnExactUntemperWordRow.stops == [])) = true := by kernel_rfl
theorem jf7 : ((Rows.fnExactUntemperWordRow.knobs == [])) = true := by kernel_rfl
theorem jf9 : ((Rows.fnExactUntemperWordRow.inPlace == Try.prog.inPlace 3)) = true := by kernel_rfl
theorem jf10 : ((Rows.fnExactUntemperWordRow.unfollowed == Try.prog.unfollowed 3)) = true := by kernel_rfl
theorem jf11 : ((Rows.fnExactUntemperWordRow.recurses == Try.prog.recurses 3)) = true := by kernel_rfl
theorem jf12 : ((Rows.fnExactUntemperWordRow.named == Try.prog.varsNamed 3)) = true := by kernel_rfl
theorem jf13 : ((Rows.fnExactUntemperWordRow.maps == (Try.f3.params.toList ++ Rows.fnExactUntemperWordSpec.plain.varTypes Try.prog).any (Try.prog.mapsRec ·))) = true := by kernel_rfl
theorem jf14 : ((Rows.fnExactUntemperWordRow.ifaces == (Try.f3.params.toList ++ Rows.fnExactUntemperWordSpec.plain.varTypes Try.prog).any (Try.prog.ifacesRec ·))) = true := by kernel_rfl
theorem jf15 : ((Rows.fnExactUntemperWordRow.mapsOut == Try.prog.mapsAmong Try.f3.resultTypes.toList)) = true := by kernel_rfl
theorem jf16 : ((Rows.fnExactUntemperWordRow.loops == (Try.f3.params.toList ++ Rows.fnExactUntemperWordSpec.plain.varTypes Try.prog).any (Try.prog.loopsFrom ·))) = true := by kernel_rfl
theorem jf17 : ((Rows.fnExactUntemperWordRow.wideKeys == (Try.f3.params.toList ++ Rows.fnExactUntemperWordSpec.plain.varTypes Try.prog ++ Try.f3.resultTypes.toList).any (Try.prog.wideKeysFrom ·))) = true := by kernel_rfl
theorem jf18 : (Rows.fnExactUntemperWordSpec.vars.all (Try.prog.varReadable ·)) = true := by kernel_rfl
theorem jf19 : (Try.f3.resultTypes.all (fun t => Try.prog.readableRec t && decide (t < Try.prog.types.size))) = true := by kernel_rfl
theorem jf20 : ((Rows.fnExactUntemperWordRow.ifacesOut == Try.f3.resultTypes.toList.any (Try.prog.ifacesRec ·))) = true := by kernel_rfl
theorem jf21 : ((Rows.fnExactUntemperWordRow.loopsOut == Try.f3.resultTypes.toList.any (Try.prog.loopsFrom ·))) = true := by kernel_rfl
theorem jf23 : (Rows.fnExactUntemperWordRow.shortTexts.isNone) = true := by kernel_rfl
theorem jf28 : ((Rows.fnExactUntemperWordRow.kinds == (if Rows.fnExactUntemperWordRow.domain.isEmpty then [] else Try.f3.params.toList.map fun t => match Try.prog.underlying t with | some (.int k) => some k | _ => none))) = true := by kernel_rfl
theorem jf29 : ((Rows.fnExactUntemperWordRow.pinned == Rows.fnExactUntemperWordRow.pinnedBy)) = true := by kernel_rfl
theorem jf30 : ((Rows.fnExactUntemperWordRow.veiled == (Try.f3.params.toList ++ Rows.fnExactUntemperWordSpec.plain.varTypes Try.prog ++ Try.f3.resultTypes.toList).any (Try.prog.veiledRec ·))) = true := by kernel_rfl
theorem jf31 : (Rows.fnExactUntemperWordRow.veiledFits Try.prog Try.f3.params.toList (Try.f3.params.toList ++ Rows.fnExactUntemperWordSpec.plain.varTypes Try.prog ++ Try.f3.resultTypes.toList)) = true := by kernel_rfl
set_option maxRecDepth 100000 in
theorem closed : joinedFacts Try.prog 3 Try.f3 Rows.fnExactUntemperWordSpec Rows.fnExactUntemperWordRow = true := Jp.andT (Jp.andT (Jp.andT (Jp.andT (Jp.andT (Jp.andT (Jp.andT (Jp.andT (Jp.andT (Jp.andT (Jp.andT (Jp.andT (Jp.andT (Jp.andT (Jp.andT (Jp.andT (Jp.andT (Jp.andT (Jp.andT (Jp.andT (Jp.andT (Jp.andT (Jp.andT (Jp.andT (Jp.andT (Jp.andT (Jp.andT (Jp.andT (Jp.andT (Jp.andT (Jp.andT (jf0) Jp.jf1) Jp.jf2) jf3) jf4) jf5) Jp.jf6) jf7) Jp.jf8) jf9) jf10) jf11) jf12) jf13) jf14) jf15) jf16) jf17) jf18) jf19) jf20) jf21) Jp.jf22) jf23) Jp.jf24) Jp.jf25) Jp.jf26) Jp.jf27) jf28) jf29) jf30) jf31
theorem fname : Try.pinned.checked.prog.funcNamed Rows.fnExactUntemperWordRow.func = some 3 := by kernel_rfl
theorem params_ok : ∀ t ∈ Try.f3.params.toList, Try.prog.readableRec t = true ∧ t < Try.prog.types.size := by
  intro t ht
  have : t = 23 ∨ t = 2 := by rw [Try.params3] at ht; simpa using ht
  rcases this with rfl | rfl <;> exact ⟨by kernel_rfl, of_decide_eq_true (by kernel_rfl)⟩
theorem results_ok : Try.f3.resultTypes = #[4] := by kernel_rfl
theorem sh23 : shOf Try.prog 4 23 = some [.int .i64, .int .i64, .int .i64, .int .i64, .int .i64, .int .i64] := by kernel_rfl
set_option maxRecDepth 100000 in
theorem lifted (os : Os) (started : os.Started) (H : Type) (enc : TypeId × Value → H) :
    ReturnsInHanded {} Try.checked os 3 .any (Rows.fnExactUntemperWordSpec.pre6 enc Try.prog Try.f3 Rows.fnExactUntemperWordRow.domain false) (Rows.fnExactUntemperWordSpec.post enc Try.prog Try.f3 false true false false) := by
  refine returnsInHanded_of_change (C := Try.checked) Jp.own started (by kernel_rfl) Try.func3
    (ChangeSpec.witness6 (enc := enc) (C := Try.checked) false ⟨#[], #[.agg #[.int .i64 0, .int .i64 0, .int .i64 0, .int .i64 0, .int .i64 0, .int .i64 0], .int .i64 0], []⟩ 8 (by kernel_rfl) (by kernel_rfl) (by kernel_rfl) (by kernel_rfl)) ?_
  intro W base args ds gs before hval0 hW hcnd _
  have hval : ∀ (j : Nat) t v, Try.f3.params[j]? = some t → args[j]? = some v → Value.okWide Try.prog W .any base t v := hval0
  have hW' := hW
  obtain ⟨p, q, hA0, hV, rfl, hfz, hnd⟩ := hW
  have hA : DataW.TrodAll enc Try.prog W 0 (fun _ => true) true Try.f3.params.toList args.toList ds p := hA0
  rw [Try.params3] at hA hval
  obtain ⟨v0, vs0, d0, ds0, p0, q0, hargs, rfl, rfl, h0, r0⟩ := trodAll_cons hA
  obtain ⟨v1, vs1, d1, ds1, p1, q1, rfl, rfl, rfl, h1, r1⟩ := trodAll_cons r0
  obtain ⟨rfl, rfl, rfl⟩ := trodAll_nil r1
  obtain rfl : args = #[v0, v1] := by cases args; simp_all
  obtain ⟨rfl, rfl⟩ := trodVars_none hV
  obtain ⟨cs0, rfl, _⟩ := okWide_struct Try.underlying23 (hval 0 23 v0 rfl rfl)
  obtain ⟨xs0, hf0, hs0, hv0⟩ := open_agg sh23 h0
  obtain ⟨a0, b0, c0, d0_, e0, f0, rfl⟩ := fits_tmp hf0
  obtain ⟨a1, rfl, rfl, rfl, w1⟩ := open_int Try.underlying2 (hval 1 2 v1 rfl rfl) h1
  have hwalk : Calls Try.prog 3 #[.agg cs0, .int .i64 a1] W fun e w' => e = .returned (.bool true) ∧ Below W.heap.size W w' :=
    calls_V (φ := fun _ => ⟨0, 0, 0⟩) TX_ok (TXF.w3 a0 b0 c0 d0_ e0 f0 a1) rfl (args := [.agg (tem a0 b0 c0 d0_ e0 f0), .int .i64 a1]) ⟨hv0 _, ⟨rfl, trivial⟩⟩ rfl ⟨hs0, ⟨trivial, trivial⟩⟩
  refine hwalk.mono fun e W' ⟨he, hg⟩ => ?_
  subst he
  exact ⟨_, rfl, post_law Jp.jf1 hW' rfl rfl params_ok results_ok Try.underlying4 hg⟩
theorem over : Rows.fnExactUntemperWordRow.holds Try.pinned (OpenSpec.ofChange Rows.fnExactUntemperWordSpec) :=
  OpenClaim.holds_of_wide 3 Try.f3 rfl rfl rfl rfl rfl rfl rfl ⟨rfl, rfl, rfl, rfl, rfl⟩ rfl rfl rfl rfl rfl fname Try.func3 closed
    (of_decide_eq_true (by kernel_rfl)) (by unfold Func.isWrapper; first | (rw [if_pos (by decide +kernel)]; kernel_rfl) | (rw [if_neg (by decide +kernel)]; exact ⟨rfl, rfl⟩))
    (fun os started H enc _ => lifted os started H enc)
theorem proved : Rows.FnExactUntemperWordSaid :=
  over
#print axioms proved
end Go.Proofs.Ythkdbkjkccogfaa.fnExactUntemperWord
