/- The statement 'Rows.FnExactContractionOfSaid': for all arguments the law returns true. No condition. -/
import Derived.Test.YtihoeimlkbjgmaaRows
import Derived.Test.YtihoeimlkbjgmaaJp
import Derived.WalkKit
import Derived.ProofKit
import Derived.OpenShut
import Derived.Test.YtihoeimlkbjgmaaAbsZ
import Derived.Test.YtihoeimlkbjgmaaRa
namespace Go.Proofs.Ytihoeimlkbjgmaa.fnExactContractionOf
open Go.Abs Go.ChangeShapes Go.WideShapes Go.ChangeAt Go.RowKit
set_option linter.unusedVariables false
set_option linter.unusedSimpArgs false
theorem jf0 : (Rows.fnExactContractionOfRow.wf (OpenSpec.ofChange Rows.fnExactContractionOfSpec)) = true := by kernel_rfl
theorem jf3 : (Try.f8.params.all (Try.prog.readableRec ·)) = true := by kernel_rfl
theorem jf4 : (namedTie Try.prog Rows.fnExactContractionOfRow.named Rows.fnExactContractionOfSpec.vars) = true := by kernel_rfl
theorem jf5 : ((Rows.fnExactContractionOfRow.stops == [])) = true := by kernel_rfl
theorem jf7 : ((Rows.fnExactContractionOfRow.knobs == [])) = true := by kernel_rfl
theorem jf9 : ((Rows.fnExactContractionOfRow.inPlace == Try.prog.inPlace 8)) = true := by kernel_rfl
theorem jf10 : ((Rows.fnExactContractionOfRow.unfollowed == Try.prog.unfollowed 8)) = true := by kernel_rfl
theorem jf11 : ((Rows.fnExactContractionOfRow.recurses == Try.prog.recurses 8)) = true := by kernel_rfl
theorem jf12 : ((Rows.fnExactContractionOfRow.named == Try.prog.varsNamed 8)) = true := by kernel_rfl
theorem jf13 : ((Rows.fnExactContractionOfRow.maps == (Try.f8.params.toList ++ Rows.fnExactContractionOfSpec.plain.varTypes Try.prog).any (Try.prog.mapsRec ·))) = true := by kernel_rfl
theorem jf14 : ((Rows.fnExactContractionOfRow.ifaces == (Try.f8.params.toList ++ Rows.fnExactContractionOfSpec.plain.varTypes Try.prog).any (Try.prog.ifacesRec ·))) = true := by kernel_rfl
theorem jf15 : ((Rows.fnExactContractionOfRow.mapsOut == Try.prog.mapsAmong Try.f8.resultTypes.toList)) = true := by kernel_rfl
theorem jf16 : ((Rows.fnExactContractionOfRow.loops == (Try.f8.params.toList ++ Rows.fnExactContractionOfSpec.plain.varTypes Try.prog).any (Try.prog.loopsFrom ·))) = true := by kernel_rfl
theorem jf17 : ((Rows.fnExactContractionOfRow.wideKeys == (Try.f8.params.toList ++ Rows.fnExactContractionOfSpec.plain.varTypes Try.prog ++ Try.f8.resultTypes.toList).any (Try.prog.wideKeysFrom ·))) = true := by kernel_rfl
theorem jf18 : (Rows.fnExactContractionOfSpec.vars.all (Try.prog.varReadable ·)) = true := by kernel_rfl
theorem jf19 : (Try.f8.resultTypes.all (fun t => Try.prog.readableRec t && decide (t < Try.prog.types.size))) = true := by kernel_rfl
theorem jf20 : ((Rows.fnExactContractionOfRow.ifacesOut == Try.f8.resultTypes.toList.any (Try.prog.ifacesRec ·))) = true := by kernel_rfl
theorem jf21 : ((Rows.fnExactContractionOfRow.loopsOut == Try.f8.resultTypes.toList.any (Try.prog.loopsFrom ·))) = true := by kernel_rfl
theorem jf23 : (Rows.fnExactContractionOfRow.shortTexts.isNone) = true := by kernel_rfl
theorem jf28 : ((Rows.fnExactContractionOfRow.kinds == (if Rows.fnExactContractionOfRow.domain.isEmpty then [] else Try.f8.params.toList.map fun t => match Try.prog.underlying t with | some (.int k) => some k | _ => none))) = true := by kernel_rfl
theorem jf29 : ((Rows.fnExactContractionOfRow.pinned == Rows.fnExactContractionOfRow.pinnedBy)) = true := by kernel_rfl
theorem jf30 : ((Rows.fnExactContractionOfRow.veiled == (Try.f8.params.toList ++ Rows.fnExactContractionOfSpec.plain.varTypes Try.prog ++ Try.f8.resultTypes.toList).any (Try.prog.veiledRec ·))) = true := by kernel_rfl
theorem jf31 : (Rows.fnExactContractionOfRow.veiledFits Try.prog Try.f8.params.toList (Try.f8.params.toList ++ Rows.fnExactContractionOfSpec.plain.varTypes Try.prog ++ Try.f8.resultTypes.toList)) = true := by kernel_rfl
set_option maxRecDepth 100000 in
theorem closed : joinedFacts Try.prog 8 Try.f8 Rows.fnExactContractionOfSpec Rows.fnExactContractionOfRow = true := Jp.andT (Jp.andT (Jp.andT (Jp.andT (Jp.andT (Jp.andT (Jp.andT (Jp.andT (Jp.andT (Jp.andT (Jp.andT (Jp.andT (Jp.andT (Jp.andT (Jp.andT (Jp.andT (Jp.andT (Jp.andT (Jp.andT (Jp.andT (Jp.andT (Jp.andT (Jp.andT (Jp.andT (Jp.andT (Jp.andT (Jp.andT (Jp.andT (Jp.andT (Jp.andT (Jp.andT (jf0) Jp.jf1) Jp.jf2) jf3) jf4) jf5) Jp.jf6) jf7) Jp.jf8) jf9) jf10) jf11) jf12) jf13) jf14) jf15) jf16) jf17) jf18) jf19) jf20) jf21) Jp.jf22) jf23) Jp.jf24) Jp.jf25) Jp.jf26) Jp.jf27) jf28) jf29) jf30) jf31
theorem fname : Try.pinned.checked.prog.funcNamed Rows.fnExactContractionOfRow.func = some 8 := by kernel_rfl
theorem params_ok : ∀ t ∈ Try.f8.params.toList, Try.prog.readableRec t = true ∧ t < Try.prog.types.size := by
  intro t ht
  have : t = 31 := by rw [Try.params8] at ht; simpa using ht
  subst this
  exact ⟨by kernel_rfl, of_decide_eq_true (by kernel_rfl)⟩
theorem results_ok : Try.f8.resultTypes = #[4] := by kernel_rfl
theorem sh31 : shOf Try.prog 6 31 = some [.sl [.sl [.int .i64, .int .i64]]] := by kernel_rfl
set_option maxRecDepth 100000 in
theorem lifted (os : Os) (started : os.Started) (H : Type) (enc : TypeId × Value → H) :
    ReturnsInHanded {} Try.checked os 8 .any (Rows.fnExactContractionOfSpec.pre6 enc Try.prog Try.f8 Rows.fnExactContractionOfRow.domain false) (Rows.fnExactContractionOfSpec.post enc Try.prog Try.f8 false true false false) := by
  refine returnsInHanded_of_change (C := Try.checked) Jp.own started (by kernel_rfl) Try.func8
    (ChangeSpec.witness6 (enc := enc) (C := Try.checked) false ⟨#[], #[.agg #[.slice none 0 0]], []⟩ 8 (by kernel_rfl) (by kernel_rfl) (by kernel_rfl) (by kernel_rfl)) ?_
  intro W base args ds gs before hval0 hW hcnd _
  have hval : ∀ (j : Nat) t v, Try.f8.params[j]? = some t → args[j]? = some v → Value.okWide Try.prog W .any base t v := hval0
  have hW' := hW
  obtain ⟨p, q, hA0, hV, rfl, hfz, hnd⟩ := hW
  have hA : DataW.TrodAll enc Try.prog W 0 (fun _ => true) true Try.f8.params.toList args.toList ds p := hA0
  rw [Try.params8] at hA hval
  obtain ⟨v0, vs0, d0, ds0, p0, q0, hargs, rfl, rfl, h0, r0⟩ := trodAll_cons hA
  obtain ⟨rfl, rfl, rfl⟩ := trodAll_nil r0
  obtain rfl : args = #[v0] := by cases args; simp_all
  obtain ⟨rfl, rfl⟩ := trodVars_none hV
  obtain ⟨cs0, rfl, _⟩ := okWide_struct Try.underlying31 (hval 0 31 v0 rfl rfl)
  obtain ⟨xs0, hf0, hs0, hv0⟩ := open_agg sh31 h0
  obtain ⟨ls0, rfl, hn0, hr0⟩ := fits_walk hf0
  have hwalk : Calls Try.prog 8 #[.agg cs0] W fun e w' => e = .returned (.bool true) ∧ Below W.heap.size W w' :=
    calls_V (φ := fun _ => ⟨0, 0, 0⟩) TT_ok (w8 ls0 hn0 hr0) rfl (args := [.agg [FSS ls0]]) ⟨hv0 _, trivial⟩ rfl ⟨hs0, trivial⟩
  refine hwalk.mono fun e W' ⟨he, hg⟩ => ?_
  subst he
  exact ⟨_, rfl, post_law Jp.jf1 hW' rfl rfl params_ok results_ok Try.underlying4 hg⟩
theorem over : Rows.fnExactContractionOfRow.holds Try.pinned (OpenSpec.ofChange Rows.fnExactContractionOfSpec) :=
  OpenClaim.holds_of_wide 8 Try.f8 rfl rfl rfl rfl rfl rfl rfl ⟨rfl, rfl, rfl, rfl, rfl⟩ rfl rfl rfl rfl rfl fname Try.func8 closed
    (of_decide_eq_true (by kernel_rfl)) (by unfold Func.isWrapper; first | (rw [if_pos (by decide +kernel)]; kernel_rfl) | (rw [if_neg (by decide +kernel)]; exact ⟨rfl, rfl⟩))
    (fun os started H enc _ => lifted os started H enc)
theorem proved : Rows.FnExactContractionOfSaid :=
  over
#print axioms proved
end Go.Proofs.Ytihoeimlkbjgmaa.fnExactContractionOf
