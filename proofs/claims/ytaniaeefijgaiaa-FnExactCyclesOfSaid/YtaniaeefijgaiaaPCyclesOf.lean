/- The statement 'Rows.FnExactCyclesOfSaid': for all arguments the law returns true. No condition. -/
import Derived.Test.YtaniaeefijgaiaaRows
import Derived.Test.YtaniaeefijgaiaaJp
import Derived.WalkKit
import Derived.ProofKit
import Derived.OpenShut
import Derived.Test.YtaniaeefijgaiaaAbsZ
import Derived.Test.YtaniaeefijgaiaaDj
namespace Go.Proofs.Ytaniaeefijgaiaa.fnExactCyclesOf
open Go.Abs Go.ChangeShapes Go.WideShapes Go.ChangeAt Go.RowKit
set_option linter.unusedVariables false
set_option linter.unusedSimpArgs false
theorem jf0 : (Rows.fnExactCyclesOfRow.wf (OpenSpec.ofChange Rows.fnExactCyclesOfSpec)) = true := by kernel_rfl
theorem jf3 : (Try.f16.params.all (Try.prog.readableRec ·)) = true := by kernel_rfl
theorem jf4 : (namedTie Try.prog Rows.fnExactCyclesOfRow.named Rows.fnExactCyclesOfSpec.vars) = true := by kernel_rfl
theorem jf5 : ((Rows.fnExactCyclesOfRow.stops == [])) = true := by kernel_rfl
theorem jf7 : ((Rows.fnExactCyclesOfRow.knobs == [])) = true := by kernel_rfl
theorem jf9 : ((Rows.fnExactCyclesOfRow.inPlace == Try.prog.inPlace 16)) = true := by kernel_rfl
theorem jf10 : ((Rows.fnExactCyclesOfRow.unfollowed == Try.prog.unfollowed 16)) = true := by kernel_rfl
theorem jf11 : ((Rows.fnExactCyclesOfRow.recurses == Try.prog.recurses 16)) = true := by kernel_rfl
theorem jf12 : ((Rows.fnExactCyclesOfRow.named == Try.prog.varsNamed 16)) = true := by kernel_rfl
theorem jf13 : ((Rows.fnExactCyclesOfRow.maps == (Try.f16.params.toList ++ Rows.fnExactCyclesOfSpec.plain.varTypes Try.prog).any (Try.prog.mapsRec ·))) = true := by kernel_rfl
theorem jf14 : ((Rows.fnExactCyclesOfRow.ifaces == (Try.f16.params.toList ++ Rows.fnExactCyclesOfSpec.plain.varTypes Try.prog).any (Try.prog.ifacesRec ·))) = true := by kernel_rfl
theorem jf15 : ((Rows.fnExactCyclesOfRow.mapsOut == Try.prog.mapsAmong Try.f16.resultTypes.toList)) = true := by kernel_rfl
theorem jf16 : ((Rows.fnExactCyclesOfRow.loops == (Try.f16.params.toList ++ Rows.fnExactCyclesOfSpec.plain.varTypes Try.prog).any (Try.prog.loopsFrom ·))) = true := by kernel_rfl
theorem jf17 : ((Rows.fnExactCyclesOfRow.wideKeys == (Try.f16.params.toList ++ Rows.fnExactCyclesOfSpec.plain.varTypes Try.prog ++ Try.f16.resultTypes.toList).any (Try.prog.wideKeysFrom ·))) = true := by kernel_rfl
theorem jf18 : (Rows.fnExactCyclesOfSpec.vars.all (Try.prog.varReadable ·)) = true := by kernel_rfl
theorem jf19 : (Try.f16.resultTypes.all (fun t => Try.prog.readableRec t && decide (t < Try.prog.types.size))) = true := by kernel_rfl
theorem jf20 : ((Rows.fnExactCyclesOfRow.ifacesOut == Try.f16.resultTypes.toList.any (Try.prog.ifacesRec ·))) = true := by kernel_rfl
theorem jf21 : ((Rows.fnExactCyclesOfRow.loopsOut == Try.f16.resultTypes.toList.any (Try.prog.loopsFrom ·))) = true := by kernel_rfl
theorem jf23 : (Rows.fnExactCyclesOfRow.shortTexts.isNone) = true := by kernel_rfl
theorem jf28 : ((Rows.fnExactCyclesOfRow.kinds == (if Rows.fnExactCyclesOfRow.domain.isEmpty then [] else Try.f16.params.toList.map fun t => match Try.prog.underlying t with | some (.int k) => some k | _ => none))) = true := by kernel_rfl
theorem jf29 : ((Rows.fnExactCyclesOfRow.pinned == Rows.fnExactCyclesOfRow.pinnedBy)) = true := by kernel_rfl
theorem jf30 : ((Rows.fnExactCyclesOfRow.veiled == (Try.f16.params.toList ++ Rows.fnExactCyclesOfSpec.plain.varTypes Try.prog ++ Try.f16.resultTypes.toList).any (Try.prog.veiledRec ·))) = true := by kernel_rfl
theorem jf31 : (Rows.fnExactCyclesOfRow.veiledFits Try.prog Try.f16.params.toList (Try.f16.params.toList ++ Rows.fnExactCyclesOfSpec.plain.varTypes Try.prog ++ Try.f16.resultTypes.toList)) = true := by kernel_rfl
set_option maxRecDepth 100000 in
theorem closed : joinedFacts Try.prog 16 Try.f16 Rows.fnExactCyclesOfSpec Rows.fnExactCyclesOfRow = true := Jp.andT (Jp.andT (Jp.andT (Jp.andT (Jp.andT (Jp.andT (Jp.andT (Jp.andT (Jp.andT (Jp.andT (Jp.andT (Jp.andT (Jp.andT (Jp.andT (Jp.andT (Jp.andT (Jp.andT (Jp.andT (Jp.andT (Jp.andT (Jp.andT (Jp.andT (Jp.andT (Jp.andT (Jp.andT (Jp.andT (Jp.andT (Jp.andT (Jp.andT (Jp.andT (Jp.andT (jf0) Jp.jf1) Jp.jf2) jf3) jf4) jf5) Jp.jf6) jf7) Jp.jf8) jf9) jf10) jf11) jf12) jf13) jf14) jf15) jf16) jf17) jf18) jf19) jf20) jf21) Jp.jf22) jf23) Jp.jf24) Jp.jf25) Jp.jf26) Jp.jf27) jf28) jf29) jf30) jf31
theorem fname : Try.pinned.checked.prog.funcNamed Rows.fnExactCyclesOfRow.func = some 16 := by kernel_rfl
theorem params_ok : ∀ t ∈ Try.f16.params.toList, Try.prog.readableRec t = true ∧ t < Try.prog.types.size := by
  intro t ht
  have : t = 22 := by rw [Try.params16] at ht; simpa using ht
  subst this
  exact ⟨by kernel_rfl, of_decide_eq_true (by kernel_rfl)⟩
theorem results_ok : Try.f16.resultTypes = #[4] := by kernel_rfl
theorem cells2 : Try.prog.cellsOf 2 = 1 := by kernel_rfl
set_option maxRecDepth 100000 in
theorem lifted (os : Os) (started : os.Started) (H : Type) (enc : TypeId × Value → H) :
    ReturnsInHanded {} Try.checked os 16 .any (Rows.fnExactCyclesOfSpec.pre6 enc Try.prog Try.f16 Rows.fnExactCyclesOfRow.domain false) (Rows.fnExactCyclesOfSpec.post enc Try.prog Try.f16 false true false false) := by
  refine returnsInHanded_of_change (C := Try.checked) Jp.own started (by kernel_rfl) Try.func16
    (ChangeSpec.witness6 (enc := enc) (C := Try.checked) false ⟨#[], #[.slice none 0 0], []⟩ 8 (by kernel_rfl) (by kernel_rfl) (by kernel_rfl) (by kernel_rfl)) ?_
  intro W base args ds gs before hval0 hW hcnd _
  have hval : ∀ (j : Nat) t v, Try.f16.params[j]? = some t → args[j]? = some v → Value.okWide Try.prog W .any base t v := hval0
  have hW' := hW
  obtain ⟨p, q, hA0, hV, rfl, hfz, hnd⟩ := hW
  have hA : DataW.TrodAll enc Try.prog W 0 (fun _ => true) true Try.f16.params.toList args.toList ds p := hA0
  rw [Try.params16] at hA hval
  obtain ⟨v0, vs0, d0, ds0, p0, q0, hargs, rfl, rfl, h0, r0⟩ := trodAll_cons hA
  obtain ⟨rfl, rfl, rfl⟩ := trodAll_nil r0
  obtain rfl : args = #[v0] := by cases args; simp_all
  obtain ⟨rfl, rfl⟩ := trodVars_none hV
  obtain ⟨l0, hl0⟩ := open_lst Try.underlying22 Try.underlying2 cells2 (hval 0 22 v0 rfl rfl) h0
  have hwalk : Calls Try.prog 16 #[v0] W fun e w' => e = .returned (.bool true) ∧ Below W.heap.size W w' :=
    calls_V (φ := fun _ => ⟨0, 0, 0⟩) TT_ok (w16 l0) rfl (args := [.lst l0.length (ints l0)]) ⟨hl0 _, trivial⟩ rfl ⟨Scs_ints 0 l0, trivial⟩
  refine hwalk.mono fun e W' ⟨he, hg⟩ => ?_
  subst he
  exact ⟨_, rfl, post_law Jp.jf1 hW' rfl rfl params_ok results_ok Try.underlying4 hg⟩
theorem over : Rows.fnExactCyclesOfRow.holds Try.pinned (OpenSpec.ofChange Rows.fnExactCyclesOfSpec) :=
  OpenClaim.holds_of_wide 16 Try.f16 rfl rfl rfl rfl rfl rfl rfl ⟨rfl, rfl, rfl, rfl, rfl⟩ rfl rfl rfl rfl rfl fname Try.func16 closed
    (of_decide_eq_true (by kernel_rfl)) (by unfold Func.isWrapper; first | (rw [if_pos (by decide +kernel)]; kernel_rfl) | (rw [if_neg (by decide +kernel)]; exact ⟨rfl, rfl⟩))
    (fun os started H enc _ => lifted os started H enc)
theorem proved : Rows.FnExactCyclesOfSaid :=
  over
#print axioms proved
end Go.Proofs.Ytaniaeefijgaiaa.fnExactCyclesOf
