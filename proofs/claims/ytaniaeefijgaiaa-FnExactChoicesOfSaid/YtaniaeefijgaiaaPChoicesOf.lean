/- The statement 'Rows.FnExactChoicesOfSaid': for all arguments the law returns true. No condition. -/
import Derived.Test.YtaniaeefijgaiaaRows
import Derived.Test.YtaniaeefijgaiaaJp
import Derived.WalkKit
import Derived.ProofKit
import Derived.OpenShut
import Derived.Test.YtaniaeefijgaiaaAbsZ
import Derived.Test.YtaniaeefijgaiaaDh
namespace Go.Proofs.Ytaniaeefijgaiaa.fnExactChoicesOf
open Go.Abs Go.ChangeShapes Go.WideShapes Go.ChangeAt Go.RowKit
set_option linter.unusedVariables false
set_option linter.unusedSimpArgs false
theorem jf0 : (Rows.fnExactChoicesOfRow.wf (OpenSpec.ofChange Rows.fnExactChoicesOfSpec)) = true := by kernel_rfl
theorem jf3 : (Try.f15.params.all (Try.prog.readableRec ·)) = true := by kernel_rfl
theorem jf4 : (namedTie Try.prog Rows.fnExactChoicesOfRow.named Rows.fnExactChoicesOfSpec.vars) = true := by kernel_rfl
theorem jf5 : ((Rows.fnExactChoicesOfRow.stops == [])) = true := by kernel_rfl
theorem jf7 : ((Rows.fnExactChoicesOfRow.knobs == [])) = true := by kernel_rfl
theorem jf9 : ((Rows.fnExactChoicesOfRow.inPlace == Try.prog.inPlace 15)) = true := by kernel_rfl
theorem jf10 : ((Rows.fnExactChoicesOfRow.unfollowed == Try.prog.unfollowed 15)) = true := by kernel_rfl
theorem jf11 : ((Rows.fnExactChoicesOfRow.recurses == Try.prog.recurses 15)) = true := by kernel_rfl
theorem jf12 : ((Rows.fnExactChoicesOfRow.named == Try.prog.varsNamed 15)) = true := by kernel_rfl
theorem jf13 : ((Rows.fnExactChoicesOfRow.maps == (Try.f15.params.toList ++ Rows.fnExactChoicesOfSpec.plain.varTypes Try.prog).any (Try.prog.mapsRec ·))) = true := by kernel_rfl
theorem jf14 : ((Rows.fnExactChoicesOfRow.ifaces == (Try.f15.params.toList ++ Rows.fnExactChoicesOfSpec.plain.varTypes Try.prog).any (Try.prog.ifacesRec ·))) = true := by kernel_rfl
theorem jf15 : ((Rows.fnExactChoicesOfRow.mapsOut == Try.prog.mapsAmong Try.f15.resultTypes.toList)) = true := by kernel_rfl
theorem jf16 : ((Rows.fnExactChoicesOfRow.loops == (Try.f15.params.toList ++ Rows.fnExactChoicesOfSpec.plain.varTypes Try.prog).any (Try.prog.loopsFrom ·))) = true := by kernel_rfl
theorem jf17 : ((Rows.fnExactChoicesOfRow.wideKeys == (Try.f15.params.toList ++ Rows.fnExactChoicesOfSpec.plain.varTypes Try.prog ++ Try.f15.resultTypes.toList).any (Try.prog.wideKeysFrom ·))) = true := by kernel_rfl
theorem jf18 : (Rows.fnExactChoicesOfSpec.vars.all (Try.prog.varReadable ·)) = true := by kernel_rfl
theorem jf19 : (Try.f15.resultTypes.all (fun t => Try.prog.readableRec t && decide (t < Try.prog.types.size))) = true := by kernel_rfl
theorem jf20 : ((Rows.fnExactChoicesOfRow.ifacesOut == Try.f15.resultTypes.toList.any (Try.prog.ifacesRec ·))) = true := by kernel_rfl
theorem jf21 : ((Rows.fnExactChoicesOfRow.loopsOut == Try.f15.resultTypes.toList.any (Try.prog.loopsFrom ·))) = true := by kernel_rfl
theorem jf23 : (Rows.fnExactChoicesOfRow.shortTexts.isNone) = true := by kernel_rfl
theorem jf28 : ((Rows.fnExactChoicesOfRow.kinds == (if Rows.fnExactChoicesOfRow.domain.isEmpty then [] else Try.f15.params.toList.map fun t => match Try.prog.underlying t with | some (.int k) => some k | _ => none))) = true := by kernel_rfl
theorem jf29 : ((Rows.fnExactChoicesOfRow.pinned == Rows.fnExactChoicesOfRow.pinnedBy)) = true := by kernel_rfl
theorem jf30 : ((Rows.fnExactChoicesOfRow.veiled == (Try.f15.params.toList ++ Rows.fnExactChoicesOfSpec.plain.varTypes Try.prog ++ Try.f15.resultTypes.toList).any (Try.prog.veiledRec ·))) = true := by kernel_rfl
theorem jf31 : (Rows.fnExactChoicesOfRow.veiledFits Try.prog Try.f15.params.toList (Try.f15.params.toList ++ Rows.fnExactChoicesOfSpec.plain.varTypes Try.prog ++ Try.f15.resultTypes.toList)) = true := by kernel_rfl
set_option maxRecDepth 100000 in
theorem closed : joinedFacts Try.prog 15 Try.f15 Rows.fnExactChoicesOfSpec Rows.fnExactChoicesOfRow = true := Jp.andT (Jp.andT (Jp.andT (Jp.andT (Jp.andT (Jp.andT (Jp.andT (Jp.andT (Jp.andT (Jp.andT (Jp.andT (Jp.andT (Jp.andT (Jp.andT (Jp.andT (Jp.andT (Jp.andT (Jp.andT (Jp.andT (Jp.andT (Jp.andT (Jp.andT (Jp.andT (Jp.andT (Jp.andT (Jp.andT (Jp.andT (Jp.andT (Jp.andT (Jp.andT (Jp.andT (jf0) Jp.jf1) Jp.jf2) jf3) jf4) jf5) Jp.jf6) jf7) Jp.jf8) jf9) jf10) jf11) jf12) jf13) jf14) jf15) jf16) jf17) jf18) jf19) jf20) jf21) Jp.jf22) jf23) Jp.jf24) Jp.jf25) Jp.jf26) Jp.jf27) jf28) jf29) jf30) jf31
theorem fname : Try.pinned.checked.prog.funcNamed Rows.fnExactChoicesOfRow.func = some 15 := by kernel_rfl
theorem params_ok : ∀ t ∈ Try.f15.params.toList, Try.prog.readableRec t = true ∧ t < Try.prog.types.size := by
  intro t ht
  have : t = 22 := by rw [Try.params15] at ht; simpa using ht
  subst this
  exact ⟨by kernel_rfl, of_decide_eq_true (by kernel_rfl)⟩
theorem results_ok : Try.f15.resultTypes = #[4] := by kernel_rfl
theorem cells2 : Try.prog.cellsOf 2 = 1 := by kernel_rfl
set_option maxRecDepth 100000 in
theorem lifted (os : Os) (started : os.Started) (H : Type) (enc : TypeId × Value → H) :
    ReturnsInHanded {} Try.checked os 15 .any (Rows.fnExactChoicesOfSpec.pre6 enc Try.prog Try.f15 Rows.fnExactChoicesOfRow.domain false) (Rows.fnExactChoicesOfSpec.post enc Try.prog Try.f15 false true false false) := by
  refine returnsInHanded_of_change (C := Try.checked) Jp.own started (by kernel_rfl) Try.func15
    (ChangeSpec.witness6 (enc := enc) (C := Try.checked) false ⟨#[], #[.slice none 0 0], []⟩ 8 (by kernel_rfl) (by kernel_rfl) (by kernel_rfl) (by kernel_rfl)) ?_
  intro W base args ds gs before hval0 hW hcnd _
  have hval : ∀ (j : Nat) t v, Try.f15.params[j]? = some t → args[j]? = some v → Value.okWide Try.prog W .any base t v := hval0
  have hW' := hW
  obtain ⟨p, q, hA0, hV, rfl, hfz, hnd⟩ := hW
  have hA : DataW.TrodAll enc Try.prog W 0 (fun _ => true) true Try.f15.params.toList args.toList ds p := hA0
  rw [Try.params15] at hA hval
  obtain ⟨v0, vs0, d0, ds0, p0, q0, hargs, rfl, rfl, h0, r0⟩ := trodAll_cons hA
  obtain ⟨rfl, rfl, rfl⟩ := trodAll_nil r0
  obtain rfl : args = #[v0] := by cases args; simp_all
  obtain ⟨rfl, rfl⟩ := trodVars_none hV
  obtain ⟨l0, hl0⟩ := open_lst Try.underlying22 Try.underlying2 cells2 (hval 0 22 v0 rfl rfl) h0
  have hwalk : Calls Try.prog 15 #[v0] W fun e w' => e = .returned (.bool true) ∧ Below W.heap.size W w' :=
    calls_V (φ := fun _ => ⟨0, 0, 0⟩) TT_ok (w15 (.lst l0.length (ints l0)) l0 (Or.inl rfl)) rfl (args := [.lst l0.length (ints l0)]) ⟨hl0 _, trivial⟩ rfl ⟨Scs_ints 0 l0, trivial⟩
  refine hwalk.mono fun e W' ⟨he, hg⟩ => ?_
  subst he
  exact ⟨_, rfl, post_law Jp.jf1 hW' rfl rfl params_ok results_ok Try.underlying4 hg⟩
theorem over : Rows.fnExactChoicesOfRow.holds Try.pinned (OpenSpec.ofChange Rows.fnExactChoicesOfSpec) :=
  OpenClaim.holds_of_wide 15 Try.f15 rfl rfl rfl rfl rfl rfl rfl ⟨rfl, rfl, rfl, rfl, rfl⟩ rfl rfl rfl rfl rfl fname Try.func15 closed
    (of_decide_eq_true (by kernel_rfl)) (by unfold Func.isWrapper; first | (rw [if_pos (by decide +kernel)]; kernel_rfl) | (rw [if_neg (by decide +kernel)]; exact ⟨rfl, rfl⟩))
    (fun os started H enc _ => lifted os started H enc)
theorem proved : Rows.FnExactChoicesOfSaid :=
  over
#print axioms proved
end Go.Proofs.Ytaniaeefijgaiaa.fnExactChoicesOf
