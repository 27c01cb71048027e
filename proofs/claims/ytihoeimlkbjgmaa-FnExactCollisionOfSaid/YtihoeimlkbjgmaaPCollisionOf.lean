/- The statement 'Rows.FnExactCollisionOfSaid': for all arguments the law returns true. No condition. -/
import Derived.Test.YtihoeimlkbjgmaaRows
import Derived.Test.YtihoeimlkbjgmaaJp
import Derived.WalkKit
import Derived.ProofKit
import Derived.OpenShut
import Derived.Test.YtihoeimlkbjgmaaAbsZ
import Derived.Test.YtihoeimlkbjgmaaQg
namespace Go.Proofs.Ytihoeimlkbjgmaa.fnExactCollisionOf
open Go.Abs Go.ChangeShapes Go.WideShapes Go.ChangeAt Go.RowKit
set_option linter.unusedVariables false
set_option linter.unusedSimpArgs false
theorem jf0 : (Rows.fnExactCollisionOfRow.wf (OpenSpec.ofChange Rows.fnExactCollisionOfSpec)) = true := by kernel_rfl
theorem jf3 : (Try.f7.params.all (Try.prog.readableRec ·)) = true := by kernel_rfl
theorem jf4 : (namedTie Try.prog Rows.fnExactCollisionOfRow.named Rows.fnExactCollisionOfSpec.vars) = true := by kernel_rfl
theorem jf5 : ((Rows.fnExactCollisionOfRow.stops == [])) = true := by kernel_rfl
theorem jf7 : ((Rows.fnExactCollisionOfRow.knobs == [])) = true := by kernel_rfl
theorem jf9 : ((Rows.fnExactCollisionOfRow.inPlace == Try.prog.inPlace 7)) = true := by kernel_rfl
theorem jf10 : ((Rows.fnExactCollisionOfRow.unfollowed == Try.prog.unfollowed 7)) = true := by kernel_rfl
theorem jf11 : ((Rows.fnExactCollisionOfRow.recurses == Try.prog.recurses 7)) = true := by kernel_rfl
theorem jf12 : ((Rows.fnExactCollisionOfRow.named == Try.prog.varsNamed 7)) = true := by kernel_rfl
theorem jf13 : ((Rows.fnExactCollisionOfRow.maps == (Try.f7.params.toList ++ Rows.fnExactCollisionOfSpec.plain.varTypes Try.prog).any (Try.prog.mapsRec ·))) = true := by kernel_rfl
theorem jf14 : ((Rows.fnExactCollisionOfRow.ifaces == (Try.f7.params.toList ++ Rows.fnExactCollisionOfSpec.plain.varTypes Try.prog).any (Try.prog.ifacesRec ·))) = true := by kernel_rfl
theorem jf15 : ((Rows.fnExactCollisionOfRow.mapsOut == Try.prog.mapsAmong Try.f7.resultTypes.toList)) = true := by kernel_rfl
theorem jf16 : ((Rows.fnExactCollisionOfRow.loops == (Try.f7.params.toList ++ Rows.fnExactCollisionOfSpec.plain.varTypes Try.prog).any (Try.prog.loopsFrom ·))) = true := by kernel_rfl
theorem jf17 : ((Rows.fnExactCollisionOfRow.wideKeys == (Try.f7.params.toList ++ Rows.fnExactCollisionOfSpec.plain.varTypes Try.prog ++ Try.f7.resultTypes.toList).any (Try.prog.wideKeysFrom ·))) = true := by kernel_rfl
theorem jf18 : (Rows.fnExactCollisionOfSpec.vars.all (Try.prog.varReadable ·)) = true := by kernel_rfl
theorem jf19 : (Try.f7.resultTypes.all (fun t => Try.prog.readableRec t && decide (t < Try.prog.types.size))) = true := by kernel_rfl
theorem jf20 : ((Rows.fnExactCollisionOfRow.ifacesOut == Try.f7.resultTypes.toList.any (Try.prog.ifacesRec ·))) = true := by kernel_rfl
theorem jf21 : ((Rows.fnExactCollisionOfRow.loopsOut == Try.f7.resultTypes.toList.any (Try.prog.loopsFrom ·))) = true := by kernel_rfl
theorem jf23 : (Rows.fnExactCollisionOfRow.shortTexts.isNone) = true := by kernel_rfl
theorem jf28 : ((Rows.fnExactCollisionOfRow.kinds == (if Rows.fnExactCollisionOfRow.domain.isEmpty then [] else Try.f7.params.toList.map fun t => match Try.prog.underlying t with | some (.int k) => some k | _ => none))) = true := by kernel_rfl
theorem jf29 : ((Rows.fnExactCollisionOfRow.pinned == Rows.fnExactCollisionOfRow.pinnedBy)) = true := by kernel_rfl
theorem jf30 : ((Rows.fnExactCollisionOfRow.veiled == (Try.f7.params.toList ++ Rows.fnExactCollisionOfSpec.plain.varTypes Try.prog ++ Try.f7.resultTypes.toList).any (Try.prog.veiledRec ·))) = true := by kernel_rfl
theorem jf31 : (Rows.fnExactCollisionOfRow.veiledFits Try.prog Try.f7.params.toList (Try.f7.params.toList ++ Rows.fnExactCollisionOfSpec.plain.varTypes Try.prog ++ Try.f7.resultTypes.toList)) = true := by kernel_rfl
set_option maxRecDepth 100000 in
theorem closed : joinedFacts Try.prog 7 Try.f7 Rows.fnExactCollisionOfSpec Rows.fnExactCollisionOfRow = true := Jp.andT (Jp.andT (Jp.andT (Jp.andT (Jp.andT (Jp.andT (Jp.andT (Jp.andT (Jp.andT (Jp.andT (Jp.andT (Jp.andT (Jp.andT (Jp.andT (Jp.andT (Jp.andT (Jp.andT (Jp.andT (Jp.andT (Jp.andT (Jp.andT (Jp.andT (Jp.andT (Jp.andT (Jp.andT (Jp.andT (Jp.andT (Jp.andT (Jp.andT (Jp.andT (Jp.andT (jf0) Jp.jf1) Jp.jf2) jf3) jf4) jf5) Jp.jf6) jf7) Jp.jf8) jf9) jf10) jf11) jf12) jf13) jf14) jf15) jf16) jf17) jf18) jf19) jf20) jf21) Jp.jf22) jf23) Jp.jf24) Jp.jf25) Jp.jf26) Jp.jf27) jf28) jf29) jf30) jf31
theorem fname : Try.pinned.checked.prog.funcNamed Rows.fnExactCollisionOfRow.func = some 7 := by kernel_rfl
theorem params_ok : ∀ t ∈ Try.f7.params.toList, Try.prog.readableRec t = true ∧ t < Try.prog.types.size := by
  intro t ht
  have : t = 22 := by rw [Try.params7] at ht; simpa using ht
  subst this
  exact ⟨by kernel_rfl, of_decide_eq_true (by kernel_rfl)⟩
theorem results_ok : Try.f7.resultTypes = #[4] := by kernel_rfl
theorem sh22 : shOf Try.prog 4 22 = some [.sl [.int .i64, .int .i64]] := by kernel_rfl
set_option maxRecDepth 100000 in
theorem lifted (os : Os) (started : os.Started) (H : Type) (enc : TypeId × Value → H) :
    ReturnsInHanded {} Try.checked os 7 .any (Rows.fnExactCollisionOfSpec.pre6 enc Try.prog Try.f7 Rows.fnExactCollisionOfRow.domain false) (Rows.fnExactCollisionOfSpec.post enc Try.prog Try.f7 false true false false) := by
  refine returnsInHanded_of_change (C := Try.checked) Jp.own started (by kernel_rfl) Try.func7
    (ChangeSpec.witness6 (enc := enc) (C := Try.checked) false ⟨#[], #[.slice none 0 0], []⟩ 8 (by kernel_rfl) (by kernel_rfl) (by kernel_rfl) (by kernel_rfl)) ?_
  intro W base args ds gs before hval0 hW hcnd _
  have hval : ∀ (j : Nat) t v, Try.f7.params[j]? = some t → args[j]? = some v → Value.okWide Try.prog W .any base t v := hval0
  have hW' := hW
  obtain ⟨p, q, hA0, hV, rfl, hfz, hnd⟩ := hW
  have hA : DataW.TrodAll enc Try.prog W 0 (fun _ => true) true Try.f7.params.toList args.toList ds p := hA0
  rw [Try.params7] at hA hval
  obtain ⟨v0, vs0, d0, ds0, p0, q0, hargs, rfl, rfl, h0, r0⟩ := trodAll_cons hA
  obtain ⟨rfl, rfl, rfl⟩ := trodAll_nil r0
  obtain rfl : args = #[v0] := by cases args; simp_all
  obtain ⟨rfl, rfl⟩ := trodVars_none hV
  obtain ⟨a00, n00, m00, rfl⟩ := okWide_slice Try.underlying22 (hval 0 22 v0 rfl rfl)
  obtain ⟨xs0, hf0, hs0, hv0⟩ := open_cell sh22 (slice_cells _ _ _) h0
  obtain ⟨l0, rfl, hb0⟩ := fits_frs hf0
  have hwalk : Calls Try.prog 7 #[.slice a00 n00 m00] W fun e w' => e = .returned (.bool true) ∧ Below W.heap.size W w' :=
    calls_V (φ := fun _ => ⟨0, 0, 0⟩) TT_ok (w7 l0 hb0) rfl (args := [FS l0]) ⟨hv0 _, trivial⟩ rfl ⟨hs0, trivial⟩
  refine hwalk.mono fun e W' ⟨he, hg⟩ => ?_
  subst he
  exact ⟨_, rfl, post_law Jp.jf1 hW' rfl rfl params_ok results_ok Try.underlying4 hg⟩
theorem over : Rows.fnExactCollisionOfRow.holds Try.pinned (OpenSpec.ofChange Rows.fnExactCollisionOfSpec) :=
  OpenClaim.holds_of_wide 7 Try.f7 rfl rfl rfl rfl rfl rfl rfl ⟨rfl, rfl, rfl, rfl, rfl⟩ rfl rfl rfl rfl rfl fname Try.func7 closed
    (of_decide_eq_true (by kernel_rfl)) (by unfold Func.isWrapper; first | (rw [if_pos (by decide +kernel)]; kernel_rfl) | (rw [if_neg (by decide +kernel)]; exact ⟨rfl, rfl⟩))
    (fun os started H enc _ => lifted os started H enc)
theorem proved : Rows.FnExactCollisionOfSaid :=
  over
#print axioms proved
end Go.Proofs.Ytihoeimlkbjgmaa.fnExactCollisionOf
