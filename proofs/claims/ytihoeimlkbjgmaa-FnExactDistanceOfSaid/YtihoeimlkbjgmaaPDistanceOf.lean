/- The statement 'Rows.FnExactDistanceOfSaid': for all arguments the law returns true. No condition. -/
import Derived.Test.YtihoeimlkbjgmaaRows
import Derived.Test.YtihoeimlkbjgmaaJp
import Derived.WalkKit
import Derived.ProofKit
import Derived.OpenShut
import Derived.Test.YtihoeimlkbjgmaaAbsZ
import Derived.Test.YtihoeimlkbjgmaaQf
namespace Go.Proofs.Ytihoeimlkbjgmaa.fnExactDistanceOf
open Go.Abs Go.ChangeShapes Go.WideShapes Go.ChangeAt Go.RowKit
set_option linter.unusedVariables false
set_option linter.unusedSimpArgs false
theorem jf0 : (Rows.fnExactDistanceOfRow.wf (OpenSpec.ofChange Rows.fnExactDistanceOfSpec)) = true := by kernel_rfl
theorem jf3 : (Try.f6.params.all (Try.prog.readableRec ·)) = true := by kernel_rfl
theorem jf4 : (namedTie Try.prog Rows.fnExactDistanceOfRow.named Rows.fnExactDistanceOfSpec.vars) = true := by kernel_rfl
theorem jf5 : ((Rows.fnExactDistanceOfRow.stops == [])) = true := by kernel_rfl
theorem jf7 : ((Rows.fnExactDistanceOfRow.knobs == [])) = true := by kernel_rfl
theorem jf9 : ((Rows.fnExactDistanceOfRow.inPlace == Try.prog.inPlace 6)) = true := by kernel_rfl
theorem jf10 : ((Rows.fnExactDistanceOfRow.unfollowed == Try.prog.unfollowed 6)) = true := by kernel_rfl
theorem jf11 : ((Rows.fnExactDistanceOfRow.recurses == Try.prog.recurses 6)) = true := by kernel_rfl
theorem jf12 : ((Rows.fnExactDistanceOfRow.named == Try.prog.varsNamed 6)) = true := by kernel_rfl
theorem jf13 : ((Rows.fnExactDistanceOfRow.maps == (Try.f6.params.toList ++ Rows.fnExactDistanceOfSpec.plain.varTypes Try.prog).any (Try.prog.mapsRec ·))) = true := by kernel_rfl
theorem jf14 : ((Rows.fnExactDistanceOfRow.ifaces == (Try.f6.params.toList ++ Rows.fnExactDistanceOfSpec.plain.varTypes Try.prog).any (Try.prog.ifacesRec ·))) = true := by kernel_rfl
theorem jf15 : ((Rows.fnExactDistanceOfRow.mapsOut == Try.prog.mapsAmong Try.f6.resultTypes.toList)) = true := by kernel_rfl
theorem jf16 : ((Rows.fnExactDistanceOfRow.loops == (Try.f6.params.toList ++ Rows.fnExactDistanceOfSpec.plain.varTypes Try.prog).any (Try.prog.loopsFrom ·))) = true := by kernel_rfl
theorem jf17 : ((Rows.fnExactDistanceOfRow.wideKeys == (Try.f6.params.toList ++ Rows.fnExactDistanceOfSpec.plain.varTypes Try.prog ++ Try.f6.resultTypes.toList).any (Try.prog.wideKeysFrom ·))) = true := by kernel_rfl
theorem jf18 : (Rows.fnExactDistanceOfSpec.vars.all (Try.prog.varReadable ·)) = true := by kernel_rfl
theorem jf19 : (Try.f6.resultTypes.all (fun t => Try.prog.readableRec t && decide (t < Try.prog.types.size))) = true := by kernel_rfl
theorem jf20 : ((Rows.fnExactDistanceOfRow.ifacesOut == Try.f6.resultTypes.toList.any (Try.prog.ifacesRec ·))) = true := by kernel_rfl
theorem jf21 : ((Rows.fnExactDistanceOfRow.loopsOut == Try.f6.resultTypes.toList.any (Try.prog.loopsFrom ·))) = true := by kernel_rfl
theorem jf23 : (Rows.fnExactDistanceOfRow.shortTexts.isNone) = true := by kernel_rfl
theorem jf28 : ((Rows.fnExactDistanceOfRow.kinds == (if Rows.fnExactDistanceOfRow.domain.isEmpty then [] else Try.f6.params.toList.map fun t => match Try.prog.underlying t with | some (.int k) => some k | _ => none))) = true := by kernel_rfl
theorem jf29 : ((Rows.fnExactDistanceOfRow.pinned == Rows.fnExactDistanceOfRow.pinnedBy)) = true := by kernel_rfl
theorem jf30 : ((Rows.fnExactDistanceOfRow.veiled == (Try.f6.params.toList ++ Rows.fnExactDistanceOfSpec.plain.varTypes Try.prog ++ Try.f6.resultTypes.toList).any (Try.prog.veiledRec ·))) = true := by kernel_rfl
theorem jf31 : (Rows.fnExactDistanceOfRow.veiledFits Try.prog Try.f6.params.toList (Try.f6.params.toList ++ Rows.fnExactDistanceOfSpec.plain.varTypes Try.prog ++ Try.f6.resultTypes.toList)) = true := by kernel_rfl
set_option maxRecDepth 100000 in
theorem closed : joinedFacts Try.prog 6 Try.f6 Rows.fnExactDistanceOfSpec Rows.fnExactDistanceOfRow = true := Jp.andT (Jp.andT (Jp.andT (Jp.andT (Jp.andT (Jp.andT (Jp.andT (Jp.andT (Jp.andT (Jp.andT (Jp.andT (Jp.andT (Jp.andT (Jp.andT (Jp.andT (Jp.andT (Jp.andT (Jp.andT (Jp.andT (Jp.andT (Jp.andT (Jp.andT (Jp.andT (Jp.andT (Jp.andT (Jp.andT (Jp.andT (Jp.andT (Jp.andT (Jp.andT (Jp.andT (jf0) Jp.jf1) Jp.jf2) jf3) jf4) jf5) Jp.jf6) jf7) Jp.jf8) jf9) jf10) jf11) jf12) jf13) jf14) jf15) jf16) jf17) jf18) jf19) jf20) jf21) Jp.jf22) jf23) Jp.jf24) Jp.jf25) Jp.jf26) Jp.jf27) jf28) jf29) jf30) jf31
theorem fname : Try.pinned.checked.prog.funcNamed Rows.fnExactDistanceOfRow.func = some 6 := by kernel_rfl
theorem params_ok : ∀ t ∈ Try.f6.params.toList, Try.prog.readableRec t = true ∧ t < Try.prog.types.size := by
  intro t ht
  have : t = 22 := by rw [Try.params6] at ht; simpa using ht
  subst this
  exact ⟨by kernel_rfl, of_decide_eq_true (by kernel_rfl)⟩
theorem results_ok : Try.f6.resultTypes = #[4] := by kernel_rfl
theorem sh22 : shOf Try.prog 4 22 = some [.sl [.int .i64, .int .i64]] := by kernel_rfl
set_option maxRecDepth 100000 in
theorem lifted (os : Os) (started : os.Started) (H : Type) (enc : TypeId × Value → H) :
    ReturnsInHanded {} Try.checked os 6 .any (Rows.fnExactDistanceOfSpec.pre6 enc Try.prog Try.f6 Rows.fnExactDistanceOfRow.domain false) (Rows.fnExactDistanceOfSpec.post enc Try.prog Try.f6 false true false false) := by
  refine returnsInHanded_of_change (C := Try.checked) Jp.own started (by kernel_rfl) Try.func6
    (ChangeSpec.witness6 (enc := enc) (C := Try.checked) false ⟨#[], #[.slice none 0 0, .slice none 0 0], []⟩ 8 (by kernel_rfl) (by kernel_rfl) (by kernel_rfl) (by kernel_rfl)) ?_
  intro W base args ds gs before hval0 hW hcnd _
  have hval : ∀ (j : Nat) t v, Try.f6.params[j]? = some t → args[j]? = some v → Value.okWide Try.prog W .any base t v := hval0
  have hW' := hW
  obtain ⟨p, q, hA0, hV, rfl, hfz, hnd⟩ := hW
  have hA : DataW.TrodAll enc Try.prog W 0 (fun _ => true) true Try.f6.params.toList args.toList ds p := hA0
  rw [Try.params6] at hA hval
  obtain ⟨v0, vs0, d0, ds0, p0, q0, hargs, rfl, rfl, h0, r0⟩ := trodAll_cons hA
  obtain ⟨v1, vs1, d1, ds1, p1, q1, rfl, rfl, rfl, h1, r1⟩ := trodAll_cons r0
  obtain ⟨rfl, rfl, rfl⟩ := trodAll_nil r1
  obtain rfl : args = #[v0, v1] := by cases args; simp_all
  obtain ⟨rfl, rfl⟩ := trodVars_none hV
  obtain ⟨a00, n00, m00, rfl⟩ := okWide_slice Try.underlying22 (hval 0 22 v0 rfl rfl)
  obtain ⟨xs0, hf0, hs0, hv0⟩ := open_cell sh22 (slice_cells _ _ _) h0
  obtain ⟨l0, rfl, hb0⟩ := fits_frs hf0
  obtain ⟨a01, n01, m01, rfl⟩ := okWide_slice Try.underlying22 (hval 1 22 v1 rfl rfl)
  obtain ⟨xs1, hf1, hs1, hv1⟩ := open_cell sh22 (slice_cells _ _ _) h1
  obtain ⟨l1, rfl, hb1⟩ := fits_frs hf1
  have hwalk : Calls Try.prog 6 #[.slice a00 n00 m00, .slice a01 n01 m01] W fun e w' => e = .returned (.bool true) ∧ Below W.heap.size W w' :=
    calls_V (φ := fun _ => ⟨0, 0, 0⟩) TT_ok (w6 l0 hb0 l1 hb1) rfl (args := [FS l0, FS l1]) ⟨hv0 _, ⟨hv1 _, trivial⟩⟩ rfl ⟨hs0, ⟨hs1, trivial⟩⟩
  refine hwalk.mono fun e W' ⟨he, hg⟩ => ?_
  subst he
  exact ⟨_, rfl, post_law Jp.jf1 hW' rfl rfl params_ok results_ok Try.underlying4 hg⟩
theorem over : Rows.fnExactDistanceOfRow.holds Try.pinned (OpenSpec.ofChange Rows.fnExactDistanceOfSpec) :=
  OpenClaim.holds_of_wide 6 Try.f6 rfl rfl rfl rfl rfl rfl rfl ⟨rfl, rfl, rfl, rfl, rfl⟩ rfl rfl rfl rfl rfl fname Try.func6 closed
    (of_decide_eq_true (by kernel_rfl)) (by unfold Func.isWrapper; first | (rw [if_pos (by decide +kernel)]; kernel_rfl) | (rw [if_neg (by decide +kernel)]; exact ⟨rfl, rfl⟩))
    (fun os started H enc _ => lifted os started H enc)
theorem proved : Rows.FnExactDistanceOfSaid :=
  over
#print axioms proved
end Go.Proofs.Ytihoeimlkbjgmaa.fnExactDistanceOf
