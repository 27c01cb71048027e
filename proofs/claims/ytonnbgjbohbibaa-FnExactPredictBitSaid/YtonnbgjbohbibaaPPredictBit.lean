/- The statement 'Rows.FnExactPredictBitSaid': for all arguments the law returns true. No condition. -/
import Derived.Test.YtonnbgjbohbibaaRows
import Derived.Test.YtonnbgjbohbibaaJp
import Derived.WalkKit
import Derived.ProofKit
import Derived.OpenShut
import Derived.Test.YtonnbgjbohbibaaAbsZ
import Derived.Test.YtonnbgjbohbibaaFa
namespace Go.Proofs.Ytonnbgjbohbibaa.fnExactPredictBit
open Go.Abs Go.ChangeShapes Go.WideShapes Go.ChangeAt Go.RowKit
set_option linter.unusedVariables false
set_option linter.unusedSimpArgs false
theorem jf0 : (Rows.fnExactPredictBitRow.wf (OpenSpec.ofChange Rows.fnExactPredictBitSpec)) = true := by kernel_rfl
theorem jf3 : (Try.f20.params.all (Try.prog.readableRec ·)) = true := by kernel_rfl
theorem jf4 : (namedTie Try.prog Rows.fnExactPredictBitRow.named Rows.fnExactPredictBitSpec.vars) = true := by kernel_rfl
theorem jf5 : ((Rows.fnExactPredictBitRow.stops == [])) = true := by kernel_rfl
theorem jf7 : ((Rows.fnExactPredictBitRow.knobs == [])) = true := by kernel_rfl
theorem jf9 : ((Rows.fnExactPredictBitRow.inPlace == Try.prog.inPlace 20)) = true := by kernel_rfl
theorem jf10 : ((Rows.fnExactPredictBitRow.unfollowed == Try.prog.unfollowed 20)) = true := by kernel_rfl
theorem jf11 : ((Rows.fnExactPredictBitRow.recurses == Try.prog.recurses 20)) = true := by kernel_rfl
theorem jf12 : ((Rows.fnExactPredictBitRow.named == Try.prog.varsNamed 20)) = true := by kernel_rfl
theorem jf13 : ((Rows.fnExactPredictBitRow.maps == (Try.f20.params.toList ++ Rows.fnExactPredictBitSpec.plain.varTypes Try.prog).any (Try.prog.mapsRec ·))) = true := by kernel_rfl
theorem jf14 : ((Rows.fnExactPredictBitRow.ifaces == (Try.f20.params.toList ++ Rows.fnExactPredictBitSpec.plain.varTypes Try.prog).any (Try.prog.ifacesRec ·))) = true := by kernel_rfl
theorem jf15 : ((Rows.fnExactPredictBitRow.mapsOut == Try.prog.mapsAmong Try.f20.resultTypes.toList)) = true := by kernel_rfl
theorem jf16 : ((Rows.fnExactPredictBitRow.loops == (Try.f20.params.toList ++ Rows.fnExactPredictBitSpec.plain.varTypes Try.prog).any (Try.prog.loopsFrom ·))) = true := by kernel_rfl
theorem jf17 : ((Rows.fnExactPredictBitRow.wideKeys == (Try.f20.params.toList ++ Rows.fnExactPredictBitSpec.plain.varTypes Try.prog ++ Try.f20.resultTypes.toList).any (Try.prog.wideKeysFrom ·))) = true := by kernel_rfl
theorem jf18 : (Rows.fnExactPredictBitSpec.vars.all (Try.prog.varReadable ·)) = true := by kernel_rfl
theorem jf19 : (Try.f20.resultTypes.all (fun t => Try.prog.readableRec t && decide (t < Try.prog.types.size))) = true := by kernel_rfl
theorem jf20 : ((Rows.fnExactPredictBitRow.ifacesOut == Try.f20.resultTypes.toList.any (Try.prog.ifacesRec ·))) = true := by kernel_rfl
theorem jf21 : ((Rows.fnExactPredictBitRow.loopsOut == Try.f20.resultTypes.toList.any (Try.prog.loopsFrom ·))) = true := by kernel_rfl
theorem jf23 : (Rows.fnExactPredictBitRow.shortTexts.isNone) = true := by kernel_rfl
theorem jf28 : ((Rows.fnExactPredictBitRow.kinds == (if Rows.fnExactPredictBitRow.domain.isEmpty then [] else Try.f20.params.toList.map fun t => match Try.prog.underlying t with | some (.int k) => some k | _ => none))) = true := by kernel_rfl
theorem jf29 : ((Rows.fnExactPredictBitRow.pinned == Rows.fnExactPredictBitRow.pinnedBy)) = true := by kernel_rfl
theorem jf30 : ((Rows.fnExactPredictBitRow.veiled == (Try.f20.params.toList ++ Rows.fnExactPredictBitSpec.plain.varTypes Try.prog ++ Try.f20.resultTypes.toList).any (Try.prog.veiledRec ·))) = true := by kernel_rfl
theorem jf31 : (Rows.fnExactPredictBitRow.veiledFits Try.prog Try.f20.params.toList (Try.f20.params.toList ++ Rows.fnExactPredictBitSpec.plain.varTypes Try.prog ++ Try.f20.resultTypes.toList)) = true := by kernel_rfl
set_option maxRecDepth 100000 in
theorem closed : joinedFacts Try.prog 20 Try.f20 Rows.fnExactPredictBitSpec Rows.fnExactPredictBitRow = true := Jp.andT (Jp.andT (Jp.andT (Jp.andT (Jp.andT (Jp.andT (Jp.andT (Jp.andT (Jp.andT (Jp.andT (Jp.andT (Jp.andT (Jp.andT (Jp.andT (Jp.andT (Jp.andT (Jp.andT (Jp.andT (Jp.andT (Jp.andT (Jp.andT (Jp.andT (Jp.andT (Jp.andT (Jp.andT (Jp.andT (Jp.andT (Jp.andT (Jp.andT (Jp.andT (Jp.andT (jf0) Jp.jf1) Jp.jf2) jf3) jf4) jf5) Jp.jf6) jf7) Jp.jf8) jf9) jf10) jf11) jf12) jf13) jf14) jf15) jf16) jf17) jf18) jf19) jf20) jf21) Jp.jf22) jf23) Jp.jf24) Jp.jf25) Jp.jf26) Jp.jf27) jf28) jf29) jf30) jf31
theorem fname : Try.pinned.checked.prog.funcNamed Rows.fnExactPredictBitRow.func = some 20 := by kernel_rfl
theorem params_ok : ∀ t ∈ Try.f20.params.toList, Try.prog.readableRec t = true ∧ t < Try.prog.types.size := by
  intro t ht
  have : t = 38 ∨ t = 80 ∨ t = 2 := by rw [Try.params20] at ht; simpa using ht
  rcases this with rfl | rfl | rfl <;> exact ⟨by kernel_rfl, of_decide_eq_true (by kernel_rfl)⟩
theorem results_ok : Try.f20.resultTypes = #[4] := by kernel_rfl
theorem sh38 : shOf Try.prog 4 38 = some [.int .i64, .sl [.int .i64], .int .i64] := by kernel_rfl
theorem sh80 : shOf Try.prog 4 80 = some [.sl [.int .i64, .int .i64]] := by kernel_rfl
set_option maxRecDepth 100000 in
theorem lifted (os : Os) (started : os.Started) (H : Type) (enc : TypeId × Value → H) :
    ReturnsInHanded {} Try.checked os 20 .any (Rows.fnExactPredictBitSpec.pre6 enc Try.prog Try.f20 Rows.fnExactPredictBitRow.domain false) (Rows.fnExactPredictBitSpec.post enc Try.prog Try.f20 false true false false) := by
  refine returnsInHanded_of_change (C := Try.checked) Jp.own started (by kernel_rfl) Try.func20
    (ChangeSpec.witness6 (enc := enc) (C := Try.checked) false ⟨#[], #[.agg #[.int .i64 0, .slice none 0 0, .int .i64 0], .slice none 0 0, .int .i64 0], []⟩ 8 (by kernel_rfl) (by kernel_rfl) (by kernel_rfl) (by kernel_rfl)) ?_
  intro W base args ds gs before hval0 hW hcnd _
  have hval : ∀ (j : Nat) t v, Try.f20.params[j]? = some t → args[j]? = some v → Value.okWide Try.prog W .any base t v := hval0
  have hW' := hW
  obtain ⟨p, q, hA0, hV, rfl, hfz, hnd⟩ := hW
  have hA : DataW.TrodAll enc Try.prog W 0 (fun _ => true) true Try.f20.params.toList args.toList ds p := hA0
  rw [Try.params20] at hA hval
  obtain ⟨v0, vs0, d0, ds0, p0, q0, hargs, rfl, rfl, h0, r0⟩ := trodAll_cons hA
  obtain ⟨v1, vs1, d1, ds1, p1, q1, rfl, rfl, rfl, h1, r1⟩ := trodAll_cons r0
  obtain ⟨v2, vs2, d2, ds2, p2, q2, rfl, rfl, rfl, h2, r2⟩ := trodAll_cons r1
  obtain ⟨rfl, rfl, rfl⟩ := trodAll_nil r2
  obtain rfl : args = #[v0, v1, v2] := by cases args; simp_all
  obtain ⟨rfl, rfl⟩ := trodVars_none hV
  obtain ⟨cs0, rfl, _⟩ := okWide_struct Try.underlying38 (hval 0 38 v0 rfl rfl)
  obtain ⟨xs0, hf0, hs0, hv0⟩ := open_agg sh38 h0
  obtain ⟨w0, l0, o0, rfl, hb0⟩ := fits_lin hf0
  obtain ⟨a01, n01, m01, rfl⟩ := okWide_slice Try.underlying80 (hval 1 80 v1 rfl rfl)
  obtain ⟨xs1, hf1, hs1, hv1⟩ := open_cell sh80 (slice_cells _ _ _) h1
  obtain ⟨l1, rfl, hb1⟩ := fits_seens hf1
  obtain ⟨a2, rfl, rfl, rfl, w2⟩ := open_int Try.underlying2 (hval 2 2 v2 rfl rfl) h2
  have hwalk : Calls Try.prog 20 #[.agg cs0, .slice a01 n01 m01, .int .i64 a2] W fun e w' => e = .returned (.bool true) ∧ Below W.heap.size W w' :=
    calls_V (φ := fun _ => ⟨0, 0, 0⟩) TT_ok (w20 w0 l0 o0 l1 a2 (max_len hb0.1) (max_len hb1.1)) rfl (args := [.agg (lin w0 l0 o0), .lst l1.length (pairs l1), .int .i64 a2]) ⟨hv0 _, ⟨hv1 _, ⟨rfl, trivial⟩⟩⟩ rfl ⟨hs0, ⟨hs1, ⟨trivial, trivial⟩⟩⟩
  refine hwalk.mono fun e W' ⟨he, hg⟩ => ?_
  subst he
  exact ⟨_, rfl, post_law Jp.jf1 hW' rfl rfl params_ok results_ok Try.underlying4 hg⟩
theorem over : Rows.fnExactPredictBitRow.holds Try.pinned (OpenSpec.ofChange Rows.fnExactPredictBitSpec) :=
  OpenClaim.holds_of_wide 20 Try.f20 rfl rfl rfl rfl rfl rfl rfl ⟨rfl, rfl, rfl, rfl, rfl⟩ rfl rfl rfl rfl rfl fname Try.func20 closed
    (of_decide_eq_true (by kernel_rfl)) (by unfold Func.isWrapper; first | (rw [if_pos (by decide +kernel)]; kernel_rfl) | (rw [if_neg (by decide +kernel)]; exact ⟨rfl, rfl⟩))
    (fun os started H enc _ => lifted os started H enc)
theorem proved : Rows.FnExactPredictBitSaid :=
  over
#print axioms proved
end Go.Proofs.Ytonnbgjbohbibaa.fnExactPredictBit
