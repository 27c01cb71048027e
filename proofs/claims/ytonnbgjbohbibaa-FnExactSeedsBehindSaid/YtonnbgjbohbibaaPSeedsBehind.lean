/- The statement 'Rows.FnExactSeedsBehindSaid': for all arguments the law returns true. No condition. -/
import Derived.Test.YtonnbgjbohbibaaRows
import Derived.Test.YtonnbgjbohbibaaJp
import Derived.WalkKit
import Derived.ProofKit
import Derived.OpenShut
import Derived.Test.YtonnbgjbohbibaaAbsZ
import Derived.Test.YtonnbgjbohbibaaEl
namespace Go.Proofs.Ytonnbgjbohbibaa.fnExactSeedsBehind
open Go.Abs Go.ChangeShapes Go.WideShapes Go.ChangeAt Go.RowKit
set_option linter.unusedVariables false
set_option linter.unusedSimpArgs false
theorem jf0 : (Rows.fnExactSeedsBehindRow.wf (OpenSpec.ofChange Rows.fnExactSeedsBehindSpec)) = true := by kernel_rfl
theorem jf3 : (Try.f8.params.all (Try.prog.readableRec ·)) = true := by kernel_rfl
theorem jf4 : (namedTie Try.prog Rows.fnExactSeedsBehindRow.named Rows.fnExactSeedsBehindSpec.vars) = true := by kernel_rfl
theorem jf5 : ((Rows.fnExactSeedsBehindRow.stops == [])) = true := by kernel_rfl
theorem jf7 : ((Rows.fnExactSeedsBehindRow.knobs == [])) = true := by kernel_rfl
theorem jf9 : ((Rows.fnExactSeedsBehindRow.inPlace == Try.prog.inPlace 8)) = true := by kernel_rfl
theorem jf10 : ((Rows.fnExactSeedsBehindRow.unfollowed == Try.prog.unfollowed 8)) = true := by kernel_rfl
theorem jf11 : ((Rows.fnExactSeedsBehindRow.recurses == Try.prog.recurses 8)) = true := by kernel_rfl
theorem jf12 : ((Rows.fnExactSeedsBehindRow.named == Try.prog.varsNamed 8)) = true := by kernel_rfl
theorem jf13 : ((Rows.fnExactSeedsBehindRow.maps == (Try.f8.params.toList ++ Rows.fnExactSeedsBehindSpec.plain.varTypes Try.prog).any (Try.prog.mapsRec ·))) = true := by kernel_rfl
theorem jf14 : ((Rows.fnExactSeedsBehindRow.ifaces == (Try.f8.params.toList ++ Rows.fnExactSeedsBehindSpec.plain.varTypes Try.prog).any (Try.prog.ifacesRec ·))) = true := by kernel_rfl
theorem jf15 : ((Rows.fnExactSeedsBehindRow.mapsOut == Try.prog.mapsAmong Try.f8.resultTypes.toList)) = true := by kernel_rfl
theorem jf16 : ((Rows.fnExactSeedsBehindRow.loops == (Try.f8.params.toList ++ Rows.fnExactSeedsBehindSpec.plain.varTypes Try.prog).any (Try.prog.loopsFrom ·))) = true := by kernel_rfl
theorem jf17 : ((Rows.fnExactSeedsBehindRow.wideKeys == (Try.f8.params.toList ++ Rows.fnExactSeedsBehindSpec.plain.varTypes Try.prog ++ Try.f8.resultTypes.toList).any (Try.prog.wideKeysFrom ·))) = true := by kernel_rfl
theorem jf18 : (Rows.fnExactSeedsBehindSpec.vars.all (Try.prog.varReadable ·)) = true := by kernel_rfl
theorem jf19 : (Try.f8.resultTypes.all (fun t => Try.prog.readableRec t && decide (t < Try.prog.types.size))) = true := by kernel_rfl
theorem jf20 : ((Rows.fnExactSeedsBehindRow.ifacesOut == Try.f8.resultTypes.toList.any (Try.prog.ifacesRec ·))) = true := by kernel_rfl
theorem jf21 : ((Rows.fnExactSeedsBehindRow.loopsOut == Try.f8.resultTypes.toList.any (Try.prog.loopsFrom ·))) = true := by kernel_rfl
theorem jf23 : (Rows.fnExactSeedsBehindRow.shortTexts.isNone) = true := by kernel_rfl
theorem jf28 : ((Rows.fnExactSeedsBehindRow.kinds == (if Rows.fnExactSeedsBehindRow.domain.isEmpty then [] else Try.f8.params.toList.map fun t => match Try.prog.underlying t with | some (.int k) => some k | _ => none))) = true := by kernel_rfl
theorem jf29 : ((Rows.fnExactSeedsBehindRow.pinned == Rows.fnExactSeedsBehindRow.pinnedBy)) = true := by kernel_rfl
theorem jf30 : ((Rows.fnExactSeedsBehindRow.veiled == (Try.f8.params.toList ++ Rows.fnExactSeedsBehindSpec.plain.varTypes Try.prog ++ Try.f8.resultTypes.toList).any (Try.prog.veiledRec ·))) = true := by kernel_rfl
theorem jf31 : (Rows.fnExactSeedsBehindRow.veiledFits Try.prog Try.f8.params.toList (Try.f8.params.toList ++ Rows.fnExactSeedsBehindSpec.plain.varTypes Try.prog ++ Try.f8.resultTypes.toList)) = true := by kernel_rfl
set_option maxRecDepth 100000 in
theorem closed : joinedFacts Try.prog 8 Try.f8 Rows.fnExactSeedsBehindSpec Rows.fnExactSeedsBehindRow = true := Jp.andT (Jp.andT (Jp.andT (Jp.andT (Jp.andT (Jp.andT (Jp.andT (Jp.andT (Jp.andT (Jp.andT (Jp.andT (Jp.andT (Jp.andT (Jp.andT (Jp.andT (Jp.andT (Jp.andT (Jp.andT (Jp.andT (Jp.andT (Jp.andT (Jp.andT (Jp.andT (Jp.andT (Jp.andT (Jp.andT (Jp.andT (Jp.andT (Jp.andT (Jp.andT (Jp.andT (jf0) Jp.jf1) Jp.jf2) jf3) jf4) jf5) Jp.jf6) jf7) Jp.jf8) jf9) jf10) jf11) jf12) jf13) jf14) jf15) jf16) jf17) jf18) jf19) jf20) jf21) Jp.jf22) jf23) Jp.jf24) Jp.jf25) Jp.jf26) Jp.jf27) jf28) jf29) jf30) jf31
theorem fname : Try.pinned.checked.prog.funcNamed Rows.fnExactSeedsBehindRow.func = some 8 := by kernel_rfl
theorem params_ok : ∀ t ∈ Try.f8.params.toList, Try.prog.readableRec t = true ∧ t < Try.prog.types.size := by
  intro t ht
  have : t = 2 ∨ t = 33 := by rw [Try.params8] at ht; simpa using ht
  rcases this with rfl | rfl <;> exact ⟨by kernel_rfl, of_decide_eq_true (by kernel_rfl)⟩
theorem results_ok : Try.f8.resultTypes = #[4] := by kernel_rfl
theorem cells2 : Try.prog.cellsOf 2 = 1 := by kernel_rfl
set_option maxRecDepth 100000 in
theorem lifted (os : Os) (started : os.Started) (H : Type) (enc : TypeId × Value → H) :
    ReturnsInHanded {} Try.checked os 8 .any (Rows.fnExactSeedsBehindSpec.pre6 enc Try.prog Try.f8 Rows.fnExactSeedsBehindRow.domain false) (Rows.fnExactSeedsBehindSpec.post enc Try.prog Try.f8 false true false false) := by
  refine returnsInHanded_of_change (C := Try.checked) Jp.own started (by kernel_rfl) Try.func8
    (ChangeSpec.witness6 (enc := enc) (C := Try.checked) false ⟨#[], #[.int .i64 0, .int .i64 0, .slice none 0 0], []⟩ 8 (by kernel_rfl) (by kernel_rfl) (by kernel_rfl) (by kernel_rfl)) ?_
  intro W base args ds gs before hval0 hW hcnd _
  have hval : ∀ (j : Nat) t v, Try.f8.params[j]? = some t → args[j]? = some v → Value.okWide Try.prog W .any base t v := hval0
  have hW' := hW
  obtain ⟨p, q, hA0, hV, rfl, hfz, hnd⟩ := hW
  have hA : DataW.TrodAll enc Try.prog W 0 (fun _ => true) true Try.f8.params.toList args.toList ds p := hA0
  rw [Try.params8] at hA hval
  obtain ⟨v0, vs0, d0, ds0, p0, q0, hargs, rfl, rfl, h0, r0⟩ := trodAll_cons hA
  obtain ⟨v1, vs1, d1, ds1, p1, q1, rfl, rfl, rfl, h1, r1⟩ := trodAll_cons r0
  obtain ⟨v2, vs2, d2, ds2, p2, q2, rfl, rfl, rfl, h2, r2⟩ := trodAll_cons r1
  obtain ⟨rfl, rfl, rfl⟩ := trodAll_nil r2
  obtain rfl : args = #[v0, v1, v2] := by cases args; simp_all
  obtain ⟨rfl, rfl⟩ := trodVars_none hV
  obtain ⟨a0, rfl, rfl, rfl, w0⟩ := open_int Try.underlying2 (hval 0 2 v0 rfl rfl) h0
  obtain ⟨a1, rfl, rfl, rfl, w1⟩ := open_int Try.underlying2 (hval 1 2 v1 rfl rfl) h1
  obtain ⟨l2, hl2⟩ := open_lst Try.underlying33 Try.underlying2 cells2 (hval 2 33 v2 rfl rfl) h2
  have hwalk : Calls Try.prog 8 #[.int .i64 a0, .int .i64 a1, v2] W fun e w' => e = .returned (.bool true) ∧ Below W.heap.size W w' :=
    calls_V (φ := fun _ => ⟨0, 0, 0⟩) TT_ok (w8 a0 a1 _ l2 (.inl rfl)) rfl (args := [.int .i64 a0, .int .i64 a1, .lst l2.length (ints l2)]) ⟨rfl, ⟨rfl, ⟨hl2 _, trivial⟩⟩⟩ rfl ⟨trivial, ⟨trivial, ⟨Scs_ints 0 l2, trivial⟩⟩⟩
  refine hwalk.mono fun e W' ⟨he, hg⟩ => ?_
  subst he
  exact ⟨_, rfl, post_law Jp.jf1 hW' rfl rfl params_ok results_ok Try.underlying4 hg⟩
theorem over : Rows.fnExactSeedsBehindRow.holds Try.pinned (OpenSpec.ofChange Rows.fnExactSeedsBehindSpec) :=
  OpenClaim.holds_of_wide 8 Try.f8 rfl rfl rfl rfl rfl rfl rfl ⟨rfl, rfl, rfl, rfl, rfl⟩ rfl rfl rfl rfl rfl fname Try.func8 closed
    (of_decide_eq_true (by kernel_rfl)) (by unfold Func.isWrapper; first | (rw [if_pos (by decide +kernel)]; kernel_rfl) | (rw [if_neg (by decide +kernel)]; exact ⟨rfl, rfl⟩))
    (fun os started H enc _ => lifted os started H enc)
theorem proved : Rows.FnExactSeedsBehindSaid :=
  over
#print axioms proved
end Go.Proofs.Ytonnbgjbohbibaa.fnExactSeedsBehind
