/- The statement 'Rows.FnExactRiffleChanceSaid': for all arguments the law returns true. No condition. -/
import Derived.Test.YtihoeimlkbjgmaaRows
import Derived.Test.YtihoeimlkbjgmaaJp
import Derived.WalkKit
import Derived.ProofKit
import Derived.OpenShut
import Derived.Test.YtihoeimlkbjgmaaAbsZ
import Derived.Test.YtihoeimlkbjgmaaRb
namespace Go.Proofs.Ytihoeimlkbjgmaa.fnExactRiffleChance
open Go.Abs Go.ChangeShapes Go.WideShapes Go.ChangeAt Go.RowKit
set_option linter.unusedVariables false
set_option linter.unusedSimpArgs false
theorem jf0 : (Rows.fnExactRiffleChanceRow.wf (OpenSpec.ofChange Rows.fnExactRiffleChanceSpec)) = true := by kernel_rfl
theorem jf3 : (Try.f9.params.all (Try.prog.readableRec ·)) = true := by kernel_rfl
theorem jf4 : (namedTie Try.prog Rows.fnExactRiffleChanceRow.named Rows.fnExactRiffleChanceSpec.vars) = true := by kernel_rfl
theorem jf5 : ((Rows.fnExactRiffleChanceRow.stops == [])) = true := by kernel_rfl
theorem jf7 : ((Rows.fnExactRiffleChanceRow.knobs == [])) = true := by kernel_rfl
theorem jf9 : ((Rows.fnExactRiffleChanceRow.inPlace == Try.prog.inPlace 9)) = true := by kernel_rfl
theorem jf10 : ((Rows.fnExactRiffleChanceRow.unfollowed == Try.prog.unfollowed 9)) = true := by kernel_rfl
theorem jf11 : ((Rows.fnExactRiffleChanceRow.recurses == Try.prog.recurses 9)) = true := by kernel_rfl
theorem jf12 : ((Rows.fnExactRiffleChanceRow.named == Try.prog.varsNamed 9)) = true := by kernel_rfl
theorem jf13 : ((Rows.fnExactRiffleChanceRow.maps == (Try.f9.params.toList ++ Rows.fnExactRiffleChanceSpec.plain.varTypes Try.prog).any (Try.prog.mapsRec ·))) = true := by kernel_rfl
theorem jf14 : ((Rows.fnExactRiffleChanceRow.ifaces == (Try.f9.params.toList ++ Rows.fnExactRiffleChanceSpec.plain.varTypes Try.prog).any (Try.prog.ifacesRec ·))) = true := by kernel_rfl
theorem jf15 : ((Rows.fnExactRiffleChanceRow.mapsOut == Try.prog.mapsAmong Try.f9.resultTypes.toList)) = true := by kernel_rfl
theorem jf16 : ((Rows.fnExactRiffleChanceRow.loops == (Try.f9.params.toList ++ Rows.fnExactRiffleChanceSpec.plain.varTypes Try.prog).any (Try.prog.loopsFrom ·))) = true := by kernel_rfl
theorem jf17 : ((Rows.fnExactRiffleChanceRow.wideKeys == (Try.f9.params.toList ++ Rows.fnExactRiffleChanceSpec.plain.varTypes Try.prog ++ Try.f9.resultTypes.toList).any (Try.prog.wideKeysFrom ·))) = true := by kernel_rfl
theorem jf18 : (Rows.fnExactRiffleChanceSpec.vars.all (Try.prog.varReadable ·)) = true := by kernel_rfl
theorem jf19 : (Try.f9.resultTypes.all (fun t => Try.prog.readableRec t && decide (t < Try.prog.types.size))) = true := by kernel_rfl
theorem jf20 : ((Rows.fnExactRiffleChanceRow.ifacesOut == Try.f9.resultTypes.toList.any (Try.prog.ifacesRec ·))) = true := by kernel_rfl
theorem jf21 : ((Rows.fnExactRiffleChanceRow.loopsOut == Try.f9.resultTypes.toList.any (Try.prog.loopsFrom ·))) = true := by kernel_rfl
theorem jf23 : (Rows.fnExactRiffleChanceRow.shortTexts.isNone) = true := by kernel_rfl
theorem jf28 : ((Rows.fnExactRiffleChanceRow.kinds == (if Rows.fnExactRiffleChanceRow.domain.isEmpty then [] else Try.f9.params.toList.map fun t => match Try.prog.underlying t with | some (.int k) => some k | _ => none))) = true := by kernel_rfl
theorem jf29 : ((Rows.fnExactRiffleChanceRow.pinned == Rows.fnExactRiffleChanceRow.pinnedBy)) = true := by kernel_rfl
theorem jf30 : ((Rows.fnExactRiffleChanceRow.veiled == (Try.f9.params.toList ++ Rows.fnExactRiffleChanceSpec.plain.varTypes Try.prog ++ Try.f9.resultTypes.toList).any (Try.prog.veiledRec ·))) = true := by kernel_rfl
theorem jf31 : (Rows.fnExactRiffleChanceRow.veiledFits Try.prog Try.f9.params.toList (Try.f9.params.toList ++ Rows.fnExactRiffleChanceSpec.plain.varTypes Try.prog ++ Try.f9.resultTypes.toList)) = true := by kernel_rfl
set_option maxRecDepth 100000 in
theorem closed : joinedFacts Try.prog 9 Try.f9 Rows.fnExactRiffleChanceSpec Rows.fnExactRiffleChanceRow = true := Jp.andT (Jp.andT (Jp.andT (Jp.andT (Jp.andT (Jp.andT (Jp.andT (Jp.andT (Jp.andT (Jp.andT (Jp.andT (Jp.andT (Jp.andT (Jp.andT (Jp.andT (Jp.andT (Jp.andT (Jp.andT (Jp.andT (Jp.andT (Jp.andT (Jp.andT (Jp.andT (Jp.andT (Jp.andT (Jp.andT (Jp.andT (Jp.andT (Jp.andT (Jp.andT (Jp.andT (jf0) Jp.jf1) Jp.jf2) jf3) jf4) jf5) Jp.jf6) jf7) Jp.jf8) jf9) jf10) jf11) jf12) jf13) jf14) jf15) jf16) jf17) jf18) jf19) jf20) jf21) Jp.jf22) jf23) Jp.jf24) Jp.jf25) Jp.jf26) Jp.jf27) jf28) jf29) jf30) jf31
theorem fname : Try.pinned.checked.prog.funcNamed Rows.fnExactRiffleChanceRow.func = some 9 := by kernel_rfl
theorem params_ok : ∀ t ∈ Try.f9.params.toList, Try.prog.readableRec t = true ∧ t < Try.prog.types.size := by
  intro t ht
  have : t = 48 ∨ t = 2 := by rw [Try.params9] at ht; simpa using ht
  rcases this with rfl | rfl <;> exact ⟨by kernel_rfl, of_decide_eq_true (by kernel_rfl)⟩
theorem results_ok : Try.f9.resultTypes = #[4] := by kernel_rfl
theorem cells2 : Try.prog.cellsOf 2 = 1 := by kernel_rfl
set_option maxRecDepth 100000 in
theorem lifted (os : Os) (started : os.Started) (H : Type) (enc : TypeId × Value → H) :
    ReturnsInHanded {} Try.checked os 9 .any (Rows.fnExactRiffleChanceSpec.pre6 enc Try.prog Try.f9 Rows.fnExactRiffleChanceRow.domain false) (Rows.fnExactRiffleChanceSpec.post enc Try.prog Try.f9 false true false false) := by
  refine returnsInHanded_of_change (C := Try.checked) Jp.own started (by kernel_rfl) Try.func9
    (ChangeSpec.witness6 (enc := enc) (C := Try.checked) false ⟨#[], #[.slice none 0 0, .int .i64 0], []⟩ 8 (by kernel_rfl) (by kernel_rfl) (by kernel_rfl) (by kernel_rfl)) ?_
  intro W base args ds gs before hval0 hW hcnd _
  have hval : ∀ (j : Nat) t v, Try.f9.params[j]? = some t → args[j]? = some v → Value.okWide Try.prog W .any base t v := hval0
  have hW' := hW
  obtain ⟨p, q, hA0, hV, rfl, hfz, hnd⟩ := hW
  have hA : DataW.TrodAll enc Try.prog W 0 (fun _ => true) true Try.f9.params.toList args.toList ds p := hA0
  rw [Try.params9] at hA hval
  obtain ⟨v0, vs0, d0, ds0, p0, q0, hargs, rfl, rfl, h0, r0⟩ := trodAll_cons hA
  obtain ⟨v1, vs1, d1, ds1, p1, q1, rfl, rfl, rfl, h1, r1⟩ := trodAll_cons r0
  obtain ⟨rfl, rfl, rfl⟩ := trodAll_nil r1
  obtain rfl : args = #[v0, v1] := by cases args; simp_all
  obtain ⟨rfl, rfl⟩ := trodVars_none hV
  obtain ⟨l0, hl0⟩ := open_lst Try.underlying48 Try.underlying2 cells2 (hval 0 48 v0 rfl rfl) h0
  obtain ⟨a1, rfl, rfl, rfl, w1⟩ := open_int Try.underlying2 (hval 1 2 v1 rfl rfl) h1
  have hwalk : Calls Try.prog 9 #[v0, .int .i64 a1] W fun e w' => e = .returned (.bool true) ∧ Below W.heap.size W w' :=
    calls_V (φ := fun _ => ⟨0, 0, 0⟩) TT_ok (w9 l0 a1) rfl (args := [.lst l0.length (ints l0), .int .i64 a1]) ⟨hl0 _, ⟨rfl, trivial⟩⟩ rfl ⟨Scs_ints 0 l0, ⟨trivial, trivial⟩⟩
  refine hwalk.mono fun e W' ⟨he, hg⟩ => ?_
  subst he
  exact ⟨_, rfl, post_law Jp.jf1 hW' rfl rfl params_ok results_ok Try.underlying4 hg⟩
theorem over : Rows.fnExactRiffleChanceRow.holds Try.pinned (OpenSpec.ofChange Rows.fnExactRiffleChanceSpec) :=
  OpenClaim.holds_of_wide 9 Try.f9 rfl rfl rfl rfl rfl rfl rfl ⟨rfl, rfl, rfl, rfl, rfl⟩ rfl rfl rfl rfl rfl fname Try.func9 closed
    (of_decide_eq_true (by kernel_rfl)) (by unfold Func.isWrapper; first | (rw [if_pos (by decide +kernel)]; kernel_rfl) | (rw [if_neg (by decide +kernel)]; exact ⟨rfl, rfl⟩))
    (fun os started H enc _ => lifted os started H enc)
theorem proved : Rows.FnExactRiffleChanceSaid :=
  over
#print axioms proved
end Go.Proofs.Ytihoeimlkbjgmaa.fnExactRiffleChance
