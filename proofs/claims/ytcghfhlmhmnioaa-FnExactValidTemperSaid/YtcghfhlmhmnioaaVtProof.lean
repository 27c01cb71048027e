/- The statement 'Rows.FnExactValidTemperSaid': for all arguments the law returns true. No condition. -/
import Derived.Test.YtcghfhlmhmnioaaRows
import Derived.WalkKit
import Derived.ProofKit
import Derived.OpenShut
import Derived.Test.YtcghfhlmhmnioaaAbsX
import Derived.Test.YtcghfhlmhmnioaaVa
namespace Go.Proofs.Ytcghfhlmhmnioaa.fnExactValidTemper
open Go.Abs Go.ChangeShapes Go.WideShapes Go.ChangeAt Go.RowKit
set_option linter.unusedVariables false

theorem own : ownKnob Try.prog.godebug = none := by kernel_rfl
theorem laid : laidOutB Try.prog = true := by kernel_rfl

theorem walk (a b c d e f : Int) (w : World) :
    Calls Try.prog 3 #[.agg #[.int .i64 a, .int .i64 b, .int .i64 c, .int .i64 d, .int .i64 e, .int .i64 f]] w fun e w' => e = .returned (.bool true) ∧ Below w.heap.size w w' :=
  calls_true_I (Z := fun _ => none) (φ := fun _ => ⟨0, 0, 0⟩) TT_ok (c3 a b c d e f ⟨[], 0⟩) (fun _ _ h => by cases h) ⟨⟨_, rfl, rfl, rfl, rfl, rfl, rfl, rfl, rfl, trivial⟩, trivial⟩ rfl ⟨⟨trivial, trivial, trivial, trivial, trivial, trivial, trivial⟩, trivial⟩

theorem cells2 : Try.prog.cellsOf 2 = 1 := by kernel_rfl
theorem cells23 : Try.prog.cellsOf 23 = 6 := by kernel_rfl
theorem opened {H : Type} {enc : TypeId × Value → H} {W : World} {base : Nat} {sp : Nat → Bool} {held : Bool} {l : List Value} {d : DataW H} {ps : List MemPlace} (h : DataW.Trod enc Try.prog W base sp held 23 (.agg ⟨l⟩) d ps) : ∃ a b c d e f : Int, l = [.int .i64 a, .int .i64 b, .int .i64 c, .int .i64 d, .int .i64 e, .int .i64 f] := by
  obtain ⟨fuel, h⟩ := h
  obtain ⟨hl, hi⟩ := open_ints_struct (cs := l) Try.underlying23 (fun i f hf => by
    have hlt := (Array.getElem?_eq_some_iff.1 hf).1
    simp at hlt
    have : i = 0 ∨ i = 1 ∨ i = 2 ∨ i = 3 ∨ i = 4 ∨ i = 5 := by omega
    rcases this with rfl | rfl | rfl | rfl | rfl | rfl <;> (simp at hf; subst hf; exact ⟨rfl, Try.underlying2, cells2⟩)) cells23 h
  have hl : l.length = 6 := hl
  match l, hl, hi with
  | [c0, c1, c2, c3, c4, c5], _, hi =>
    obtain ⟨a, rfl⟩ := hi 0 c0 rfl
    obtain ⟨b, rfl⟩ := hi 1 c1 rfl
    obtain ⟨c, rfl⟩ := hi 2 c2 rfl
    obtain ⟨d, rfl⟩ := hi 3 c3 rfl
    obtain ⟨e, rfl⟩ := hi 4 c4 rfl
    obtain ⟨f, rfl⟩ := hi 5 c5 rfl
    exact ⟨a, b, c, d, e, f, rfl⟩
theorem params3 : ∀ t ∈ Try.f3.params.toList, Try.prog.readableRec t = true ∧ t < Try.prog.types.size := by
  intro t ht
  have : t = 23 := by rw [Try.params3] at ht; simpa using ht
  subst this
  exact ⟨by kernel_rfl, of_decide_eq_true (by kernel_rfl)⟩
theorem results3 : Try.f3.resultTypes = #[4] := by kernel_rfl

set_option maxRecDepth 100000 in
theorem lifted (os : Os) (started : os.Started) (H : Type) (enc : TypeId × Value → H) :
    ReturnsInHanded {} Try.checked os 3 .any (Rows.fnExactValidTemperSpec.pre6 enc Try.prog Try.f3 Rows.fnExactValidTemperRow.domain false) (Rows.fnExactValidTemperSpec.post enc Try.prog Try.f3 false true false false) := by
  refine returnsInHanded_of_change (C := Try.checked) own started (by kernel_rfl) Try.func3
    (ChangeSpec.witness6 (enc := enc) (C := Try.checked) false ⟨#[], #[.agg #[.int .i64 0, .int .i64 0, .int .i64 0, .int .i64 0, .int .i64 0, .int .i64 0]], []⟩ 8 (by kernel_rfl) (by kernel_rfl) (by kernel_rfl) (by kernel_rfl)) ?_
  intro W base args ds gs before hval0 hW hcnd _
  have hval : ∀ (j : Nat) t v, Try.f3.params[j]? = some t → args[j]? = some v → Value.okWide Try.prog W .any base t v := hval0
  have hW' := hW
  obtain ⟨p, q, hA0, hV, rfl, hfz, hnd⟩ := hW
  have hA : DataW.TrodAll enc Try.prog W 0 (fun _ => true) true Try.f3.params.toList args.toList ds p := hA0
  rw [Try.params3] at hA hval
  obtain ⟨v0, vs0, d0, ds0, p0, q0, hargs, rfl, rfl, h0, r0⟩ := trodAll_cons hA
  obtain ⟨rfl, rfl, rfl⟩ := trodAll_nil r0
  obtain rfl : args = #[v0] := by cases args; simp_all
  obtain ⟨rfl, rfl⟩ := trodVars_none hV
  obtain ⟨cs, rfl, hcs⟩ := okWide_struct Try.underlying23 (hval 0 23 v0 rfl rfl)
  obtain ⟨l⟩ := cs
  obtain ⟨a, b, c, d, e, f, rfl⟩ := opened h0
  refine (walk a b c d e f W).mono fun e W' ⟨he, hg⟩ => ?_
  subst he
  exact ⟨_, rfl, post_law laid hW' rfl rfl params3 results3 Try.underlying4 hg⟩

theorem over : Rows.fnExactValidTemperRow.holds Try.pinned (OpenSpec.ofChange Rows.fnExactValidTemperSpec) :=
  OpenClaim.holds_of_wide 3 Try.f3 rfl rfl rfl rfl rfl rfl rfl ⟨rfl, rfl, rfl, rfl, rfl⟩ rfl rfl rfl rfl rfl (by kernel_rfl) Try.func3 (by kernel_rfl)
    (of_decide_eq_true (by kernel_rfl)) (by unfold Func.isWrapper; first | (rw [if_pos (by decide +kernel)]; kernel_rfl) | (rw [if_neg (by decide +kernel)]; exact ⟨rfl, rfl⟩))
    (fun os started H enc _ => lifted os started H enc)

theorem proved : Rows.FnExactValidTemperSaid :=
  over
#print axioms proved
end Go.Proofs.Ytcghfhlmhmnioaa.fnExactValidTemper
