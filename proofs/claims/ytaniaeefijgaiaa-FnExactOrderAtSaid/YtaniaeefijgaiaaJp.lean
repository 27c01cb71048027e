/- Closed facts on the whole program. Nothing is claimed here; no condition. -/
import Derived.Test.YtaniaeefijgaiaaRows
import Derived.WalkKit
import Derived.ProofKit
import Derived.OpenShut
namespace Go.Proofs.Ytaniaeefijgaiaa.Jp
open Go Go.ChangeShapes Go.WideShapes Go.ChangeAt Go.RowKit
theorem jf1 : (laidOutB Try.prog) = true := by kernel_rfl
theorem jf2 : (mapsRowed Try.prog) = true := by kernel_rfl
theorem jf6 : ((Try.prog.stops == [])) = true := by kernel_rfl
theorem jf8 : ((Try.prog.stopKnobs == [])) = true := by kernel_rfl
theorem jf22 : ((Rows.fnExactCyclicByRow.plainKeys == Try.prog.plainKeys)) = true := by kernel_rfl
theorem jf24 : (Try.prog.stopsHeard) = true := by kernel_rfl
theorem jf25 : (Try.prog.mayEnter) = true := by kernel_rfl
theorem jf26 : ((Rows.fnExactCyclicByRow.lifted == Try.prog.liftsFinal)) = true := by kernel_rfl
theorem jf27 : ((Try.prog.make == some Rows.fnExactCyclicByRow.make)) = true := by kernel_rfl
theorem own : ownKnob Try.prog.godebug = none := by kernel_rfl
theorem andT {a b : Bool} (h : a = true) (k : b = true) : (a && b) = true := by rw [h, k]; rfl
end Go.Proofs.Ytaniaeefijgaiaa.Jp
