/- Closed facts on the whole program. Nothing is claimed here; no condition. -/
import Derived.Test.YtkglajdhlmmlfaaGreatRows
import Derived.WalkKit
import Derived.ProofKit
import Derived.OpenShut
namespace Go.Proofs.YtkglajdhlmmlfaaGreat.Jp
open Go Go.ChangeShapes Go.WideShapes Go.ChangeAt Go.RowKit
/-- The program's head, letter by letter. -/
def headN : List Nat := [104, 97, 114, 110, 101, 115, 115, 32, 52, 99, 50, 52, 97, 53, 99, 97, 100, 52, 50, 55, 56, 99, 99, 99, 102, 51, 98, 53, 50, 98, 98, 53, 50, 54, 101, 49, 50, 48, 98, 102, 49, 99, 99, 52, 100, 50, 100, 101, 57, 101, 51, 102, 54, 51, 54, 98, 56, 55, 49, 56, 54, 102, 50, 52, 48, 102, 53, 53, 54, 52, 100, 55, 32, 99, 117, 116, 32, 97, 116, 32, 108, 111, 111, 112, 46, 101, 120, 97, 109, 112, 108, 101, 47, 103, 48, 49, 49, 50, 49, 47, 108, 97, 119, 115, 46, 70, 110, 69, 120, 116, 114, 97, 99, 116, 101, 100]
set_option maxRecDepth 100000 in
theorem head_eq : Tryz.prog.initOrder = String.ofList (headN.map Char.ofNat) := by kernel_rfl
theorem head_list : Tryz.prog.initOrder.toList = headN.map Char.ofNat := by rw [head_eq]; exact String.toList_ofList
theorem words0 : behindMainWord (wordsSigns Tryz.prog.initOrder.toList) = behindMainWord (wordsSigns (headN.map Char.ofNat)) := by rw [head_list]
/-- Its words behind the first two. -/
def restN : List (List Nat) := [[97, 116], [108, 111, 111, 112, 46, 101, 120, 97, 109, 112, 108, 101, 47, 103, 48, 49, 49, 50, 49, 47, 108, 97, 119, 115, 46, 70, 110, 69, 120, 116, 114, 97, 99, 116, 101, 100]]
set_option maxRecDepth 100000 in
theorem words1 : behindMainWord (wordsSigns (headN.map Char.ofNat)) = [Char.ofNat 99, Char.ofNat 117, Char.ofNat 116] :: restN.map (fun w => w.map Char.ofNat) := by kernel_rfl
theorem words_eq : behindMainWord (wordsSigns Tryz.prog.initOrder.toList) = [Char.ofNat 99, Char.ofNat 117, Char.ofNat 116] :: restN.map (fun w => w.map Char.ofNat) := words0.trans words1
theorem me {P : Program} {c : List Char} {r : List (List Char)} (h : behindMainWord (wordsSigns P.initOrder.toList) = c :: r) (h1 : stripLifts liftWords (c :: r) = ([], c :: r)) (h2 : ((c :: r).head? == some "cut".toList) = true) (h3 : P.laysLater = false) (h4 : P.bearsReflect = false) (h5 : P.doorFits [] = true) : P.mayEnter = true := by
  unfold Program.mayEnter
  rw [h]
  simp only [h1, h2, h3, h4, h5]
  simp
theorem mk {P : Program} {c : List Char} {r : List (List Char)} (h : behindMainWord (wordsSigns P.initOrder.toList) = c :: r) (hc : (c == "gc".toList || c == "spec".toList) = false) (hd : (c == "cut".toList) = true) : P.make = some .cut := by
  unfold Program.make
  rw [h]
  simp only [hc, hd, Bool.true_or]
  rfl
theorem lf {P : Program} {c : List Char} {r : List (List Char)} (h : behindMainWord (wordsSigns P.initOrder.toList) = c :: r) (h1 : stripLifts liftWords (c :: r) = ([], c :: r)) (h2 : ((c :: r).head? == some "carried".toList) = false) : P.liftsFinal = false := by
  unfold Program.liftsFinal Program.headLifts
  simp only [h, h1, h2]
  simp
theorem strip : stripLifts liftWords ([Char.ofNat 99, Char.ofNat 117, Char.ofNat 116] :: restN.map (fun w => w.map Char.ofNat)) = ([], [Char.ofNat 99, Char.ofNat 117, Char.ofNat 116] :: restN.map (fun w => w.map Char.ofNat)) := by kernel_rfl
theorem jf1 : (laidOutB Tryz.prog) = true := by kernel_rfl
theorem jf2 : (mapsRowed Tryz.prog) = true := by kernel_rfl
theorem jf6 : ((Tryz.prog.stops == [])) = true := by kernel_rfl
theorem jf8 : ((Tryz.prog.stopKnobs == [])) = true := by kernel_rfl
theorem jf22 : ((Rows.fnExtractedRow.plainKeys == Tryz.prog.plainKeys)) = true := by kernel_rfl
theorem jf24 : (Tryz.prog.stopsHeard) = true := by kernel_rfl
theorem jf25 : (Tryz.prog.mayEnter) = true := me words_eq strip (by kernel_rfl) (by kernel_rfl) (by kernel_rfl) (by kernel_rfl)
theorem jf26 : ((Rows.fnExtractedRow.lifted == Tryz.prog.liftsFinal)) = true := by
  rw [lf words_eq strip (by kernel_rfl)]
  kernel_rfl
theorem jf27 : ((Tryz.prog.make == some Rows.fnExtractedRow.make)) = true := by
  rw [mk words_eq (by kernel_rfl) (by kernel_rfl)]
  kernel_rfl
theorem own : ownKnob Tryz.prog.godebug = none := by kernel_rfl
theorem andT {a b : Bool} (h : a = true) (k : b = true) : (a && b) = true := by rw [h, k]; rfl
end Go.Proofs.YtkglajdhlmmlfaaGreat.Jp
