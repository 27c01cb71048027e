/- Closed facts on the whole program. Nothing is claimed here; no condition. -/
import Derived.Test.YthkdbkjkccogfaaDoorRows
import Derived.WalkKit
import Derived.ProofKit
import Derived.OpenShut
namespace Go.Proofs.YthkdbkjkccogfaaDoor.Jp
open Go Go.ChangeShapes Go.WideShapes Go.ChangeAt Go.RowKit
/-- The program's head, letter by letter. -/
def headN : List Nat := [104, 97, 114, 110, 101, 115, 115, 32, 101, 51, 53, 55, 100, 56, 49, 53, 99, 55, 102, 101, 52, 100, 97, 53, 48, 98, 101, 52, 99, 101, 54, 49, 100, 54, 101, 54, 53, 54, 101, 51, 101, 57, 55, 102, 51, 56, 100, 53, 56, 97, 101, 98, 102, 48, 100, 102, 100, 49, 49, 50, 55, 55, 55, 56, 50, 54, 50, 101, 52, 98, 55, 49, 32, 99, 117, 116, 32, 97, 116, 32, 108, 111, 111, 112, 46, 101, 120, 97, 109, 112, 108, 101, 47, 103, 48, 49, 49, 50, 49, 47, 108, 97, 119, 115, 46, 70, 110, 69, 120, 97, 99, 116, 66, 101, 115, 116, 83, 116, 97, 116, 101, 115, 32, 108, 111, 111, 112, 46, 101, 120, 97, 109, 112, 108, 101, 47, 103, 48, 49, 49, 50, 49, 47, 108, 97, 119, 115, 46, 70, 110, 65, 116, 116, 97, 99, 107, 32, 108, 111, 111, 112, 46, 101, 120, 97, 109, 112, 108, 101, 47, 103, 48, 49, 49, 50, 49, 47, 108, 97, 119, 115, 46, 70, 110, 83, 104, 111, 114, 116, 101, 115, 116, 82, 101, 103, 105, 115, 116, 101, 114, 32, 108, 111, 111, 112, 46, 101, 120, 97, 109, 112, 108, 101, 47, 103, 48, 49, 49, 50, 49, 47, 108, 97, 119, 115, 46, 70, 110, 69, 120, 97, 99, 116, 82, 101, 103, 105, 115, 116, 101, 114, 79, 102, 32, 108, 111, 111, 112, 46, 101, 120, 97, 109, 112, 108, 101, 47, 103, 48, 49, 49, 50, 49, 47, 108, 97, 119, 115, 46, 70, 110, 83, 97, 109, 101, 82, 101, 103, 105, 115, 116, 101, 114, 32, 108, 111, 111, 112, 46, 101, 120, 97, 109, 112, 108, 101, 47, 103, 48, 49, 49, 50, 49, 47, 108, 97, 119, 115, 46, 70, 110, 65, 103, 114, 101, 101, 109, 101, 110, 116, 115, 32, 108, 111, 111, 112, 46, 101, 120, 97, 109, 112, 108, 101, 47, 103, 48, 49, 49, 50, 49, 47, 108, 97, 119, 115, 46, 70, 110, 67, 111, 109, 98, 105, 110, 101, 100, 83, 116, 114, 101, 97, 109, 115, 32, 108, 111, 111, 112, 46, 101, 120, 97, 109, 112, 108, 101, 47, 103, 48, 49, 49, 50, 49, 47, 108, 97, 119, 115, 46, 70, 110, 70, 97, 105, 114, 70, 108, 105, 112, 115, 32, 108, 111, 111, 112, 46, 101, 120, 97, 109, 112, 108, 101, 47, 103, 48, 49, 49, 50, 49, 47, 108, 97, 119, 115, 46, 70, 110, 84, 114, 101, 101, 82, 111, 108, 108, 115]
set_option maxRecDepth 100000 in
theorem head_eq : Tryd.prog.initOrder = String.ofList (headN.map Char.ofNat) := by kernel_rfl
theorem head_list : Tryd.prog.initOrder.toList = headN.map Char.ofNat := by rw [head_eq]; exact String.toList_ofList
theorem words0 : behindMainWord (wordsSigns Tryd.prog.initOrder.toList) = behindMainWord (wordsSigns (headN.map Char.ofNat)) := by rw [head_list]
/-- Its words behind the first two. -/
def restN : List (List Nat) := [[97, 116], [108, 111, 111, 112, 46, 101, 120, 97, 109, 112, 108, 101, 47, 103, 48, 49, 49, 50, 49, 47, 108, 97, 119, 115, 46, 70, 110, 69, 120, 97, 99, 116, 66, 101, 115, 116, 83, 116, 97, 116, 101, 115], [108, 111, 111, 112, 46, 101, 120, 97, 109, 112, 108, 101, 47, 103, 48, 49, 49, 50, 49, 47, 108, 97, 119, 115, 46, 70, 110, 65, 116, 116, 97, 99, 107], [108, 111, 111, 112, 46, 101, 120, 97, 109, 112, 108, 101, 47, 103, 48, 49, 49, 50, 49, 47, 108, 97, 119, 115, 46, 70, 110, 83, 104, 111, 114, 116, 101, 115, 116, 82, 101, 103, 105, 115, 116, 101, 114], [108, 111, 111, 112, 46, 101, 120, 97, 109, 112, 108, 101, 47, 103, 48, 49, 49, 50, 49, 47, 108, 97, 119, 115, 46, 70, 110, 69, 120, 97, 99, 116, 82, 101, 103, 105, 115, 116, 101, 114, 79, 102], [108, 111, 111, 112, 46, 101, 120, 97, 109, 112, 108, 101, 47, 103, 48, 49, 49, 50, 49, 47, 108, 97, 119, 115, 46, 70, 110, 83, 97, 109, 101, 82, 101, 103, 105, 115, 116, 101, 114], [108, 111, 111, 112, 46, 101, 120, 97, 109, 112, 108, 101, 47, 103, 48, 49, 49, 50, 49, 47, 108, 97, 119, 115, 46, 70, 110, 65, 103, 114, 101, 101, 109, 101, 110, 116, 115], [108, 111, 111, 112, 46, 101, 120, 97, 109, 112, 108, 101, 47, 103, 48, 49, 49, 50, 49, 47, 108, 97, 119, 115, 46, 70, 110, 67, 111, 109, 98, 105, 110, 101, 100, 83, 116, 114, 101, 97, 109, 115], [108, 111, 111, 112, 46, 101, 120, 97, 109, 112, 108, 101, 47, 103, 48, 49, 49, 50, 49, 47, 108, 97, 119, 115, 46, 70, 110, 70, 97, 105, 114, 70, 108, 105, 112, 115], [108, 111, 111, 112, 46, 101, 120, 97, 109, 112, 108, 101, 47, 103, 48, 49, 49, 50, 49, 47, 108, 97, 119, 115, 46, 70, 110, 84, 114, 101, 101, 82, 111, 108, 108, 115]]
set_option maxRecDepth 100000 in
theorem words1 : behindMainWord (wordsSigns (headN.map Char.ofNat)) = [Char.ofNat 99, Char.ofNat 117, Char.ofNat 116] :: restN.map (fun w => w.map Char.ofNat) := by kernel_rfl
theorem words_eq : behindMainWord (wordsSigns Tryd.prog.initOrder.toList) = [Char.ofNat 99, Char.ofNat 117, Char.ofNat 116] :: restN.map (fun w => w.map Char.ofNat) := words0.trans words1
theorem me {P : Program} {c : List Char} {r : List (List Char)} (h : behindMainWord (wordsSigns P.initOrder.toList) = c :: r) (h1 : stripLifts liftWords (c :: r) = ([], c :: r)) (h2 : ((c :: r).head? == some "cut".toList) = true) (h3 : P.laysLater = false) (h4 : P.bearsReflect = false) (h5 : P.doorFits [] = true) : P.mayEnter = true := by
  unfold Program.mayEnter
  rw [h]
  simp only [h1, h2, h3, h4, h5]
  simp
theorem mk {P : Program} {c : List Char} {r : List (List Char)} (h : behindMainWord (wordsSigns P.initOrder.toList) = c :: r) (hc : (c == "gc".toList || c == "spec".toList) = false) (hd : (c == "cut".toList) = true) : P.make = some .cut := by
  unfold Program.make
  rw [h]
  simp only [hc, hd, Bool.true_or]
  rfl
theorem lf {P : Program} {c : List Char} {r : List (List Char)} (h : behindMainWord (wordsSigns P.initOrder.toList) = c :: r) (h1 : stripLifts liftWords (c :: r) = ([], c :: r)) (h2 : ((c :: r).head? == some "carried".toList) = false) : P.liftsFinal = false := by
  unfold Program.liftsFinal Program.headLifts
  simp only [h, h1, h2]
  simp
theorem strip : stripLifts liftWords ([Char.ofNat 99, Char.ofNat 117, Char.ofNat 116] :: restN.map (fun w => w.map Char.ofNat)) = ([], [Char.ofNat 99, Char.ofNat 117, Char.ofNat 116] :: restN.map (fun w => w.map Char.ofNat)) := by kernel_rfl
theorem jf1 : (laidOutB Tryd.prog) = true := by kernel_rfl
theorem jf2 : (mapsRowed Tryd.prog) = true := by kernel_rfl
theorem jf6 : ((Tryd.prog.stops == [])) = true := by kernel_rfl
theorem jf8 : ((Tryd.prog.stopKnobs == [])) = true := by kernel_rfl
theorem jf22 : ((Rows.fnExactBestStatesRow.plainKeys == Tryd.prog.plainKeys)) = true := by kernel_rfl
theorem jf24 : (Tryd.prog.stopsHeard) = true := by kernel_rfl
theorem jf25 : (Tryd.prog.mayEnter) = true := me words_eq strip (by kernel_rfl) (by kernel_rfl) (by kernel_rfl) (by kernel_rfl)
theorem jf26 : ((Rows.fnExactBestStatesRow.lifted == Tryd.prog.liftsFinal)) = true := by
  rw [lf words_eq strip (by kernel_rfl)]
  kernel_rfl
theorem jf27 : ((Tryd.prog.make == some Rows.fnExactBestStatesRow.make)) = true := by
  rw [mk words_eq (by kernel_rfl) (by kernel_rfl)]
  kernel_rfl
theorem own : ownKnob Tryd.prog.godebug = none := by kernel_rfl
theorem andT {a b : Bool} (h : a = true) (k : b = true) : (a && b) = true := by rw [h, k]; rfl
end Go.Proofs.YthkdbkjkccogfaaDoor.Jp
