/- Closed facts on the whole program. Nothing is claimed here; no condition. -/
import Derived.Test.YtihoeimlkbjgmaaRows
import Derived.WalkKit
import Derived.ProofKit
import Derived.OpenShut
namespace Go.Proofs.Ytihoeimlkbjgmaa.Jp
open Go Go.ChangeShapes Go.WideShapes Go.ChangeAt Go.RowKit
/-- The program's head, letter by letter. -/
def headN : List Nat := [104, 97, 114, 110, 101, 115, 115, 32, 55, 55, 102, 98, 55, 52, 102, 54, 48, 56, 57, 57, 55, 55, 53, 102, 49, 48, 99, 53, 101, 51, 50, 54, 52, 51, 56, 99, 55, 55, 49, 97, 56, 56, 97, 97, 102, 52, 54, 52, 99, 48, 56, 100, 101, 98, 55, 53, 54, 53, 99, 102, 101, 102, 54, 51, 51, 54, 55, 52, 57, 51, 100, 55, 32, 99, 117, 116, 32, 97, 116, 32, 108, 111, 111, 112, 46, 101, 120, 97, 109, 112, 108, 101, 47, 103, 48, 49, 49, 50, 49, 47, 108, 97, 119, 115, 46, 70, 110, 69, 120, 97, 99, 116, 73, 115, 83, 111, 117, 114, 99, 101, 32, 108, 111, 111, 112, 46, 101, 120, 97, 109, 112, 108, 101, 47, 103, 48, 49, 49, 50, 49, 47, 108, 97, 119, 115, 46, 70, 110, 69, 120, 97, 99, 116, 86, 97, 108, 105, 100, 87, 97, 108, 107, 32, 108, 111, 111, 112, 46, 101, 120, 97, 109, 112, 108, 101, 47, 103, 48, 49, 49, 50, 49, 47, 108, 97, 119, 115, 46, 70, 110, 69, 120, 97, 99, 116, 71, 114, 101, 97, 116, 101, 115, 116, 79, 102, 32, 108, 111, 111, 112, 46, 101, 120, 97, 109, 112, 108, 101, 47, 103, 48, 49, 49, 50, 49, 47, 108, 97, 119, 115, 46, 70, 110, 69, 120, 97, 99, 116, 68, 105, 115, 116, 97, 110, 99, 101, 79, 102, 32, 108, 111, 111, 112, 46, 101, 120, 97, 109, 112, 108, 101, 47, 103, 48, 49, 49, 50, 49, 47, 108, 97, 119, 115, 46, 70, 110, 69, 120, 97, 99, 116, 67, 111, 108, 108, 105, 115, 105, 111, 110, 79, 102, 32, 108, 111, 111, 112, 46, 101, 120, 97, 109, 112, 108, 101, 47, 103, 48, 49, 49, 50, 49, 47, 108, 97, 119, 115, 46, 70, 110, 69, 120, 97, 99, 116, 67, 111, 110, 116, 114, 97, 99, 116, 105, 111, 110, 79, 102, 32, 108, 111, 111, 112, 46, 101, 120, 97, 109, 112, 108, 101, 47, 103, 48, 49, 49, 50, 49, 47, 108, 97, 119, 115, 46, 70, 110, 69, 120, 97, 99, 116, 82, 105, 102, 102, 108, 101, 67, 104, 97, 110, 99, 101, 32, 108, 111, 111, 112, 46, 101, 120, 97, 109, 112, 108, 101, 47, 103, 48, 49, 49, 50, 49, 47, 108, 97, 119, 115, 46, 70, 110, 69, 120, 97, 99, 116, 82, 105, 102, 102, 108, 101, 68, 105, 115, 116, 97, 110, 99, 101, 32, 108, 111, 111, 112, 46, 101, 120, 97, 109, 112, 108, 101, 47, 103, 48, 49, 49, 50, 49, 47, 108, 97, 119, 115, 46, 70, 110, 66, 101, 115, 116, 82, 111, 119, 115, 32, 108, 111, 111, 112, 46, 101, 120, 97, 109, 112, 108, 101, 47, 103, 48, 49, 49, 50, 49, 47, 108, 97, 119, 115, 46, 70, 110, 87, 97, 108, 107, 101, 100, 32, 108, 111, 111, 112, 46, 101, 120, 97, 109, 112, 108, 101, 47, 103, 48, 49, 49, 50, 49, 47, 108, 97, 119, 115, 46, 70, 110, 82, 105, 102, 102, 108, 101, 100]
set_option maxRecDepth 100000 in
theorem head_eq : Try.prog.initOrder = String.ofList (headN.map Char.ofNat) := by kernel_rfl
theorem head_list : Try.prog.initOrder.toList = headN.map Char.ofNat := by rw [head_eq]; exact String.toList_ofList
theorem words0 : behindMainWord (wordsSigns Try.prog.initOrder.toList) = behindMainWord (wordsSigns (headN.map Char.ofNat)) := by rw [head_list]
/-- Its words behind the first two. -/
def restN : List (List Nat) := [[97, 116], [108, 111, 111, 112, 46, 101, 120, 97, 109, 112, 108, 101, 47, 103, 48, 49, 49, 50, 49, 47, 108, 97, 119, 115, 46, 70, 110, 69, 120, 97, 99, 116, 73, 115, 83, 111, 117, 114, 99, 101], [108, 111, 111, 112, 46, 101, 120, 97, 109, 112, 108, 101, 47, 103, 48, 49, 49, 50, 49, 47, 108, 97, 119, 115, 46, 70, 110, 69, 120, 97, 99, 116, 86, 97, 108, 105, 100, 87, 97, 108, 107], [108, 111, 111, 112, 46, 101, 120, 97, 109, 112, 108, 101, 47, 103, 48, 49, 49, 50, 49, 47, 108, 97, 119, 115, 46, 70, 110, 69, 120, 97, 99, 116, 71, 114, 101, 97, 116, 101, 115, 116, 79, 102], [108, 111, 111, 112, 46, 101, 120, 97, 109, 112, 108, 101, 47, 103, 48, 49, 49, 50, 49, 47, 108, 97, 119, 115, 46, 70, 110, 69, 120, 97, 99, 116, 68, 105, 115, 116, 97, 110, 99, 101, 79, 102], [108, 111, 111, 112, 46, 101, 120, 97, 109, 112, 108, 101, 47, 103, 48, 49, 49, 50, 49, 47, 108, 97, 119, 115, 46, 70, 110, 69, 120, 97, 99, 116, 67, 111, 108, 108, 105, 115, 105, 111, 110, 79, 102], [108, 111, 111, 112, 46, 101, 120, 97, 109, 112, 108, 101, 47, 103, 48, 49, 49, 50, 49, 47, 108, 97, 119, 115, 46, 70, 110, 69, 120, 97, 99, 116, 67, 111, 110, 116, 114, 97, 99, 116, 105, 111, 110, 79, 102], [108, 111, 111, 112, 46, 101, 120, 97, 109, 112, 108, 101, 47, 103, 48, 49, 49, 50, 49, 47, 108, 97, 119, 115, 46, 70, 110, 69, 120, 97, 99, 116, 82, 105, 102, 102, 108, 101, 67, 104, 97, 110, 99, 101], [108, 111, 111, 112, 46, 101, 120, 97, 109, 112, 108, 101, 47, 103, 48, 49, 49, 50, 49, 47, 108, 97, 119, 115, 46, 70, 110, 69, 120, 97, 99, 116, 82, 105, 102, 102, 108, 101, 68, 105, 115, 116, 97, 110, 99, 101], [108, 111, 111, 112, 46, 101, 120, 97, 109, 112, 108, 101, 47, 103, 48, 49, 49, 50, 49, 47, 108, 97, 119, 115, 46, 70, 110, 66, 101, 115, 116, 82, 111, 119, 115], [108, 111, 111, 112, 46, 101, 120, 97, 109, 112, 108, 101, 47, 103, 48, 49, 49, 50, 49, 47, 108, 97, 119, 115, 46, 70, 110, 87, 97, 108, 107, 101, 100], [108, 111, 111, 112, 46, 101, 120, 97, 109, 112, 108, 101, 47, 103, 48, 49, 49, 50, 49, 47, 108, 97, 119, 115, 46, 70, 110, 82, 105, 102, 102, 108, 101, 100]]
set_option maxRecDepth 100000 in
theorem words1 : behindMainWord (wordsSigns (headN.map Char.ofNat)) = [Char.ofNat 99, Char.ofNat 117, Char.ofNat 116] :: restN.map (fun w => w.map Char.ofNat) := by kernel_rfl
theorem words_eq : behindMainWord (wordsSigns Try.prog.initOrder.toList) = [Char.ofNat 99, Char.ofNat 117, Char.ofNat 116] :: restN.map (fun w => w.map Char.ofNat) := words0.trans words1
theorem me {P : Program} {c : List Char} {r : List (List Char)} (h : behindMainWord (wordsSigns P.initOrder.toList) = c :: r) (h1 : stripLifts liftWords (c :: r) = ([], c :: r)) (h2 : ((c :: r).head? == some "cut".toList) = true) (h3 : P.laysLater = false) (h4 : P.bearsReflect = false) (h5 : P.doorFits [] = true) : P.mayEnter = true := by
  unfold Program.mayEnter
  rw [h]
  simp only [h1, h2, h3, h4, h5]
  simp
theorem mk {P : Program} {c : List Char} {r : List (List Char)} (h : behindMainWord (wordsSigns P.initOrder.toList) = c :: r) (hc : (c == "gc".toList || c == "spec".toList) = false) (hd : (c == "cut".toList) = true) : P.make = some .cut := by
  unfold Program.make
  rw [h]
  simp only [hc, hd, Bool.true_or]
  rfl
theorem lf {P : Program} {c : List Char} {r : List (List Char)} (h : behindMainWord (wordsSigns P.initOrder.toList) = c :: r) (h1 : stripLifts liftWords (c :: r) = ([], c :: r)) (h2 : ((c :: r).head? == some "carried".toList) = false) : P.liftsFinal = false := by
  unfold Program.liftsFinal Program.headLifts
  simp only [h, h1, h2]
  simp
theorem strip : stripLifts liftWords ([Char.ofNat 99, Char.ofNat 117, Char.ofNat 116] :: restN.map (fun w => w.map Char.ofNat)) = ([], [Char.ofNat 99, Char.ofNat 117, Char.ofNat 116] :: restN.map (fun w => w.map Char.ofNat)) := by kernel_rfl
theorem jf1 : (laidOutB Try.prog) = true := by kernel_rfl
theorem jf2 : (mapsRowed Try.prog) = true := by kernel_rfl
theorem jf6 : ((Try.prog.stops == [])) = true := by kernel_rfl
theorem jf8 : ((Try.prog.stopKnobs == [])) = true := by kernel_rfl
theorem jf22 : ((Rows.fnExactDistanceOfRow.plainKeys == Try.prog.plainKeys)) = true := by kernel_rfl
theorem jf24 : (Try.prog.stopsHeard) = true := by kernel_rfl
theorem jf25 : (Try.prog.mayEnter) = true := me words_eq strip (by kernel_rfl) (by kernel_rfl) (by kernel_rfl) (by kernel_rfl)
theorem jf26 : ((Rows.fnExactDistanceOfRow.lifted == Try.prog.liftsFinal)) = true := by
  rw [lf words_eq strip (by kernel_rfl)]
  kernel_rfl
theorem jf27 : ((Try.prog.make == some Rows.fnExactDistanceOfRow.make)) = true := by
  rw [mk words_eq (by kernel_rfl) (by kernel_rfl)]
  kernel_rfl
theorem own : ownKnob Try.prog.godebug = none := by kernel_rfl
theorem andT {a b : Bool} (h : a = true) (k : b = true) : (a && b) = true := by rw [h, k]; rfl
end Go.Proofs.Ytihoeimlkbjgmaa.Jp
