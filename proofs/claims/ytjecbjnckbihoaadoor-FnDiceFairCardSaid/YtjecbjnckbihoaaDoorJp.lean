/- Closed facts on the whole program. Nothing is claimed here; no condition. -/
import Derived.Test.YtjecbjnckbihoaaDoorRows
import Derived.WalkKit
import Derived.ProofKit
import Derived.OpenShut
namespace Go.Proofs.YtjecbjnckbihoaaDoor.Jp
open Go Go.ChangeShapes Go.WideShapes Go.ChangeAt Go.RowKit
/-- The program's head, letter by letter. -/
def headN : List Nat := [104, 97, 114, 110, 101, 115, 115, 32, 56, 49, 57, 49, 100, 57, 52, 51, 51, 55, 102, 99, 48, 55, 56, 53, 101, 52, 51, 97, 50, 98, 54, 53, 52, 51, 55, 101, 53, 97, 52, 53, 100, 49, 50, 54, 51, 102, 54, 55, 48, 54, 55, 52, 101, 48, 98, 99, 49, 51, 100, 99, 99, 57, 99, 101, 102, 99, 97, 55, 97, 50, 55, 52, 32, 99, 117, 116, 32, 97, 116, 32, 108, 111, 111, 112, 46, 101, 120, 97, 109, 112, 108, 101, 47, 103, 48, 49, 49, 50, 49, 47, 108, 97, 119, 115, 46, 70, 110, 68, 105, 99, 101, 70, 97, 105, 114]
set_option maxRecDepth 100000 in
theorem head_eq : Tryd.prog.initOrder = String.ofList (headN.map Char.ofNat) := by kernel_rfl
theorem head_list : Tryd.prog.initOrder.toList = headN.map Char.ofNat := by rw [head_eq]; exact String.toList_ofList
theorem words0 : behindMainWord (wordsSigns Tryd.prog.initOrder.toList) = behindMainWord (wordsSigns (headN.map Char.ofNat)) := by rw [head_list]
/-- Its words behind the first two. -/
def restN : List (List Nat) := [[97, 116], [108, 111, 111, 112, 46, 101, 120, 97, 109, 112, 108, 101, 47, 103, 48, 49, 49, 50, 49, 47, 108, 97, 119, 115, 46, 70, 110, 68, 105, 99, 101, 70, 97, 105, 114]]
set_option maxRecDepth 100000 in
theorem words1 : behindMainWord (wordsSigns (headN.map Char.ofNat)) = [Char.ofNat 99, Char.ofNat 117, Char.ofNat 116] :: restN.map (fun w => w.map Char.ofNat) := by kernel_rfl
theorem words_eq : behindMainWord (wordsSigns Tryd.prog.initOrder.toList) = [Char.ofNat 99, Char.ofNat 117, Char.ofNat 116] :: restN.map (fun w => w.map Char.ofNat) := words0.trans words1
theorem me {P : Program} {c : List Char} {r : List (List Char)} (h : behindMainWord (wordsSigns P.initOrder.toList) = c :: r) (h1 : stripLifts liftWords (c :: r) = ([], c :: r)) (h2 : ((c :: r).head? == some "cut".toList) = true) (h3 : P.laysLater = false) (h4 : P.bearsReflect = false) (h5 : P.doorFits [] = true) : P.mayEnter = true := by
  unfold Program.mayEnter
  rw [h]
  simp only [h1, h2, h3, h4, h5]
  simp
theorem mk {P : Program} {c : List Char} {r : List (List Char)} (h : behindMainWord (wordsSigns P.initOrder.toList) = c :: r) (hc : (c == "gc".toList || c == "spec".toList) = false) (hd : (c == "cut".toList) = true) : P.make = some .cut := by
  unfold Program.make
  rw [h]
  simp only [hc, hd, Bool.true_or]
  rfl
theorem lf {P : Program} {c : List Char} {r : List (List Char)} (h : behindMainWord (wordsSigns P.initOrder.toList) = c :: r) (h1 : stripLifts liftWords (c :: r) = ([], c :: r)) (h2 : ((c :: r).head? == some "carried".toList) = false) : P.liftsFinal = false := by
  unfold Program.liftsFinal Program.headLifts
  simp only [h, h1, h2]
  simp
theorem strip : stripLifts liftWords ([Char.ofNat 99, Char.ofNat 117, Char.ofNat 116] :: restN.map (fun w => w.map Char.ofNat)) = ([], [Char.ofNat 99, Char.ofNat 117, Char.ofNat 116] :: restN.map (fun w => w.map Char.ofNat)) := by kernel_rfl
theorem jf1 : (laidOutB Tryd.prog) = true := by kernel_rfl
theorem jf2 : (mapsRowed Tryd.prog) = true := by kernel_rfl
theorem jf6 : ((Tryd.prog.stops == [])) = true := by kernel_rfl
theorem jf8 : ((Tryd.prog.stopKnobs == [])) = true := by kernel_rfl
theorem jf22 : ((Rows.fnDiceFairRow.plainKeys == Tryd.prog.plainKeys)) = true := by kernel_rfl
theorem jf24 : (Tryd.prog.stopsHeard) = true := by kernel_rfl
theorem jf25 : (Tryd.prog.mayEnter) = true := me words_eq strip (by kernel_rfl) (by kernel_rfl) (by kernel_rfl) (by kernel_rfl)
theorem jf26 : ((Rows.fnDiceFairRow.lifted == Tryd.prog.liftsFinal)) = true := by
  rw [lf words_eq strip (by kernel_rfl)]
  kernel_rfl
theorem jf27 : ((Tryd.prog.make == some Rows.fnDiceFairRow.make)) = true := by
  rw [mk words_eq (by kernel_rfl) (by kernel_rfl)]
  kernel_rfl
theorem own : ownKnob Tryd.prog.godebug = none := by kernel_rfl
theorem andT {a b : Bool} (h : a = true) (k : b = true) : (a && b) = true := by rw [h, k]; rfl
end Go.Proofs.YtjecbjnckbihoaaDoor.Jp
