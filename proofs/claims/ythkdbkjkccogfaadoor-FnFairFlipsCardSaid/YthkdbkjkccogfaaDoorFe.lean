/- Fair flips: the plain law at all small sizes. Nothing is claimed here; no condition. -/
import Derived.Test.YthkdbkjkccogfaaDoorFc
namespace Go.Proofs.YthkdbkjkccogfaaDoor
open Go Go.Abs
set_option linter.unusedSimpArgs false
set_option linter.unusedVariables false
open TXF (blkS)
def selN (ones : Nat) : Nat → Nat → List Nat
  | 0, _ => []
  | m + 1, v => if onesN v = ones then v :: selN ones m (v + 1) else selN ones m (v + 1)
def gdT (d : Nat) (t : List UInt8) : Bool := (blkS t).2 && decide ((fpP (prs t)).length ≤ (fdS d t).length) && ((fdS d t).take (fpP (prs t)).length == fpP (prs t))
def tsL (size ones : Nat) : List (List UInt8) := (selN ones (2 ^ size) 0).map (bsOf size)
def lawA (size ones : Nat) : Bool := evenS ((tsL size ones).map fun t => fpP (prs t)) && evenS ((tsL size ones).map fun t => (blkS t).1)
def lawB (size ones d : Nat) : Bool := (tsL size ones).all (gdT d) && evenS ((tsL size ones).map (fdS d))
set_option maxRecDepth 100000 in
theorem law_a : ((List.range 9).all fun s => (List.range (s + 1)).all fun o => lawA s o) = true := by decide +kernel
set_option maxRecDepth 100000 in
theorem law_b : ((List.range 9).all fun s => (List.range (s + 1)).all fun o => (List.range 4).all fun d => lawB s o (d + 1)) = true := by decide +kernel
end Go.Proofs.YthkdbkjkccogfaaDoor
