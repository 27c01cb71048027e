/-
  No cell of these rows narrows 'for every input' (looked for: loops, veiled, ifaces, maps, wideKeys, modest, calm, conditions, laid).
  DERIVED. THE GIVEN ROWS OF THIS SEAT. 11 by the template 'for every input the law returns true; each argument reads behind the call as it read before'; 0 by the template 'total and deterministic' (their statements: YtihoeimlkbjgmaaTotals.lean).
  GIVEN WITH THE SEED: the statements are not yours to turn. If you find one false, say at which input.
  Laid BY PROGRAM, IN A SANDBOX (cutbox-rows.mjs): the forced cells as the released guide's own fill.sh prints them over the translation 98442658e1730afa… (all of the seat's roots in one cut). By AI agents, Wed Nov 11 2026. No macro, syntax, notation, axiom, sorry.
-/
import Derived.Test.YtihoeimlkbjgmaaChecked
import GoSem.Claim
import GoSem.ClaimJoined
import GoSem.ClaimMapViews
import Derived.JoinedTies
import Derived.KernelRfl
namespace Go.Proofs.Ytihoeimlkbjgmaa
/- THE CELL 'sum', in the pinned program and in every row, IS THE sha256 OF THE DUMP (.gsa) THAT YtihoeimlkbjgmaaProg.lean LOADS. Nothing in Lean hashes anything: it is a label: what it is worth is what the hold of that sum in a sandbox is worth. -/
noncomputable def Try.pinned : Pinned := { name := "ytihoeimlkbjgmaa", sum := "98442658e1730afabbfa1e037cee81524dbfa07bdec2952cc43dbb26b000f7f0", checked := Try.checked }
namespace Rows
def none {H : Type} : Left H := { results := [], args := [] }

/-- 'laws.FnExactIsSource': WHATEVER THE INPUT: true; the input reads as it did. -/
def fnExactIsSourceSpec : ChangeSpec := { name := "fnExactIsSource", fn := fun _ => fun
  | [d] => { results := [.lit (.bool true)], args := [d] }
  | _ => none }
def fnExactIsSourceRow : OpenClaim := { program := "ytihoeimlkbjgmaa", sum := "98442658e1730afabbfa1e037cee81524dbfa07bdec2952cc43dbb26b000f7f0", func := "loop.example/g01121/laws.FnExactIsSource", spec := "fnExactIsSource", unfollowed := true, recurses := true, apart := false }
def FnExactIsSourceSaid : Prop := fnExactIsSourceRow.holds Try.pinned (OpenSpec.ofChange fnExactIsSourceSpec)

/-- ITS FALSE NEIGHBOUR: 'it returns false'. Refute it at one input. -/
def fnExactIsSourceWrong : ChangeSpec := { name := "fnExactIsSource", fn := fun _ => fun
  | [d] => { results := [.lit (.bool false)], args := [d] }
  | _ => none }
def FnExactIsSourceWrongFalsely : Prop := fnExactIsSourceRow.holds Try.pinned (OpenSpec.ofChange fnExactIsSourceWrong)

/-- 'laws.FnExactValidWalk': WHATEVER THE INPUT: true; the input reads as it did. -/
def fnExactValidWalkSpec : ChangeSpec := { name := "fnExactValidWalk", fn := fun _ => fun
  | [d] => { results := [.lit (.bool true)], args := [d] }
  | _ => none }
def fnExactValidWalkRow : OpenClaim := { program := "ytihoeimlkbjgmaa", sum := "98442658e1730afabbfa1e037cee81524dbfa07bdec2952cc43dbb26b000f7f0", func := "loop.example/g01121/laws.FnExactValidWalk", spec := "fnExactValidWalk", unfollowed := true, recurses := true, apart := false }
def FnExactValidWalkSaid : Prop := fnExactValidWalkRow.holds Try.pinned (OpenSpec.ofChange fnExactValidWalkSpec)

/-- ITS FALSE NEIGHBOUR: 'it returns false'. Refute it at one input. -/
def fnExactValidWalkWrong : ChangeSpec := { name := "fnExactValidWalk", fn := fun _ => fun
  | [d] => { results := [.lit (.bool false)], args := [d] }
  | _ => none }
def FnExactValidWalkWrongFalsely : Prop := fnExactValidWalkRow.holds Try.pinned (OpenSpec.ofChange fnExactValidWalkWrong)

/-- 'laws.FnExactGreatestOf': WHATEVER THE INPUT: true; the input reads as it did. -/
def fnExactGreatestOfSpec : ChangeSpec := { name := "fnExactGreatestOf", fn := fun _ => fun
  | [d] => { results := [.lit (.bool true)], args := [d] }
  | _ => none }
def fnExactGreatestOfRow : OpenClaim := { program := "ytihoeimlkbjgmaa", sum := "98442658e1730afabbfa1e037cee81524dbfa07bdec2952cc43dbb26b000f7f0", func := "loop.example/g01121/laws.FnExactGreatestOf", spec := "fnExactGreatestOf", unfollowed := true, recurses := true, apart := false }
def FnExactGreatestOfSaid : Prop := fnExactGreatestOfRow.holds Try.pinned (OpenSpec.ofChange fnExactGreatestOfSpec)

/-- ITS FALSE NEIGHBOUR: 'it returns false'. Refute it at one input. -/
def fnExactGreatestOfWrong : ChangeSpec := { name := "fnExactGreatestOf", fn := fun _ => fun
  | [d] => { results := [.lit (.bool false)], args := [d] }
  | _ => none }
def FnExactGreatestOfWrongFalsely : Prop := fnExactGreatestOfRow.holds Try.pinned (OpenSpec.ofChange fnExactGreatestOfWrong)

/-- 'laws.FnExactDistanceOf': WHATEVER THE INPUT: true; the input reads as it did. -/
def fnExactDistanceOfSpec : ChangeSpec := { name := "fnExactDistanceOf", fn := fun _ => fun
  | [d1, d2] => { results := [.lit (.bool true)], args := [d1, d2] }
  | _ => none }
def fnExactDistanceOfRow : OpenClaim := { program := "ytihoeimlkbjgmaa", sum := "98442658e1730afabbfa1e037cee81524dbfa07bdec2952cc43dbb26b000f7f0", func := "loop.example/g01121/laws.FnExactDistanceOf", spec := "fnExactDistanceOf", unfollowed := true, recurses := true, apart := false }
def FnExactDistanceOfSaid : Prop := fnExactDistanceOfRow.holds Try.pinned (OpenSpec.ofChange fnExactDistanceOfSpec)

/-- ITS FALSE NEIGHBOUR: 'it returns false'. Refute it at one input. -/
def fnExactDistanceOfWrong : ChangeSpec := { name := "fnExactDistanceOf", fn := fun _ => fun
  | [d1, d2] => { results := [.lit (.bool false)], args := [d1, d2] }
  | _ => none }
def FnExactDistanceOfWrongFalsely : Prop := fnExactDistanceOfRow.holds Try.pinned (OpenSpec.ofChange fnExactDistanceOfWrong)

/-- 'laws.FnExactCollisionOf': WHATEVER THE INPUT: true; the input reads as it did. -/
def fnExactCollisionOfSpec : ChangeSpec := { name := "fnExactCollisionOf", fn := fun _ => fun
  | [d] => { results := [.lit (.bool true)], args := [d] }
  | _ => none }
def fnExactCollisionOfRow : OpenClaim := { program := "ytihoeimlkbjgmaa", sum := "98442658e1730afabbfa1e037cee81524dbfa07bdec2952cc43dbb26b000f7f0", func := "loop.example/g01121/laws.FnExactCollisionOf", spec := "fnExactCollisionOf", unfollowed := true, recurses := true, apart := false }
def FnExactCollisionOfSaid : Prop := fnExactCollisionOfRow.holds Try.pinned (OpenSpec.ofChange fnExactCollisionOfSpec)

/-- ITS FALSE NEIGHBOUR: 'it returns false'. Refute it at one input. -/
def fnExactCollisionOfWrong : ChangeSpec := { name := "fnExactCollisionOf", fn := fun _ => fun
  | [d] => { results := [.lit (.bool false)], args := [d] }
  | _ => none }
def FnExactCollisionOfWrongFalsely : Prop := fnExactCollisionOfRow.holds Try.pinned (OpenSpec.ofChange fnExactCollisionOfWrong)

/-- 'laws.FnExactContractionOf': WHATEVER THE INPUT: true; the input reads as it did. -/
def fnExactContractionOfSpec : ChangeSpec := { name := "fnExactContractionOf", fn := fun _ => fun
  | [d] => { results := [.lit (.bool true)], args := [d] }
  | _ => none }
def fnExactContractionOfRow : OpenClaim := { program := "ytihoeimlkbjgmaa", sum := "98442658e1730afabbfa1e037cee81524dbfa07bdec2952cc43dbb26b000f7f0", func := "loop.example/g01121/laws.FnExactContractionOf", spec := "fnExactContractionOf", unfollowed := true, recurses := true, apart := false }
def FnExactContractionOfSaid : Prop := fnExactContractionOfRow.holds Try.pinned (OpenSpec.ofChange fnExactContractionOfSpec)

/-- ITS FALSE NEIGHBOUR: 'it returns false'. Refute it at one input. -/
def fnExactContractionOfWrong : ChangeSpec := { name := "fnExactContractionOf", fn := fun _ => fun
  | [d] => { results := [.lit (.bool false)], args := [d] }
  | _ => none }
def FnExactContractionOfWrongFalsely : Prop := fnExactContractionOfRow.holds Try.pinned (OpenSpec.ofChange fnExactContractionOfWrong)

/-- 'laws.FnExactRiffleChance': WHATEVER THE INPUT: true; the input reads as it did. -/
def fnExactRiffleChanceSpec : ChangeSpec := { name := "fnExactRiffleChance", fn := fun _ => fun
  | [d1, d2] => { results := [.lit (.bool true)], args := [d1, d2] }
  | _ => none }
def fnExactRiffleChanceRow : OpenClaim := { program := "ytihoeimlkbjgmaa", sum := "98442658e1730afabbfa1e037cee81524dbfa07bdec2952cc43dbb26b000f7f0", func := "loop.example/g01121/laws.FnExactRiffleChance", spec := "fnExactRiffleChance", unfollowed := true, recurses := true, named := ["math/bits.divideError", "math/bits.overflowError"], apart := false }
def FnExactRiffleChanceSaid : Prop := fnExactRiffleChanceRow.holds Try.pinned (OpenSpec.ofChange fnExactRiffleChanceSpec)

/-- ITS FALSE NEIGHBOUR: 'it returns false'. Refute it at one input. -/
def fnExactRiffleChanceWrong : ChangeSpec := { name := "fnExactRiffleChance", fn := fun _ => fun
  | [d1, d2] => { results := [.lit (.bool false)], args := [d1, d2] }
  | _ => none }
def FnExactRiffleChanceWrongFalsely : Prop := fnExactRiffleChanceRow.holds Try.pinned (OpenSpec.ofChange fnExactRiffleChanceWrong)

/-- 'laws.FnExactRiffleDistance': WHATEVER THE INPUT: true; the input reads as it did. -/
def fnExactRiffleDistanceSpec : ChangeSpec := { name := "fnExactRiffleDistance", fn := fun _ => fun
  | [d1, d2] => { results := [.lit (.bool true)], args := [d1, d2] }
  | _ => none }
def fnExactRiffleDistanceRow : OpenClaim := { program := "ytihoeimlkbjgmaa", sum := "98442658e1730afabbfa1e037cee81524dbfa07bdec2952cc43dbb26b000f7f0", func := "loop.example/g01121/laws.FnExactRiffleDistance", spec := "fnExactRiffleDistance", named := ["math/bits.divideError", "math/bits.overflowError"], apart := false }
def FnExactRiffleDistanceSaid : Prop := fnExactRiffleDistanceRow.holds Try.pinned (OpenSpec.ofChange fnExactRiffleDistanceSpec)

/-- ITS FALSE NEIGHBOUR: 'it returns false'. Refute it at one input. -/
def fnExactRiffleDistanceWrong : ChangeSpec := { name := "fnExactRiffleDistance", fn := fun _ => fun
  | [d1, d2] => { results := [.lit (.bool false)], args := [d1, d2] }
  | _ => none }
def FnExactRiffleDistanceWrongFalsely : Prop := fnExactRiffleDistanceRow.holds Try.pinned (OpenSpec.ofChange fnExactRiffleDistanceWrong)

/-- 'laws.FnBestRows': WHATEVER THE INPUT: true; the input reads as it did. -/
def fnBestRowsSpec : ChangeSpec := { name := "fnBestRows", fn := fun _ => fun
  | [d1, d2] => { results := [.lit (.bool true)], args := [d1, d2] }
  | _ => none }
def fnBestRowsRow : OpenClaim := { program := "ytihoeimlkbjgmaa", sum := "98442658e1730afabbfa1e037cee81524dbfa07bdec2952cc43dbb26b000f7f0", func := "loop.example/g01121/laws.FnBestRows", spec := "fnBestRows", unfollowed := true, recurses := true, apart := false }
def FnBestRowsSaid : Prop := fnBestRowsRow.holds Try.pinned (OpenSpec.ofChange fnBestRowsSpec)

/-- ITS FALSE NEIGHBOUR: 'it returns false'. Refute it at one input. -/
def fnBestRowsWrong : ChangeSpec := { name := "fnBestRows", fn := fun _ => fun
  | [d1, d2] => { results := [.lit (.bool false)], args := [d1, d2] }
  | _ => none }
def FnBestRowsWrongFalsely : Prop := fnBestRowsRow.holds Try.pinned (OpenSpec.ofChange fnBestRowsWrong)

/-- 'laws.FnWalked': WHATEVER THE INPUT: true; the input reads as it did. -/
def fnWalkedSpec : ChangeSpec := { name := "fnWalked", fn := fun _ => fun
  | [d1, d2] => { results := [.lit (.bool true)], args := [d1, d2] }
  | _ => none }
def fnWalkedRow : OpenClaim := { program := "ytihoeimlkbjgmaa", sum := "98442658e1730afabbfa1e037cee81524dbfa07bdec2952cc43dbb26b000f7f0", func := "loop.example/g01121/laws.FnWalked", spec := "fnWalked", unfollowed := true, recurses := true, apart := false }
def FnWalkedSaid : Prop := fnWalkedRow.holds Try.pinned (OpenSpec.ofChange fnWalkedSpec)

/-- ITS FALSE NEIGHBOUR: 'it returns false'. Refute it at one input. -/
def fnWalkedWrong : ChangeSpec := { name := "fnWalked", fn := fun _ => fun
  | [d1, d2] => { results := [.lit (.bool false)], args := [d1, d2] }
  | _ => none }
def FnWalkedWrongFalsely : Prop := fnWalkedRow.holds Try.pinned (OpenSpec.ofChange fnWalkedWrong)

/-- 'laws.FnRiffled': WHATEVER THE INPUT: true; the input reads as it did. -/
def fnRiffledSpec : ChangeSpec := { name := "fnRiffled", fn := fun _ => fun
  | [d1, d2] => { results := [.lit (.bool true)], args := [d1, d2] }
  | _ => none }
def fnRiffledRow : OpenClaim := { program := "ytihoeimlkbjgmaa", sum := "98442658e1730afabbfa1e037cee81524dbfa07bdec2952cc43dbb26b000f7f0", func := "loop.example/g01121/laws.FnRiffled", spec := "fnRiffled", unfollowed := true, recurses := true, named := ["math/bits.divideError", "math/bits.overflowError"], apart := false }
def FnRiffledSaid : Prop := fnRiffledRow.holds Try.pinned (OpenSpec.ofChange fnRiffledSpec)

/-- ITS FALSE NEIGHBOUR: 'it returns false'. Refute it at one input. -/
def fnRiffledWrong : ChangeSpec := { name := "fnRiffled", fn := fun _ => fun
  | [d1, d2] => { results := [.lit (.bool false)], args := [d1, d2] }
  | _ => none }
def FnRiffledWrongFalsely : Prop := fnRiffledRow.holds Try.pinned (OpenSpec.ofChange fnRiffledWrong)

/- THE SECOND FORM. 'bulk': how many values and letters a reading holds, each counted each time it is reached (what is shared counts as often as it is met; a slice's spare places count too). A statement '..UptoSaid' is the law's where the arguments, and the package variables that the reading takes, are together of bulk at most 1048576: NARROWER than '..Said'. Prove '..Said' where nothing that the law and all that it calls make is longer than what came in: it says more and counts as full. Else prove '..UptoSaid'. A law counts once. -/
mutual
def uptoBulk {H : Type} : DataW H → Nat
  | .lit (.string bytes) => bytes.length + 1
  | .lit _ => 1
  | .nil => 1
  | .ptr d => uptoBulk d + 1
  | .slice elems spare => uptoBulkAll elems + uptoBulkAll spare + 1
  | .agg parts => uptoBulkAll parts + 1
  | .iface _ d => uptoBulk d + 1
  | .map entries => uptoBulkEntries entries + 1
  | .held _ => 1
def uptoBulkAll {H : Type} : List (DataW H) → Nat
  | [] => 0
  | d :: r => uptoBulk d + uptoBulkAll r
def uptoBulkEntries {H : Type} : List (Lit × DataW H) → Nat
  | [] => 0
  | x :: r => uptoBulkEntry x + uptoBulkEntries r
def uptoBulkEntry {H : Type} : Lit × DataW H → Nat
  | (.string bytes, d) => bytes.length + uptoBulk d + 1
  | (_, d) => uptoBulk d + 1
 end
def uptoSmall : (H : Type) → List (DataW H) → Bool := fun _ ds => decide (uptoBulkAll ds ≤ 1048576)
def OpenSpec.upto (s : _root_.Go.ChangeSpec) : _root_.Go.OpenSpec := { _root_.Go.OpenSpec.ofChange s with cond := some uptoSmall }

/-- 'laws.FnExactIsSource', WHERE WHAT IT READS IS OF BULK AT MOST 1048576: true; the input reads as it did. -/
def fnExactIsSourceUptoRow : OpenClaim := { program := "ytihoeimlkbjgmaa", sum := "98442658e1730afabbfa1e037cee81524dbfa07bdec2952cc43dbb26b000f7f0", func := "loop.example/g01121/laws.FnExactIsSource", spec := "fnExactIsSource", unfollowed := true, recurses := true, apart := false, narrowed := true }
def FnExactIsSourceUptoSaid : Prop := fnExactIsSourceUptoRow.holds Try.pinned (OpenSpec.upto fnExactIsSourceSpec)

/-- 'laws.FnExactValidWalk', WHERE WHAT IT READS IS OF BULK AT MOST 1048576: true; the input reads as it did. -/
def fnExactValidWalkUptoRow : OpenClaim := { program := "ytihoeimlkbjgmaa", sum := "98442658e1730afabbfa1e037cee81524dbfa07bdec2952cc43dbb26b000f7f0", func := "loop.example/g01121/laws.FnExactValidWalk", spec := "fnExactValidWalk", unfollowed := true, recurses := true, apart := false, narrowed := true }
def FnExactValidWalkUptoSaid : Prop := fnExactValidWalkUptoRow.holds Try.pinned (OpenSpec.upto fnExactValidWalkSpec)

/-- 'laws.FnExactGreatestOf', WHERE WHAT IT READS IS OF BULK AT MOST 1048576: true; the input reads as it did. -/
def fnExactGreatestOfUptoRow : OpenClaim := { program := "ytihoeimlkbjgmaa", sum := "98442658e1730afabbfa1e037cee81524dbfa07bdec2952cc43dbb26b000f7f0", func := "loop.example/g01121/laws.FnExactGreatestOf", spec := "fnExactGreatestOf", unfollowed := true, recurses := true, apart := false, narrowed := true }
def FnExactGreatestOfUptoSaid : Prop := fnExactGreatestOfUptoRow.holds Try.pinned (OpenSpec.upto fnExactGreatestOfSpec)

/-- 'laws.FnExactDistanceOf', WHERE WHAT IT READS IS OF BULK AT MOST 1048576: true; the input reads as it did. -/
def fnExactDistanceOfUptoRow : OpenClaim := { program := "ytihoeimlkbjgmaa", sum := "98442658e1730afabbfa1e037cee81524dbfa07bdec2952cc43dbb26b000f7f0", func := "loop.example/g01121/laws.FnExactDistanceOf", spec := "fnExactDistanceOf", unfollowed := true, recurses := true, apart := false, narrowed := true }
def FnExactDistanceOfUptoSaid : Prop := fnExactDistanceOfUptoRow.holds Try.pinned (OpenSpec.upto fnExactDistanceOfSpec)

/-- 'laws.FnExactCollisionOf', WHERE WHAT IT READS IS OF BULK AT MOST 1048576: true; the input reads as it did. -/
def fnExactCollisionOfUptoRow : OpenClaim := { program := "ytihoeimlkbjgmaa", sum := "98442658e1730afabbfa1e037cee81524dbfa07bdec2952cc43dbb26b000f7f0", func := "loop.example/g01121/laws.FnExactCollisionOf", spec := "fnExactCollisionOf", unfollowed := true, recurses := true, apart := false, narrowed := true }
def FnExactCollisionOfUptoSaid : Prop := fnExactCollisionOfUptoRow.holds Try.pinned (OpenSpec.upto fnExactCollisionOfSpec)

/-- 'laws.FnExactContractionOf', WHERE WHAT IT READS IS OF BULK AT MOST 1048576: true; the input reads as it did. -/
def fnExactContractionOfUptoRow : OpenClaim := { program := "ytihoeimlkbjgmaa", sum := "98442658e1730afabbfa1e037cee81524dbfa07bdec2952cc43dbb26b000f7f0", func := "loop.example/g01121/laws.FnExactContractionOf", spec := "fnExactContractionOf", unfollowed := true, recurses := true, apart := false, narrowed := true }
def FnExactContractionOfUptoSaid : Prop := fnExactContractionOfUptoRow.holds Try.pinned (OpenSpec.upto fnExactContractionOfSpec)

/-- 'laws.FnExactRiffleChance', WHERE WHAT IT READS IS OF BULK AT MOST 1048576: true; the input reads as it did. -/
def fnExactRiffleChanceUptoRow : OpenClaim := { program := "ytihoeimlkbjgmaa", sum := "98442658e1730afabbfa1e037cee81524dbfa07bdec2952cc43dbb26b000f7f0", func := "loop.example/g01121/laws.FnExactRiffleChance", spec := "fnExactRiffleChance", unfollowed := true, recurses := true, named := ["math/bits.divideError", "math/bits.overflowError"], apart := false, narrowed := true }
def FnExactRiffleChanceUptoSaid : Prop := fnExactRiffleChanceUptoRow.holds Try.pinned (OpenSpec.upto fnExactRiffleChanceSpec)

/-- 'laws.FnExactRiffleDistance', WHERE WHAT IT READS IS OF BULK AT MOST 1048576: true; the input reads as it did. -/
def fnExactRiffleDistanceUptoRow : OpenClaim := { program := "ytihoeimlkbjgmaa", sum := "98442658e1730afabbfa1e037cee81524dbfa07bdec2952cc43dbb26b000f7f0", func := "loop.example/g01121/laws.FnExactRiffleDistance", spec := "fnExactRiffleDistance", named := ["math/bits.divideError", "math/bits.overflowError"], apart := false, narrowed := true }
def FnExactRiffleDistanceUptoSaid : Prop := fnExactRiffleDistanceUptoRow.holds Try.pinned (OpenSpec.upto fnExactRiffleDistanceSpec)

/-- 'laws.FnBestRows', WHERE WHAT IT READS IS OF BULK AT MOST 1048576: true; the input reads as it did. -/
def fnBestRowsUptoRow : OpenClaim := { program := "ytihoeimlkbjgmaa", sum := "98442658e1730afabbfa1e037cee81524dbfa07bdec2952cc43dbb26b000f7f0", func := "loop.example/g01121/laws.FnBestRows", spec := "fnBestRows", unfollowed := true, recurses := true, apart := false, narrowed := true }
def FnBestRowsUptoSaid : Prop := fnBestRowsUptoRow.holds Try.pinned (OpenSpec.upto fnBestRowsSpec)

/-- 'laws.FnWalked', WHERE WHAT IT READS IS OF BULK AT MOST 1048576: true; the input reads as it did. -/
def fnWalkedUptoRow : OpenClaim := { program := "ytihoeimlkbjgmaa", sum := "98442658e1730afabbfa1e037cee81524dbfa07bdec2952cc43dbb26b000f7f0", func := "loop.example/g01121/laws.FnWalked", spec := "fnWalked", unfollowed := true, recurses := true, apart := false, narrowed := true }
def FnWalkedUptoSaid : Prop := fnWalkedUptoRow.holds Try.pinned (OpenSpec.upto fnWalkedSpec)

/-- 'laws.FnRiffled', WHERE WHAT IT READS IS OF BULK AT MOST 1048576: true; the input reads as it did. -/
def fnRiffledUptoRow : OpenClaim := { program := "ytihoeimlkbjgmaa", sum := "98442658e1730afabbfa1e037cee81524dbfa07bdec2952cc43dbb26b000f7f0", func := "loop.example/g01121/laws.FnRiffled", spec := "fnRiffled", unfollowed := true, recurses := true, named := ["math/bits.divideError", "math/bits.overflowError"], apart := false, narrowed := true }
def FnRiffledUptoSaid : Prop := fnRiffledUptoRow.holds Try.pinned (OpenSpec.upto fnRiffledSpec)

end Rows
end Go.Proofs.Ytihoeimlkbjgmaa
