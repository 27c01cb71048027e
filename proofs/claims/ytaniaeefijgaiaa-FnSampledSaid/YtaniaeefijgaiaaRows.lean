/-
  No cell of these rows narrows 'for every input' (looked for: loops, veiled, ifaces, maps, wideKeys, modest, calm, conditions, laid).
  DERIVED. THE GIVEN ROWS OF THIS SEAT. 17 by the template 'for every input the law returns true; each argument reads behind the call as it read before'; 0 by the template 'total and deterministic' (their statements: YtaniaeefijgaiaaTotals.lean).
  GIVEN WITH THE SEED: the statements are not yours to turn. If you find one false, say at which input.
  Laid BY PROGRAM, IN A SANDBOX (cutbox-rows.mjs): the forced cells as the released guide's own fill.sh prints them over the translation 00b42483e87085be… (all of the seat's roots in one cut). By AI agents, Wed Nov 11 2026. No macro, syntax, notation, axiom, sorry.
-/
import Derived.Test.YtaniaeefijgaiaaChecked
import GoSem.Claim
import GoSem.ClaimJoined
import GoSem.ClaimMapViews
import Derived.JoinedTies
import Derived.KernelRfl
namespace Go.Proofs.Ytaniaeefijgaiaa
/- THE CELL 'sum', in the pinned program and in every row, IS THE sha256 OF THE DUMP (.gsa) THAT YtaniaeefijgaiaaProg.lean LOADS. Nothing in Lean hashes anything: it is a label: what it is worth is what the hold of that sum in a sandbox is worth. -/
noncomputable def Try.pinned : Pinned := { name := "ytaniaeefijgaiaa", sum := "00b42483e87085beff19a598e44f997894bb453c1e027235a8eb1509f10d8983", checked := Try.checked }
namespace Rows
def none {H : Type} : Left H := { results := [], args := [] }

/-- 'laws.FnExactReservoirBy': WHATEVER THE INPUT: true; the input reads as it did. -/
def fnExactReservoirBySpec : ChangeSpec := { name := "fnExactReservoirBy", fn := fun _ => fun
  | [d1, d2] => { results := [.lit (.bool true)], args := [d1, d2] }
  | _ => none }
def fnExactReservoirByRow : OpenClaim := { program := "ytaniaeefijgaiaa", sum := "00b42483e87085beff19a598e44f997894bb453c1e027235a8eb1509f10d8983", func := "loop.example/g01121/laws.FnExactReservoirBy", spec := "fnExactReservoirBy", apart := false }
def FnExactReservoirBySaid : Prop := fnExactReservoirByRow.holds Try.pinned (OpenSpec.ofChange fnExactReservoirBySpec)

/-- ITS FALSE NEIGHBOUR: 'it returns false'. Refute it at one input. -/
def fnExactReservoirByWrong : ChangeSpec := { name := "fnExactReservoirBy", fn := fun _ => fun
  | [d1, d2] => { results := [.lit (.bool false)], args := [d1, d2] }
  | _ => none }
def FnExactReservoirByWrongFalsely : Prop := fnExactReservoirByRow.holds Try.pinned (OpenSpec.ofChange fnExactReservoirByWrong)

/-- 'laws.FnExactCyclicBy': WHATEVER THE INPUT: true; the input reads as it did. -/
def fnExactCyclicBySpec : ChangeSpec := { name := "fnExactCyclicBy", fn := fun _ => fun
  | [d] => { results := [.lit (.bool true)], args := [d] }
  | _ => none }
def fnExactCyclicByRow : OpenClaim := { program := "ytaniaeefijgaiaa", sum := "00b42483e87085beff19a598e44f997894bb453c1e027235a8eb1509f10d8983", func := "loop.example/g01121/laws.FnExactCyclicBy", spec := "fnExactCyclicBy", apart := false }
def FnExactCyclicBySaid : Prop := fnExactCyclicByRow.holds Try.pinned (OpenSpec.ofChange fnExactCyclicBySpec)

/-- ITS FALSE NEIGHBOUR: 'it returns false'. Refute it at one input. -/
def fnExactCyclicByWrong : ChangeSpec := { name := "fnExactCyclicBy", fn := fun _ => fun
  | [d] => { results := [.lit (.bool false)], args := [d] }
  | _ => none }
def FnExactCyclicByWrongFalsely : Prop := fnExactCyclicByRow.holds Try.pinned (OpenSpec.ofChange fnExactCyclicByWrong)

/-- 'laws.FnExactShuffleBy': WHATEVER THE INPUT: true; the input reads as it did. -/
def fnExactShuffleBySpec : ChangeSpec := { name := "fnExactShuffleBy", fn := fun _ => fun
  | [d] => { results := [.lit (.bool true)], args := [d] }
  | _ => none }
def fnExactShuffleByRow : OpenClaim := { program := "ytaniaeefijgaiaa", sum := "00b42483e87085beff19a598e44f997894bb453c1e027235a8eb1509f10d8983", func := "loop.example/g01121/laws.FnExactShuffleBy", spec := "fnExactShuffleBy", apart := false }
def FnExactShuffleBySaid : Prop := fnExactShuffleByRow.holds Try.pinned (OpenSpec.ofChange fnExactShuffleBySpec)

/-- ITS FALSE NEIGHBOUR: 'it returns false'. Refute it at one input. -/
def fnExactShuffleByWrong : ChangeSpec := { name := "fnExactShuffleBy", fn := fun _ => fun
  | [d] => { results := [.lit (.bool false)], args := [d] }
  | _ => none }
def FnExactShuffleByWrongFalsely : Prop := fnExactShuffleByRow.holds Try.pinned (OpenSpec.ofChange fnExactShuffleByWrong)

/-- 'laws.FnExactOrderAt': WHATEVER THE INPUT: true; the input reads as it did. -/
def fnExactOrderAtSpec : ChangeSpec := { name := "fnExactOrderAt", fn := fun _ => fun
  | [d1, d2] => { results := [.lit (.bool true)], args := [d1, d2] }
  | _ => none }
def fnExactOrderAtRow : OpenClaim := { program := "ytaniaeefijgaiaa", sum := "00b42483e87085beff19a598e44f997894bb453c1e027235a8eb1509f10d8983", func := "loop.example/g01121/laws.FnExactOrderAt", spec := "fnExactOrderAt", apart := false }
def FnExactOrderAtSaid : Prop := fnExactOrderAtRow.holds Try.pinned (OpenSpec.ofChange fnExactOrderAtSpec)

/-- ITS FALSE NEIGHBOUR: 'it returns false'. Refute it at one input. -/
def fnExactOrderAtWrong : ChangeSpec := { name := "fnExactOrderAt", fn := fun _ => fun
  | [d1, d2] => { results := [.lit (.bool false)], args := [d1, d2] }
  | _ => none }
def FnExactOrderAtWrongFalsely : Prop := fnExactOrderAtRow.holds Try.pinned (OpenSpec.ofChange fnExactOrderAtWrong)

/-- 'laws.FnExactNaiveBy': WHATEVER THE INPUT: true; the input reads as it did. -/
def fnExactNaiveBySpec : ChangeSpec := { name := "fnExactNaiveBy", fn := fun _ => fun
  | [d] => { results := [.lit (.bool true)], args := [d] }
  | _ => none }
def fnExactNaiveByRow : OpenClaim := { program := "ytaniaeefijgaiaa", sum := "00b42483e87085beff19a598e44f997894bb453c1e027235a8eb1509f10d8983", func := "loop.example/g01121/laws.FnExactNaiveBy", spec := "fnExactNaiveBy", unfollowed := true, recurses := true, apart := false }
def FnExactNaiveBySaid : Prop := fnExactNaiveByRow.holds Try.pinned (OpenSpec.ofChange fnExactNaiveBySpec)

/-- ITS FALSE NEIGHBOUR: 'it returns false'. Refute it at one input. -/
def fnExactNaiveByWrong : ChangeSpec := { name := "fnExactNaiveBy", fn := fun _ => fun
  | [d] => { results := [.lit (.bool false)], args := [d] }
  | _ => none }
def FnExactNaiveByWrongFalsely : Prop := fnExactNaiveByRow.holds Try.pinned (OpenSpec.ofChange fnExactNaiveByWrong)

/-- 'laws.FnExactNaiveCounts': WHATEVER THE INPUT: true; the input reads as it did. -/
def fnExactNaiveCountsSpec : ChangeSpec := { name := "fnExactNaiveCounts", fn := fun _ => fun
  | [d] => { results := [.lit (.bool true)], args := [d] }
  | _ => none }
def fnExactNaiveCountsRow : OpenClaim := { program := "ytaniaeefijgaiaa", sum := "00b42483e87085beff19a598e44f997894bb453c1e027235a8eb1509f10d8983", func := "loop.example/g01121/laws.FnExactNaiveCounts", spec := "fnExactNaiveCounts", apart := false }
def FnExactNaiveCountsSaid : Prop := fnExactNaiveCountsRow.holds Try.pinned (OpenSpec.ofChange fnExactNaiveCountsSpec)

/-- ITS FALSE NEIGHBOUR: 'it returns false'. Refute it at one input. -/
def fnExactNaiveCountsWrong : ChangeSpec := { name := "fnExactNaiveCounts", fn := fun _ => fun
  | [d] => { results := [.lit (.bool false)], args := [d] }
  | _ => none }
def FnExactNaiveCountsWrongFalsely : Prop := fnExactNaiveCountsRow.holds Try.pinned (OpenSpec.ofChange fnExactNaiveCountsWrong)

/-- 'laws.FnExactSetAt': WHATEVER THE INPUT: true; the input reads as it did. -/
def fnExactSetAtSpec : ChangeSpec := { name := "fnExactSetAt", fn := fun _ => fun
  | [d1, d2, d3] => { results := [.lit (.bool true)], args := [d1, d2, d3] }
  | _ => none }
def fnExactSetAtRow : OpenClaim := { program := "ytaniaeefijgaiaa", sum := "00b42483e87085beff19a598e44f997894bb453c1e027235a8eb1509f10d8983", func := "loop.example/g01121/laws.FnExactSetAt", spec := "fnExactSetAt", named := ["math/bits.divideError", "math/bits.overflowError"], apart := false }
def FnExactSetAtSaid : Prop := fnExactSetAtRow.holds Try.pinned (OpenSpec.ofChange fnExactSetAtSpec)

/-- ITS FALSE NEIGHBOUR: 'it returns false'. Refute it at one input. -/
def fnExactSetAtWrong : ChangeSpec := { name := "fnExactSetAt", fn := fun _ => fun
  | [d1, d2, d3] => { results := [.lit (.bool false)], args := [d1, d2, d3] }
  | _ => none }
def FnExactSetAtWrongFalsely : Prop := fnExactSetAtRow.holds Try.pinned (OpenSpec.ofChange fnExactSetAtWrong)

/-- 'laws.FnExactRankSet': WHATEVER THE INPUT: true; the input reads as it did. -/
def fnExactRankSetSpec : ChangeSpec := { name := "fnExactRankSet", fn := fun _ => fun
  | [d1, d2] => { results := [.lit (.bool true)], args := [d1, d2] }
  | _ => none }
def fnExactRankSetRow : OpenClaim := { program := "ytaniaeefijgaiaa", sum := "00b42483e87085beff19a598e44f997894bb453c1e027235a8eb1509f10d8983", func := "loop.example/g01121/laws.FnExactRankSet", spec := "fnExactRankSet", unfollowed := true, recurses := true, named := ["math/bits.divideError", "math/bits.overflowError"], apart := false }
def FnExactRankSetSaid : Prop := fnExactRankSetRow.holds Try.pinned (OpenSpec.ofChange fnExactRankSetSpec)

/-- ITS FALSE NEIGHBOUR: 'it returns false'. Refute it at one input. -/
def fnExactRankSetWrong : ChangeSpec := { name := "fnExactRankSet", fn := fun _ => fun
  | [d1, d2] => { results := [.lit (.bool false)], args := [d1, d2] }
  | _ => none }
def FnExactRankSetWrongFalsely : Prop := fnExactRankSetRow.holds Try.pinned (OpenSpec.ofChange fnExactRankSetWrong)

/-- 'laws.FnExactIsOrder': WHATEVER THE INPUT: true; the input reads as it did. -/
def fnExactIsOrderSpec : ChangeSpec := { name := "fnExactIsOrder", fn := fun _ => fun
  | [d] => { results := [.lit (.bool true)], args := [d] }
  | _ => none }
def fnExactIsOrderRow : OpenClaim := { program := "ytaniaeefijgaiaa", sum := "00b42483e87085beff19a598e44f997894bb453c1e027235a8eb1509f10d8983", func := "loop.example/g01121/laws.FnExactIsOrder", spec := "fnExactIsOrder", unfollowed := true, recurses := true, apart := false }
def FnExactIsOrderSaid : Prop := fnExactIsOrderRow.holds Try.pinned (OpenSpec.ofChange fnExactIsOrderSpec)

/-- ITS FALSE NEIGHBOUR: 'it returns false'. Refute it at one input. -/
def fnExactIsOrderWrong : ChangeSpec := { name := "fnExactIsOrder", fn := fun _ => fun
  | [d] => { results := [.lit (.bool false)], args := [d] }
  | _ => none }
def FnExactIsOrderWrongFalsely : Prop := fnExactIsOrderRow.holds Try.pinned (OpenSpec.ofChange fnExactIsOrderWrong)

/-- 'laws.FnExactSampleBy': WHATEVER THE INPUT: true; the input reads as it did. -/
def fnExactSampleBySpec : ChangeSpec := { name := "fnExactSampleBy", fn := fun _ => fun
  | [d1, d2] => { results := [.lit (.bool true)], args := [d1, d2] }
  | _ => none }
def fnExactSampleByRow : OpenClaim := { program := "ytaniaeefijgaiaa", sum := "00b42483e87085beff19a598e44f997894bb453c1e027235a8eb1509f10d8983", func := "loop.example/g01121/laws.FnExactSampleBy", spec := "fnExactSampleBy", recurses := true, apart := false }
def FnExactSampleBySaid : Prop := fnExactSampleByRow.holds Try.pinned (OpenSpec.ofChange fnExactSampleBySpec)

/-- ITS FALSE NEIGHBOUR: 'it returns false'. Refute it at one input. -/
def fnExactSampleByWrong : ChangeSpec := { name := "fnExactSampleBy", fn := fun _ => fun
  | [d1, d2] => { results := [.lit (.bool false)], args := [d1, d2] }
  | _ => none }
def FnExactSampleByWrongFalsely : Prop := fnExactSampleByRow.holds Try.pinned (OpenSpec.ofChange fnExactSampleByWrong)

/-- 'laws.FnExactRisingOf': WHATEVER THE INPUT: true; the input reads as it did. -/
def fnExactRisingOfSpec : ChangeSpec := { name := "fnExactRisingOf", fn := fun _ => fun
  | [d] => { results := [.lit (.bool true)], args := [d] }
  | _ => none }
def fnExactRisingOfRow : OpenClaim := { program := "ytaniaeefijgaiaa", sum := "00b42483e87085beff19a598e44f997894bb453c1e027235a8eb1509f10d8983", func := "loop.example/g01121/laws.FnExactRisingOf", spec := "fnExactRisingOf", unfollowed := true, recurses := true, apart := false }
def FnExactRisingOfSaid : Prop := fnExactRisingOfRow.holds Try.pinned (OpenSpec.ofChange fnExactRisingOfSpec)

/-- ITS FALSE NEIGHBOUR: 'it returns false'. Refute it at one input. -/
def fnExactRisingOfWrong : ChangeSpec := { name := "fnExactRisingOf", fn := fun _ => fun
  | [d] => { results := [.lit (.bool false)], args := [d] }
  | _ => none }
def FnExactRisingOfWrongFalsely : Prop := fnExactRisingOfRow.holds Try.pinned (OpenSpec.ofChange fnExactRisingOfWrong)

/-- 'laws.FnExactRankOrder': WHATEVER THE INPUT: true; the input reads as it did. -/
def fnExactRankOrderSpec : ChangeSpec := { name := "fnExactRankOrder", fn := fun _ => fun
  | [d] => { results := [.lit (.bool true)], args := [d] }
  | _ => none }
def fnExactRankOrderRow : OpenClaim := { program := "ytaniaeefijgaiaa", sum := "00b42483e87085beff19a598e44f997894bb453c1e027235a8eb1509f10d8983", func := "loop.example/g01121/laws.FnExactRankOrder", spec := "fnExactRankOrder", unfollowed := true, recurses := true, apart := false }
def FnExactRankOrderSaid : Prop := fnExactRankOrderRow.holds Try.pinned (OpenSpec.ofChange fnExactRankOrderSpec)

/-- ITS FALSE NEIGHBOUR: 'it returns false'. Refute it at one input. -/
def fnExactRankOrderWrong : ChangeSpec := { name := "fnExactRankOrder", fn := fun _ => fun
  | [d] => { results := [.lit (.bool false)], args := [d] }
  | _ => none }
def FnExactRankOrderWrongFalsely : Prop := fnExactRankOrderRow.holds Try.pinned (OpenSpec.ofChange fnExactRankOrderWrong)

/-- 'laws.FnExactChoicesOf': WHATEVER THE INPUT: true; the input reads as it did. -/
def fnExactChoicesOfSpec : ChangeSpec := { name := "fnExactChoicesOf", fn := fun _ => fun
  | [d] => { results := [.lit (.bool true)], args := [d] }
  | _ => none }
def fnExactChoicesOfRow : OpenClaim := { program := "ytaniaeefijgaiaa", sum := "00b42483e87085beff19a598e44f997894bb453c1e027235a8eb1509f10d8983", func := "loop.example/g01121/laws.FnExactChoicesOf", spec := "fnExactChoicesOf", unfollowed := true, recurses := true, apart := false }
def FnExactChoicesOfSaid : Prop := fnExactChoicesOfRow.holds Try.pinned (OpenSpec.ofChange fnExactChoicesOfSpec)

/-- ITS FALSE NEIGHBOUR: 'it returns false'. Refute it at one input. -/
def fnExactChoicesOfWrong : ChangeSpec := { name := "fnExactChoicesOf", fn := fun _ => fun
  | [d] => { results := [.lit (.bool false)], args := [d] }
  | _ => none }
def FnExactChoicesOfWrongFalsely : Prop := fnExactChoicesOfRow.holds Try.pinned (OpenSpec.ofChange fnExactChoicesOfWrong)

/-- 'laws.FnExactCyclesOf': WHATEVER THE INPUT: true; the input reads as it did. -/
def fnExactCyclesOfSpec : ChangeSpec := { name := "fnExactCyclesOf", fn := fun _ => fun
  | [d] => { results := [.lit (.bool true)], args := [d] }
  | _ => none }
def fnExactCyclesOfRow : OpenClaim := { program := "ytaniaeefijgaiaa", sum := "00b42483e87085beff19a598e44f997894bb453c1e027235a8eb1509f10d8983", func := "loop.example/g01121/laws.FnExactCyclesOf", spec := "fnExactCyclesOf", unfollowed := true, recurses := true, apart := false }
def FnExactCyclesOfSaid : Prop := fnExactCyclesOfRow.holds Try.pinned (OpenSpec.ofChange fnExactCyclesOfSpec)

/-- ITS FALSE NEIGHBOUR: 'it returns false'. Refute it at one input. -/
def fnExactCyclesOfWrong : ChangeSpec := { name := "fnExactCyclesOf", fn := fun _ => fun
  | [d] => { results := [.lit (.bool false)], args := [d] }
  | _ => none }
def FnExactCyclesOfWrongFalsely : Prop := fnExactCyclesOfRow.holds Try.pinned (OpenSpec.ofChange fnExactCyclesOfWrong)

/-- 'laws.FnSampled': WHATEVER THE INPUT: true; the input reads as it did. -/
def fnSampledSpec : ChangeSpec := { name := "fnSampled", fn := fun _ => fun
  | [d1, d2] => { results := [.lit (.bool true)], args := [d1, d2] }
  | _ => none }
def fnSampledRow : OpenClaim := { program := "ytaniaeefijgaiaa", sum := "00b42483e87085beff19a598e44f997894bb453c1e027235a8eb1509f10d8983", func := "loop.example/g01121/laws.FnSampled", spec := "fnSampled", unfollowed := true, recurses := true, named := ["math/bits.divideError", "math/bits.overflowError"], apart := false }
def FnSampledSaid : Prop := fnSampledRow.holds Try.pinned (OpenSpec.ofChange fnSampledSpec)

/-- ITS FALSE NEIGHBOUR: 'it returns false'. Refute it at one input. -/
def fnSampledWrong : ChangeSpec := { name := "fnSampled", fn := fun _ => fun
  | [d1, d2] => { results := [.lit (.bool false)], args := [d1, d2] }
  | _ => none }
def FnSampledWrongFalsely : Prop := fnSampledRow.holds Try.pinned (OpenSpec.ofChange fnSampledWrong)

/-- 'laws.FnShuffled': WHATEVER THE INPUT: true; the input reads as it did. -/
def fnShuffledSpec : ChangeSpec := { name := "fnShuffled", fn := fun _ => fun
  | [d1, d2] => { results := [.lit (.bool true)], args := [d1, d2] }
  | _ => none }
def fnShuffledRow : OpenClaim := { program := "ytaniaeefijgaiaa", sum := "00b42483e87085beff19a598e44f997894bb453c1e027235a8eb1509f10d8983", func := "loop.example/g01121/laws.FnShuffled", spec := "fnShuffled", unfollowed := true, recurses := true, apart := false }
def FnShuffledSaid : Prop := fnShuffledRow.holds Try.pinned (OpenSpec.ofChange fnShuffledSpec)

/-- ITS FALSE NEIGHBOUR: 'it returns false'. Refute it at one input. -/
def fnShuffledWrong : ChangeSpec := { name := "fnShuffled", fn := fun _ => fun
  | [d1, d2] => { results := [.lit (.bool false)], args := [d1, d2] }
  | _ => none }
def FnShuffledWrongFalsely : Prop := fnShuffledRow.holds Try.pinned (OpenSpec.ofChange fnShuffledWrong)

/-- 'laws.FnOrderCounts': WHATEVER THE INPUT: true; the input reads as it did. -/
def fnOrderCountsSpec : ChangeSpec := { name := "fnOrderCounts", fn := fun _ => fun
  | [d1, d2] => { results := [.lit (.bool true)], args := [d1, d2] }
  | _ => none }
def fnOrderCountsRow : OpenClaim := { program := "ytaniaeefijgaiaa", sum := "00b42483e87085beff19a598e44f997894bb453c1e027235a8eb1509f10d8983", func := "loop.example/g01121/laws.FnOrderCounts", spec := "fnOrderCounts", unfollowed := true, recurses := true, apart := false }
def FnOrderCountsSaid : Prop := fnOrderCountsRow.holds Try.pinned (OpenSpec.ofChange fnOrderCountsSpec)

/-- ITS FALSE NEIGHBOUR: 'it returns false'. Refute it at one input. -/
def fnOrderCountsWrong : ChangeSpec := { name := "fnOrderCounts", fn := fun _ => fun
  | [d1, d2] => { results := [.lit (.bool false)], args := [d1, d2] }
  | _ => none }
def FnOrderCountsWrongFalsely : Prop := fnOrderCountsRow.holds Try.pinned (OpenSpec.ofChange fnOrderCountsWrong)

/- THE SECOND FORM. 'bulk': how many values and letters a reading holds, each counted each time it is reached (what is shared counts as often as it is met; a slice's spare places count too). A statement '..UptoSaid' is the law's where the arguments, and the package variables that the reading takes, are together of bulk at most 1048576: NARROWER than '..Said'. Prove '..Said' where nothing that the law and all that it calls make is longer than what came in: it says more and counts as full. Else prove '..UptoSaid'. A law counts once. -/
mutual
def uptoBulk {H : Type} : DataW H → Nat
  | .lit (.string bytes) => bytes.length + 1
  | .lit _ => 1
  | .nil => 1
  | .ptr d => uptoBulk d + 1
  | .slice elems spare => uptoBulkAll elems + uptoBulkAll spare + 1
  | .agg parts => uptoBulkAll parts + 1
  | .iface _ d => uptoBulk d + 1
  | .map entries => uptoBulkEntries entries + 1
  | .held _ => 1
def uptoBulkAll {H : Type} : List (DataW H) → Nat
  | [] => 0
  | d :: r => uptoBulk d + uptoBulkAll r
def uptoBulkEntries {H : Type} : List (Lit × DataW H) → Nat
  | [] => 0
  | x :: r => uptoBulkEntry x + uptoBulkEntries r
def uptoBulkEntry {H : Type} : Lit × DataW H → Nat
  | (.string bytes, d) => bytes.length + uptoBulk d + 1
  | (_, d) => uptoBulk d + 1
 end
def uptoSmall : (H : Type) → List (DataW H) → Bool := fun _ ds => decide (uptoBulkAll ds ≤ 1048576)
def OpenSpec.upto (s : _root_.Go.ChangeSpec) : _root_.Go.OpenSpec := { _root_.Go.OpenSpec.ofChange s with cond := some uptoSmall }

/-- 'laws.FnExactReservoirBy', WHERE WHAT IT READS IS OF BULK AT MOST 1048576: true; the input reads as it did. -/
def fnExactReservoirByUptoRow : OpenClaim := { program := "ytaniaeefijgaiaa", sum := "00b42483e87085beff19a598e44f997894bb453c1e027235a8eb1509f10d8983", func := "loop.example/g01121/laws.FnExactReservoirBy", spec := "fnExactReservoirBy", apart := false, narrowed := true }
def FnExactReservoirByUptoSaid : Prop := fnExactReservoirByUptoRow.holds Try.pinned (OpenSpec.upto fnExactReservoirBySpec)

/-- 'laws.FnExactCyclicBy', WHERE WHAT IT READS IS OF BULK AT MOST 1048576: true; the input reads as it did. -/
def fnExactCyclicByUptoRow : OpenClaim := { program := "ytaniaeefijgaiaa", sum := "00b42483e87085beff19a598e44f997894bb453c1e027235a8eb1509f10d8983", func := "loop.example/g01121/laws.FnExactCyclicBy", spec := "fnExactCyclicBy", apart := false, narrowed := true }
def FnExactCyclicByUptoSaid : Prop := fnExactCyclicByUptoRow.holds Try.pinned (OpenSpec.upto fnExactCyclicBySpec)

/-- 'laws.FnExactShuffleBy', WHERE WHAT IT READS IS OF BULK AT MOST 1048576: true; the input reads as it did. -/
def fnExactShuffleByUptoRow : OpenClaim := { program := "ytaniaeefijgaiaa", sum := "00b42483e87085beff19a598e44f997894bb453c1e027235a8eb1509f10d8983", func := "loop.example/g01121/laws.FnExactShuffleBy", spec := "fnExactShuffleBy", apart := false, narrowed := true }
def FnExactShuffleByUptoSaid : Prop := fnExactShuffleByUptoRow.holds Try.pinned (OpenSpec.upto fnExactShuffleBySpec)

/-- 'laws.FnExactOrderAt', WHERE WHAT IT READS IS OF BULK AT MOST 1048576: true; the input reads as it did. -/
def fnExactOrderAtUptoRow : OpenClaim := { program := "ytaniaeefijgaiaa", sum := "00b42483e87085beff19a598e44f997894bb453c1e027235a8eb1509f10d8983", func := "loop.example/g01121/laws.FnExactOrderAt", spec := "fnExactOrderAt", apart := false, narrowed := true }
def FnExactOrderAtUptoSaid : Prop := fnExactOrderAtUptoRow.holds Try.pinned (OpenSpec.upto fnExactOrderAtSpec)

/-- 'laws.FnExactNaiveBy', WHERE WHAT IT READS IS OF BULK AT MOST 1048576: true; the input reads as it did. -/
def fnExactNaiveByUptoRow : OpenClaim := { program := "ytaniaeefijgaiaa", sum := "00b42483e87085beff19a598e44f997894bb453c1e027235a8eb1509f10d8983", func := "loop.example/g01121/laws.FnExactNaiveBy", spec := "fnExactNaiveBy", unfollowed := true, recurses := true, apart := false, narrowed := true }
def FnExactNaiveByUptoSaid : Prop := fnExactNaiveByUptoRow.holds Try.pinned (OpenSpec.upto fnExactNaiveBySpec)

/-- 'laws.FnExactNaiveCounts', WHERE WHAT IT READS IS OF BULK AT MOST 1048576: true; the input reads as it did. -/
def fnExactNaiveCountsUptoRow : OpenClaim := { program := "ytaniaeefijgaiaa", sum := "00b42483e87085beff19a598e44f997894bb453c1e027235a8eb1509f10d8983", func := "loop.example/g01121/laws.FnExactNaiveCounts", spec := "fnExactNaiveCounts", apart := false, narrowed := true }
def FnExactNaiveCountsUptoSaid : Prop := fnExactNaiveCountsUptoRow.holds Try.pinned (OpenSpec.upto fnExactNaiveCountsSpec)

/-- 'laws.FnExactSetAt', WHERE WHAT IT READS IS OF BULK AT MOST 1048576: true; the input reads as it did. -/
def fnExactSetAtUptoRow : OpenClaim := { program := "ytaniaeefijgaiaa", sum := "00b42483e87085beff19a598e44f997894bb453c1e027235a8eb1509f10d8983", func := "loop.example/g01121/laws.FnExactSetAt", spec := "fnExactSetAt", named := ["math/bits.divideError", "math/bits.overflowError"], apart := false, narrowed := true }
def FnExactSetAtUptoSaid : Prop := fnExactSetAtUptoRow.holds Try.pinned (OpenSpec.upto fnExactSetAtSpec)

/-- 'laws.FnExactRankSet', WHERE WHAT IT READS IS OF BULK AT MOST 1048576: true; the input reads as it did. -/
def fnExactRankSetUptoRow : OpenClaim := { program := "ytaniaeefijgaiaa", sum := "00b42483e87085beff19a598e44f997894bb453c1e027235a8eb1509f10d8983", func := "loop.example/g01121/laws.FnExactRankSet", spec := "fnExactRankSet", unfollowed := true, recurses := true, named := ["math/bits.divideError", "math/bits.overflowError"], apart := false, narrowed := true }
def FnExactRankSetUptoSaid : Prop := fnExactRankSetUptoRow.holds Try.pinned (OpenSpec.upto fnExactRankSetSpec)

/-- 'laws.FnExactIsOrder', WHERE WHAT IT READS IS OF BULK AT MOST 1048576: true; the input reads as it did. -/
def fnExactIsOrderUptoRow : OpenClaim := { program := "ytaniaeefijgaiaa", sum := "00b42483e87085beff19a598e44f997894bb453c1e027235a8eb1509f10d8983", func := "loop.example/g01121/laws.FnExactIsOrder", spec := "fnExactIsOrder", unfollowed := true, recurses := true, apart := false, narrowed := true }
def FnExactIsOrderUptoSaid : Prop := fnExactIsOrderUptoRow.holds Try.pinned (OpenSpec.upto fnExactIsOrderSpec)

/-- 'laws.FnExactSampleBy', WHERE WHAT IT READS IS OF BULK AT MOST 1048576: true; the input reads as it did. -/
def fnExactSampleByUptoRow : OpenClaim := { program := "ytaniaeefijgaiaa", sum := "00b42483e87085beff19a598e44f997894bb453c1e027235a8eb1509f10d8983", func := "loop.example/g01121/laws.FnExactSampleBy", spec := "fnExactSampleBy", recurses := true, apart := false, narrowed := true }
def FnExactSampleByUptoSaid : Prop := fnExactSampleByUptoRow.holds Try.pinned (OpenSpec.upto fnExactSampleBySpec)

/-- 'laws.FnExactRisingOf', WHERE WHAT IT READS IS OF BULK AT MOST 1048576: true; the input reads as it did. -/
def fnExactRisingOfUptoRow : OpenClaim := { program := "ytaniaeefijgaiaa", sum := "00b42483e87085beff19a598e44f997894bb453c1e027235a8eb1509f10d8983", func := "loop.example/g01121/laws.FnExactRisingOf", spec := "fnExactRisingOf", unfollowed := true, recurses := true, apart := false, narrowed := true }
def FnExactRisingOfUptoSaid : Prop := fnExactRisingOfUptoRow.holds Try.pinned (OpenSpec.upto fnExactRisingOfSpec)

/-- 'laws.FnExactRankOrder', WHERE WHAT IT READS IS OF BULK AT MOST 1048576: true; the input reads as it did. -/
def fnExactRankOrderUptoRow : OpenClaim := { program := "ytaniaeefijgaiaa", sum := "00b42483e87085beff19a598e44f997894bb453c1e027235a8eb1509f10d8983", func := "loop.example/g01121/laws.FnExactRankOrder", spec := "fnExactRankOrder", unfollowed := true, recurses := true, apart := false, narrowed := true }
def FnExactRankOrderUptoSaid : Prop := fnExactRankOrderUptoRow.holds Try.pinned (OpenSpec.upto fnExactRankOrderSpec)

/-- 'laws.FnExactChoicesOf', WHERE WHAT IT READS IS OF BULK AT MOST 1048576: true; the input reads as it did. -/
def fnExactChoicesOfUptoRow : OpenClaim := { program := "ytaniaeefijgaiaa", sum := "00b42483e87085beff19a598e44f997894bb453c1e027235a8eb1509f10d8983", func := "loop.example/g01121/laws.FnExactChoicesOf", spec := "fnExactChoicesOf", unfollowed := true, recurses := true, apart := false, narrowed := true }
def FnExactChoicesOfUptoSaid : Prop := fnExactChoicesOfUptoRow.holds Try.pinned (OpenSpec.upto fnExactChoicesOfSpec)

/-- 'laws.FnExactCyclesOf', WHERE WHAT IT READS IS OF BULK AT MOST 1048576: true; the input reads as it did. -/
def fnExactCyclesOfUptoRow : OpenClaim := { program := "ytaniaeefijgaiaa", sum := "00b42483e87085beff19a598e44f997894bb453c1e027235a8eb1509f10d8983", func := "loop.example/g01121/laws.FnExactCyclesOf", spec := "fnExactCyclesOf", unfollowed := true, recurses := true, apart := false, narrowed := true }
def FnExactCyclesOfUptoSaid : Prop := fnExactCyclesOfUptoRow.holds Try.pinned (OpenSpec.upto fnExactCyclesOfSpec)

/-- 'laws.FnSampled', WHERE WHAT IT READS IS OF BULK AT MOST 1048576: true; the input reads as it did. -/
def fnSampledUptoRow : OpenClaim := { program := "ytaniaeefijgaiaa", sum := "00b42483e87085beff19a598e44f997894bb453c1e027235a8eb1509f10d8983", func := "loop.example/g01121/laws.FnSampled", spec := "fnSampled", unfollowed := true, recurses := true, named := ["math/bits.divideError", "math/bits.overflowError"], apart := false, narrowed := true }
def FnSampledUptoSaid : Prop := fnSampledUptoRow.holds Try.pinned (OpenSpec.upto fnSampledSpec)

/-- 'laws.FnShuffled', WHERE WHAT IT READS IS OF BULK AT MOST 1048576: true; the input reads as it did. -/
def fnShuffledUptoRow : OpenClaim := { program := "ytaniaeefijgaiaa", sum := "00b42483e87085beff19a598e44f997894bb453c1e027235a8eb1509f10d8983", func := "loop.example/g01121/laws.FnShuffled", spec := "fnShuffled", unfollowed := true, recurses := true, apart := false, narrowed := true }
def FnShuffledUptoSaid : Prop := fnShuffledUptoRow.holds Try.pinned (OpenSpec.upto fnShuffledSpec)

/-- 'laws.FnOrderCounts', WHERE WHAT IT READS IS OF BULK AT MOST 1048576: true; the input reads as it did. -/
def fnOrderCountsUptoRow : OpenClaim := { program := "ytaniaeefijgaiaa", sum := "00b42483e87085beff19a598e44f997894bb453c1e027235a8eb1509f10d8983", func := "loop.example/g01121/laws.FnOrderCounts", spec := "fnOrderCounts", unfollowed := true, recurses := true, apart := false, narrowed := true }
def FnOrderCountsUptoSaid : Prop := fnOrderCountsUptoRow.holds Try.pinned (OpenSpec.upto fnOrderCountsSpec)

end Rows
end Go.Proofs.Ytaniaeefijgaiaa
