/-
  No cell of these rows narrows 'for every input' (looked for: loops, veiled, ifaces, maps, wideKeys, modest, calm, conditions, laid).
  DERIVED. THE GIVEN ROWS OF THIS SEAT. 4 by the template 'for every input the law returns true; each argument reads behind the call as it read before'; 0 by the template 'total and deterministic' (their statements: YtcghfhlmhmnioaaTotals.lean).
  GIVEN WITH THE SEED: the statements are not yours to turn. If you find one false, say at which input.
  Laid BY PROGRAM, IN A SANDBOX (cutbox-rows.mjs): the forced cells as the released guide's own fill.sh prints them over the translation f6a7c9cac4560ee3… (all of the seat's roots in one cut). By AI agents, Wed Nov 11 2026. No macro, syntax, notation, axiom, sorry.
-/
import Derived.Test.YtcghfhlmhmnioaaChecked
import GoSem.Claim
import GoSem.ClaimJoined
import GoSem.ClaimMapViews
import Derived.JoinedTies
import Derived.KernelRfl
namespace Go.Proofs.Ytcghfhlmhmnioaa
/- THE CELL 'sum', in the pinned program and in every row, IS THE sha256 OF THE DUMP (.gsa) THAT YtcghfhlmhmnioaaProg.lean LOADS. Nothing in Lean hashes anything: it is a label: what it is worth is what the hold of that sum in a sandbox is worth. -/
noncomputable def Try.pinned : Pinned := { name := "ytcghfhlmhmnioaa", sum := "f6a7c9cac4560ee34c62717f4ccf50f002b1a7420e2e0d2e9c2c52dc89496b07", checked := Try.checked }
namespace Rows
def none {H : Type} : Left H := { results := [], args := [] }

/-- 'laws.FnExactValidTemper': WHATEVER THE INPUT: true; the input reads as it did. -/
def fnExactValidTemperSpec : ChangeSpec := { name := "fnExactValidTemper", fn := fun _ => fun
  | [d] => { results := [.lit (.bool true)], args := [d] }
  | _ => none }
def fnExactValidTemperRow : OpenClaim := { program := "ytcghfhlmhmnioaa", sum := "f6a7c9cac4560ee34c62717f4ccf50f002b1a7420e2e0d2e9c2c52dc89496b07", func := "loop.example/g01121/laws.FnExactValidTemper", spec := "fnExactValidTemper", unfollowed := true, recurses := true, apart := false }
def FnExactValidTemperSaid : Prop := fnExactValidTemperRow.holds Try.pinned (OpenSpec.ofChange fnExactValidTemperSpec)

/-- ITS FALSE NEIGHBOUR: 'it returns false'. Refute it at one input. -/
def fnExactValidTemperWrong : ChangeSpec := { name := "fnExactValidTemper", fn := fun _ => fun
  | [d] => { results := [.lit (.bool false)], args := [d] }
  | _ => none }
def FnExactValidTemperWrongFalsely : Prop := fnExactValidTemperRow.holds Try.pinned (OpenSpec.ofChange fnExactValidTemperWrong)

/-- 'laws.FnExactCountCycles': WHATEVER THE INPUT: true; the input reads as it did. -/
def fnExactCountCyclesSpec : ChangeSpec := { name := "fnExactCountCycles", fn := fun _ => fun
  | [d1, d2] => { results := [.lit (.bool true)], args := [d1, d2] }
  | _ => none }
def fnExactCountCyclesRow : OpenClaim := { program := "ytcghfhlmhmnioaa", sum := "f6a7c9cac4560ee34c62717f4ccf50f002b1a7420e2e0d2e9c2c52dc89496b07", func := "loop.example/g01121/laws.FnExactCountCycles", spec := "fnExactCountCycles", apart := false }
def FnExactCountCyclesSaid : Prop := fnExactCountCyclesRow.holds Try.pinned (OpenSpec.ofChange fnExactCountCyclesSpec)

/-- ITS FALSE NEIGHBOUR: 'it returns false'. Refute it at one input. -/
def fnExactCountCyclesWrong : ChangeSpec := { name := "fnExactCountCycles", fn := fun _ => fun
  | [d1, d2] => { results := [.lit (.bool false)], args := [d1, d2] }
  | _ => none }
def FnExactCountCyclesWrongFalsely : Prop := fnExactCountCyclesRow.holds Try.pinned (OpenSpec.ofChange fnExactCountCyclesWrong)

/-- 'laws.FnExactCountRising': WHATEVER THE INPUT: true; the input reads as it did. -/
def fnExactCountRisingSpec : ChangeSpec := { name := "fnExactCountRising", fn := fun _ => fun
  | [d1, d2] => { results := [.lit (.bool true)], args := [d1, d2] }
  | _ => none }
def fnExactCountRisingRow : OpenClaim := { program := "ytcghfhlmhmnioaa", sum := "f6a7c9cac4560ee34c62717f4ccf50f002b1a7420e2e0d2e9c2c52dc89496b07", func := "loop.example/g01121/laws.FnExactCountRising", spec := "fnExactCountRising", apart := false }
def FnExactCountRisingSaid : Prop := fnExactCountRisingRow.holds Try.pinned (OpenSpec.ofChange fnExactCountRisingSpec)

/-- ITS FALSE NEIGHBOUR: 'it returns false'. Refute it at one input. -/
def fnExactCountRisingWrong : ChangeSpec := { name := "fnExactCountRising", fn := fun _ => fun
  | [d1, d2] => { results := [.lit (.bool false)], args := [d1, d2] }
  | _ => none }
def FnExactCountRisingWrongFalsely : Prop := fnExactCountRisingRow.holds Try.pinned (OpenSpec.ofChange fnExactCountRisingWrong)

/-- 'laws.FnExactTemperWord': WHATEVER THE INPUT: true; the input reads as it did. -/
def fnExactTemperWordSpec : ChangeSpec := { name := "fnExactTemperWord", fn := fun _ => fun
  | [d1, d2] => { results := [.lit (.bool true)], args := [d1, d2] }
  | _ => none }
def fnExactTemperWordRow : OpenClaim := { program := "ytcghfhlmhmnioaa", sum := "f6a7c9cac4560ee34c62717f4ccf50f002b1a7420e2e0d2e9c2c52dc89496b07", func := "loop.example/g01121/laws.FnExactTemperWord", spec := "fnExactTemperWord", unfollowed := true, recurses := true, apart := false }
def FnExactTemperWordSaid : Prop := fnExactTemperWordRow.holds Try.pinned (OpenSpec.ofChange fnExactTemperWordSpec)

/-- ITS FALSE NEIGHBOUR: 'it returns false'. Refute it at one input. -/
def fnExactTemperWordWrong : ChangeSpec := { name := "fnExactTemperWord", fn := fun _ => fun
  | [d1, d2] => { results := [.lit (.bool false)], args := [d1, d2] }
  | _ => none }
def FnExactTemperWordWrongFalsely : Prop := fnExactTemperWordRow.holds Try.pinned (OpenSpec.ofChange fnExactTemperWordWrong)

/- THE SECOND FORM. 'bulk': how many values and letters a reading holds, each counted each time it is reached (what is shared counts as often as it is met; a slice's spare places count too). A statement '..UptoSaid' is the law's where the arguments, and the package variables that the reading takes, are together of bulk at most 1048576: NARROWER than '..Said'. Prove '..Said' where nothing that the law and all that it calls make is longer than what came in: it says more and counts as full. Else prove '..UptoSaid'. A law counts once. -/
mutual
def uptoBulk {H : Type} : DataW H → Nat
  | .lit (.string bytes) => bytes.length + 1
  | .lit _ => 1
  | .nil => 1
  | .ptr d => uptoBulk d + 1
  | .slice elems spare => uptoBulkAll elems + uptoBulkAll spare + 1
  | .agg parts => uptoBulkAll parts + 1
  | .iface _ d => uptoBulk d + 1
  | .map entries => uptoBulkEntries entries + 1
  | .held _ => 1
def uptoBulkAll {H : Type} : List (DataW H) → Nat
  | [] => 0
  | d :: r => uptoBulk d + uptoBulkAll r
def uptoBulkEntries {H : Type} : List (Lit × DataW H) → Nat
  | [] => 0
  | x :: r => uptoBulkEntry x + uptoBulkEntries r
def uptoBulkEntry {H : Type} : Lit × DataW H → Nat
  | (.string bytes, d) => bytes.length + uptoBulk d + 1
  | (_, d) => uptoBulk d + 1
 end
def uptoSmall : (H : Type) → List (DataW H) → Bool := fun _ ds => decide (uptoBulkAll ds ≤ 1048576)
def OpenSpec.upto (s : _root_.Go.ChangeSpec) : _root_.Go.OpenSpec := { _root_.Go.OpenSpec.ofChange s with cond := some uptoSmall }

/-- 'laws.FnExactValidTemper', WHERE WHAT IT READS IS OF BULK AT MOST 1048576: true; the input reads as it did. -/
def fnExactValidTemperUptoRow : OpenClaim := { program := "ytcghfhlmhmnioaa", sum := "f6a7c9cac4560ee34c62717f4ccf50f002b1a7420e2e0d2e9c2c52dc89496b07", func := "loop.example/g01121/laws.FnExactValidTemper", spec := "fnExactValidTemper", unfollowed := true, recurses := true, apart := false, narrowed := true }
def FnExactValidTemperUptoSaid : Prop := fnExactValidTemperUptoRow.holds Try.pinned (OpenSpec.upto fnExactValidTemperSpec)

/-- 'laws.FnExactCountCycles', WHERE WHAT IT READS IS OF BULK AT MOST 1048576: true; the input reads as it did. -/
def fnExactCountCyclesUptoRow : OpenClaim := { program := "ytcghfhlmhmnioaa", sum := "f6a7c9cac4560ee34c62717f4ccf50f002b1a7420e2e0d2e9c2c52dc89496b07", func := "loop.example/g01121/laws.FnExactCountCycles", spec := "fnExactCountCycles", apart := false, narrowed := true }
def FnExactCountCyclesUptoSaid : Prop := fnExactCountCyclesUptoRow.holds Try.pinned (OpenSpec.upto fnExactCountCyclesSpec)

/-- 'laws.FnExactCountRising', WHERE WHAT IT READS IS OF BULK AT MOST 1048576: true; the input reads as it did. -/
def fnExactCountRisingUptoRow : OpenClaim := { program := "ytcghfhlmhmnioaa", sum := "f6a7c9cac4560ee34c62717f4ccf50f002b1a7420e2e0d2e9c2c52dc89496b07", func := "loop.example/g01121/laws.FnExactCountRising", spec := "fnExactCountRising", apart := false, narrowed := true }
def FnExactCountRisingUptoSaid : Prop := fnExactCountRisingUptoRow.holds Try.pinned (OpenSpec.upto fnExactCountRisingSpec)

/-- 'laws.FnExactTemperWord', WHERE WHAT IT READS IS OF BULK AT MOST 1048576: true; the input reads as it did. -/
def fnExactTemperWordUptoRow : OpenClaim := { program := "ytcghfhlmhmnioaa", sum := "f6a7c9cac4560ee34c62717f4ccf50f002b1a7420e2e0d2e9c2c52dc89496b07", func := "loop.example/g01121/laws.FnExactTemperWord", spec := "fnExactTemperWord", unfollowed := true, recurses := true, apart := false, narrowed := true }
def FnExactTemperWordUptoSaid : Prop := fnExactTemperWordUptoRow.holds Try.pinned (OpenSpec.upto fnExactTemperWordSpec)

end Rows
end Go.Proofs.Ytcghfhlmhmnioaa
