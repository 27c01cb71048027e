/-
  No cell of these rows narrows 'for every input' (looked for: loops, veiled, ifaces, maps, wideKeys, modest, calm, conditions, laid).
  DERIVED. THE GIVEN ROWS OF THIS SEAT. 3 by the template 'for every input the law returns true; each argument reads behind the call as it read before'; 0 by the template 'total and deterministic' (their statements: YthkdbkjkccogfaaTotals.lean).
  GIVEN WITH THE SEED: the statements are not yours to turn. If you find one false, say at which input.
  Laid BY PROGRAM, IN A SANDBOX (cutbox-rows.mjs): the forced cells as the released guide's own fill.sh prints them over the translation b2b01981b4121ecc… (all of the seat's roots in one cut). By AI agents, Wed Nov 11 2026. No macro, syntax, notation, axiom, sorry.
-/
import Derived.Test.YthkdbkjkccogfaaChecked
import GoSem.Claim
import GoSem.ClaimJoined
import GoSem.ClaimMapViews
import Derived.JoinedTies
import Derived.KernelRfl
namespace Go.Proofs.Ythkdbkjkccogfaa
/- THE CELL 'sum', in the pinned program and in every row, IS THE sha256 OF THE DUMP (.gsa) THAT YthkdbkjkccogfaaProg.lean LOADS. Nothing in Lean hashes anything: it is a label: what it is worth is what the hold of that sum in a sandbox is worth. -/
noncomputable def Try.pinned : Pinned := { name := "ythkdbkjkccogfaa", sum := "b2b01981b4121eccf4c557b30c79fa055f18a00483401f102bf6c905126fc33b", checked := Try.checked }
namespace Rows
def none {H : Type} : Left H := { results := [], args := [] }

/-- 'laws.FnExactUntemperWord': WHATEVER THE INPUT: true; the input reads as it did. -/
def fnExactUntemperWordSpec : ChangeSpec := { name := "fnExactUntemperWord", fn := fun _ => fun
  | [d1, d2] => { results := [.lit (.bool true)], args := [d1, d2] }
  | _ => none }
def fnExactUntemperWordRow : OpenClaim := { program := "ythkdbkjkccogfaa", sum := "b2b01981b4121eccf4c557b30c79fa055f18a00483401f102bf6c905126fc33b", func := "loop.example/g01121/laws.FnExactUntemperWord", spec := "fnExactUntemperWord", unfollowed := true, recurses := true, apart := false }
def FnExactUntemperWordSaid : Prop := fnExactUntemperWordRow.holds Try.pinned (OpenSpec.ofChange fnExactUntemperWordSpec)

/-- ITS FALSE NEIGHBOUR: 'it returns false'. Refute it at one input. -/
def fnExactUntemperWordWrong : ChangeSpec := { name := "fnExactUntemperWord", fn := fun _ => fun
  | [d1, d2] => { results := [.lit (.bool false)], args := [d1, d2] }
  | _ => none }
def FnExactUntemperWordWrongFalsely : Prop := fnExactUntemperWordRow.holds Try.pinned (OpenSpec.ofChange fnExactUntemperWordWrong)

/-- 'laws.FnTempered': WHATEVER THE INPUT: true; the input reads as it did. -/
def fnTemperedSpec : ChangeSpec := { name := "fnTempered", fn := fun _ => fun
  | [d1, d2] => { results := [.lit (.bool true)], args := [d1, d2] }
  | _ => none }
def fnTemperedRow : OpenClaim := { program := "ythkdbkjkccogfaa", sum := "b2b01981b4121eccf4c557b30c79fa055f18a00483401f102bf6c905126fc33b", func := "loop.example/g01121/laws.FnTempered", spec := "fnTempered", unfollowed := true, recurses := true, apart := false }
def FnTemperedSaid : Prop := fnTemperedRow.holds Try.pinned (OpenSpec.ofChange fnTemperedSpec)

/-- ITS FALSE NEIGHBOUR: 'it returns false'. Refute it at one input. -/
def fnTemperedWrong : ChangeSpec := { name := "fnTempered", fn := fun _ => fun
  | [d1, d2] => { results := [.lit (.bool false)], args := [d1, d2] }
  | _ => none }
def FnTemperedWrongFalsely : Prop := fnTemperedRow.holds Try.pinned (OpenSpec.ofChange fnTemperedWrong)

/-- 'laws.FnExactRegisterBits': WHATEVER THE INPUT: true; the input reads as it did. -/
def fnExactRegisterBitsSpec : ChangeSpec := { name := "fnExactRegisterBits", fn := fun _ => fun
  | [d1, d2, d3] => { results := [.lit (.bool true)], args := [d1, d2, d3] }
  | _ => none }
def fnExactRegisterBitsRow : OpenClaim := { program := "ythkdbkjkccogfaa", sum := "b2b01981b4121eccf4c557b30c79fa055f18a00483401f102bf6c905126fc33b", func := "loop.example/g01121/laws.FnExactRegisterBits", spec := "fnExactRegisterBits", inPlace := ["internal/abi.NoEscape"], apart := false }
def FnExactRegisterBitsSaid : Prop := fnExactRegisterBitsRow.holds Try.pinned (OpenSpec.ofChange fnExactRegisterBitsSpec)

/-- ITS FALSE NEIGHBOUR: 'it returns false'. Refute it at one input. -/
def fnExactRegisterBitsWrong : ChangeSpec := { name := "fnExactRegisterBits", fn := fun _ => fun
  | [d1, d2, d3] => { results := [.lit (.bool false)], args := [d1, d2, d3] }
  | _ => none }
def FnExactRegisterBitsWrongFalsely : Prop := fnExactRegisterBitsRow.holds Try.pinned (OpenSpec.ofChange fnExactRegisterBitsWrong)

/- THE SECOND FORM. 'bulk': how many values and letters a reading holds, each counted each time it is reached (what is shared counts as often as it is met; a slice's spare places count too). A statement '..UptoSaid' is the law's where the arguments, and the package variables that the reading takes, are together of bulk at most 1048576: NARROWER than '..Said'. Prove '..Said' where nothing that the law and all that it calls make is longer than what came in: it says more and counts as full. Else prove '..UptoSaid'. A law counts once. -/
mutual
def uptoBulk {H : Type} : DataW H → Nat
  | .lit (.string bytes) => bytes.length + 1
  | .lit _ => 1
  | .nil => 1
  | .ptr d => uptoBulk d + 1
  | .slice elems spare => uptoBulkAll elems + uptoBulkAll spare + 1
  | .agg parts => uptoBulkAll parts + 1
  | .iface _ d => uptoBulk d + 1
  | .map entries => uptoBulkEntries entries + 1
  | .held _ => 1
def uptoBulkAll {H : Type} : List (DataW H) → Nat
  | [] => 0
  | d :: r => uptoBulk d + uptoBulkAll r
def uptoBulkEntries {H : Type} : List (Lit × DataW H) → Nat
  | [] => 0
  | x :: r => uptoBulkEntry x + uptoBulkEntries r
def uptoBulkEntry {H : Type} : Lit × DataW H → Nat
  | (.string bytes, d) => bytes.length + uptoBulk d + 1
  | (_, d) => uptoBulk d + 1
 end
def uptoSmall : (H : Type) → List (DataW H) → Bool := fun _ ds => decide (uptoBulkAll ds ≤ 1048576)
def OpenSpec.upto (s : _root_.Go.ChangeSpec) : _root_.Go.OpenSpec := { _root_.Go.OpenSpec.ofChange s with cond := some uptoSmall }

/-- 'laws.FnExactUntemperWord', WHERE WHAT IT READS IS OF BULK AT MOST 1048576: true; the input reads as it did. -/
def fnExactUntemperWordUptoRow : OpenClaim := { program := "ythkdbkjkccogfaa", sum := "b2b01981b4121eccf4c557b30c79fa055f18a00483401f102bf6c905126fc33b", func := "loop.example/g01121/laws.FnExactUntemperWord", spec := "fnExactUntemperWord", unfollowed := true, recurses := true, apart := false, narrowed := true }
def FnExactUntemperWordUptoSaid : Prop := fnExactUntemperWordUptoRow.holds Try.pinned (OpenSpec.upto fnExactUntemperWordSpec)

/-- 'laws.FnTempered', WHERE WHAT IT READS IS OF BULK AT MOST 1048576: true; the input reads as it did. -/
def fnTemperedUptoRow : OpenClaim := { program := "ythkdbkjkccogfaa", sum := "b2b01981b4121eccf4c557b30c79fa055f18a00483401f102bf6c905126fc33b", func := "loop.example/g01121/laws.FnTempered", spec := "fnTempered", unfollowed := true, recurses := true, apart := false, narrowed := true }
def FnTemperedUptoSaid : Prop := fnTemperedUptoRow.holds Try.pinned (OpenSpec.upto fnTemperedSpec)

/-- 'laws.FnExactRegisterBits', WHERE WHAT IT READS IS OF BULK AT MOST 1048576: true; the input reads as it did. -/
def fnExactRegisterBitsUptoRow : OpenClaim := { program := "ythkdbkjkccogfaa", sum := "b2b01981b4121eccf4c557b30c79fa055f18a00483401f102bf6c905126fc33b", func := "loop.example/g01121/laws.FnExactRegisterBits", spec := "fnExactRegisterBits", inPlace := ["internal/abi.NoEscape"], apart := false, narrowed := true }
def FnExactRegisterBitsUptoSaid : Prop := fnExactRegisterBitsUptoRow.holds Try.pinned (OpenSpec.upto fnExactRegisterBitsSpec)

end Rows
end Go.Proofs.Ythkdbkjkccogfaa
