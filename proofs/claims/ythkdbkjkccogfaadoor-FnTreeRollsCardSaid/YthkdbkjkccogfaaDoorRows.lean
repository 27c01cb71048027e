/-
  NARROWER THAN 'FOR EVERY INPUT', by the rows' own cells (each row's printed sentence says how): FnExactBestStates: laid · FnAttack: laid · FnShortestRegister: laid · FnExactRegisterOf: laid · FnSameRegister: laid · FnAgreements: laid · FnCombinedStreams: laid · FnFairFlips: laid · FnTreeRolls: laid.
  DERIVED. THE GIVEN ROWS OF THIS SEAT. 9 by the template 'for every input the law returns true; each argument reads behind the call as it read before'; 0 by the template 'total and deterministic' (their statements: YthkdbkjkccogfaaDoorTotals.lean).
  GIVEN WITH THE SEED: the statements are not yours to turn. If you find one false, say at which input.
  Laid BY PROGRAM, IN A SANDBOX (cutbox-rows.mjs): the forced cells as the released guide's own fill.sh prints them over the translation 54f156c236cbbb15… (all of the seat's roots in one cut). By AI agents, Wed Nov 11 2026. No macro, syntax, notation, axiom, sorry.
-/
import Derived.Test.YthkdbkjkccogfaaDoorChecked
import GoSem.PinnedTables
import GoSem.Claim
import GoSem.ClaimJoined
import GoSem.ClaimMapViews
import Derived.JoinedTies
import Derived.KernelRfl
namespace Go.Proofs.YthkdbkjkccogfaaDoor
/- THE CELL 'sum', in the pinned program and in every row, IS THE sha256 OF THE DUMP (.gsa) THAT YthkdbkjkccogfaaDoorProg.lean LOADS. Nothing in Lean hashes anything: it is a label: what it is worth is what the hold of that sum in a sandbox is worth. -/
noncomputable def Tryd.pinned : Pinned := { name := "ythkdbkjkccogfaadoor", sum := "54f156c236cbbb15d5507698feb7e3c93dbb8f20551e3a8e8dbb083f7f1d2e3f", checked := Tryd.checked }
namespace Rows
def none {H : Type} : Left H := { results := [], args := [] }

/- WHAT THE LISTED PACKAGE-LEVEL VARIABLES READ AS WHEN THE CALL BEGINS. Each datum BY PROGRAM (the guide's laid-datum.mjs) off the statement by which the dump's own 'gosem.cut.vars' lays the variable. In a bare row this is a premise. The card (YthkdbkjkccogfaaDoorCards.lean) ties it to the program's text. -/
def laid_unicode_utf8_acceptRanges {H : Type} : DataW H := .agg [.agg [.lit (.int .u8 128), .lit (.int .u8 191)], .agg [.lit (.int .u8 160), .lit (.int .u8 191)], .agg [.lit (.int .u8 128), .lit (.int .u8 159)], .agg [.lit (.int .u8 144), .lit (.int .u8 191)], .agg [.lit (.int .u8 128), .lit (.int .u8 143)], .agg [.lit (.int .u8 0), .lit (.int .u8 0)], .agg [.lit (.int .u8 0), .lit (.int .u8 0)], .agg [.lit (.int .u8 0), .lit (.int .u8 0)], .agg [.lit (.int .u8 0), .lit (.int .u8 0)], .agg [.lit (.int .u8 0), .lit (.int .u8 0)], .agg [.lit (.int .u8 0), .lit (.int .u8 0)], .agg [.lit (.int .u8 0), .lit (.int .u8 0)], .agg [.lit (.int .u8 0), .lit (.int .u8 0)], .agg [.lit (.int .u8 0), .lit (.int .u8 0)], .agg [.lit (.int .u8 0), .lit (.int .u8 0)], .agg [.lit (.int .u8 0), .lit (.int .u8 0)]]
/-- One of Go's own tables, pinned by name: the form's constant. -/
def laid_unicode_utf8_first : DataW Unit := Go.Pinned.utf8First

/-- 'laws.FnExactBestStates': WHATEVER THE INPUT: true; the input reads as it did. -/
def fnExactBestStatesSpec : ChangeSpec := { name := "fnExactBestStates", fn := fun _ => fun
  | [d1, d2] => { results := [.lit (.bool true)], args := [d1, d2] }
  | _ => none }
def fnExactBestStatesRow : OpenClaim := { program := "ythkdbkjkccogfaadoor", sum := "54f156c236cbbb15d5507698feb7e3c93dbb8f20551e3a8e8dbb083f7f1d2e3f", func := "loop.example/g01121/laws.FnExactBestStates", spec := "fnExactBestStates", inPlace := ["internal/bytealg.IndexByteString", "internal/bytealg.IndexString", "internal/abi.NoEscape"], named := ["unicode/utf8.first", "unicode/utf8.acceptRanges", "internal/bytealg.MaxLen"], apart := false, laid := [("unicode/utf8.acceptRanges", laid_unicode_utf8_acceptRanges), ("unicode/utf8.first", laid_unicode_utf8_first)] }
def FnExactBestStatesSaid : Prop := fnExactBestStatesRow.holds Tryd.pinned (OpenSpec.ofChange fnExactBestStatesSpec)

/-- ITS FALSE NEIGHBOUR: 'it returns false'. Refute it at one input. -/
def fnExactBestStatesWrong : ChangeSpec := { name := "fnExactBestStates", fn := fun _ => fun
  | [d1, d2] => { results := [.lit (.bool false)], args := [d1, d2] }
  | _ => none }
def FnExactBestStatesWrongFalsely : Prop := fnExactBestStatesRow.holds Tryd.pinned (OpenSpec.ofChange fnExactBestStatesWrong)

/-- 'laws.FnAttack': WHATEVER THE INPUT: true; the input reads as it did. -/
def fnAttackSpec : ChangeSpec := { name := "fnAttack", fn := fun _ => fun
  | [d1, d2] => { results := [.lit (.bool true)], args := [d1, d2] }
  | _ => none }
def fnAttackRow : OpenClaim := { program := "ythkdbkjkccogfaadoor", sum := "54f156c236cbbb15d5507698feb7e3c93dbb8f20551e3a8e8dbb083f7f1d2e3f", func := "loop.example/g01121/laws.FnAttack", spec := "fnAttack", inPlace := ["internal/abi.NoEscape", "internal/bytealg.IndexByteString", "internal/bytealg.IndexString"], named := ["unicode/utf8.first", "unicode/utf8.acceptRanges", "internal/bytealg.MaxLen"], apart := false, laid := [("unicode/utf8.acceptRanges", laid_unicode_utf8_acceptRanges), ("unicode/utf8.first", laid_unicode_utf8_first)] }
def FnAttackSaid : Prop := fnAttackRow.holds Tryd.pinned (OpenSpec.ofChange fnAttackSpec)

/-- ITS FALSE NEIGHBOUR: 'it returns false'. Refute it at one input. -/
def fnAttackWrong : ChangeSpec := { name := "fnAttack", fn := fun _ => fun
  | [d1, d2] => { results := [.lit (.bool false)], args := [d1, d2] }
  | _ => none }
def FnAttackWrongFalsely : Prop := fnAttackRow.holds Tryd.pinned (OpenSpec.ofChange fnAttackWrong)

/-- 'laws.FnShortestRegister': WHATEVER THE INPUT: true; the input reads as it did. -/
def fnShortestRegisterSpec : ChangeSpec := { name := "fnShortestRegister", fn := fun _ => fun
  | [d1, d2] => { results := [.lit (.bool true)], args := [d1, d2] }
  | _ => none }
def fnShortestRegisterRow : OpenClaim := { program := "ythkdbkjkccogfaadoor", sum := "54f156c236cbbb15d5507698feb7e3c93dbb8f20551e3a8e8dbb083f7f1d2e3f", func := "loop.example/g01121/laws.FnShortestRegister", spec := "fnShortestRegister", inPlace := ["internal/bytealg.IndexByteString", "internal/bytealg.IndexString", "internal/abi.NoEscape"], named := ["unicode/utf8.first", "unicode/utf8.acceptRanges", "internal/bytealg.MaxLen"], apart := false, laid := [("unicode/utf8.acceptRanges", laid_unicode_utf8_acceptRanges), ("unicode/utf8.first", laid_unicode_utf8_first)] }
def FnShortestRegisterSaid : Prop := fnShortestRegisterRow.holds Tryd.pinned (OpenSpec.ofChange fnShortestRegisterSpec)

/-- ITS FALSE NEIGHBOUR: 'it returns false'. Refute it at one input. -/
def fnShortestRegisterWrong : ChangeSpec := { name := "fnShortestRegister", fn := fun _ => fun
  | [d1, d2] => { results := [.lit (.bool false)], args := [d1, d2] }
  | _ => none }
def FnShortestRegisterWrongFalsely : Prop := fnShortestRegisterRow.holds Tryd.pinned (OpenSpec.ofChange fnShortestRegisterWrong)

/-- 'laws.FnExactRegisterOf': WHATEVER THE INPUT: true; the input reads as it did. -/
def fnExactRegisterOfSpec : ChangeSpec := { name := "fnExactRegisterOf", fn := fun _ => fun
  | [d1, d2] => { results := [.lit (.bool true)], args := [d1, d2] }
  | _ => none }
def fnExactRegisterOfRow : OpenClaim := { program := "ythkdbkjkccogfaadoor", sum := "54f156c236cbbb15d5507698feb7e3c93dbb8f20551e3a8e8dbb083f7f1d2e3f", func := "loop.example/g01121/laws.FnExactRegisterOf", spec := "fnExactRegisterOf", inPlace := ["internal/bytealg.IndexByteString", "internal/bytealg.IndexString"], unfollowed := true, recurses := true, named := ["unicode/utf8.first", "unicode/utf8.acceptRanges", "internal/bytealg.MaxLen"], apart := false, laid := [("unicode/utf8.acceptRanges", laid_unicode_utf8_acceptRanges), ("unicode/utf8.first", laid_unicode_utf8_first)] }
def FnExactRegisterOfSaid : Prop := fnExactRegisterOfRow.holds Tryd.pinned (OpenSpec.ofChange fnExactRegisterOfSpec)

/-- ITS FALSE NEIGHBOUR: 'it returns false'. Refute it at one input. -/
def fnExactRegisterOfWrong : ChangeSpec := { name := "fnExactRegisterOf", fn := fun _ => fun
  | [d1, d2] => { results := [.lit (.bool false)], args := [d1, d2] }
  | _ => none }
def FnExactRegisterOfWrongFalsely : Prop := fnExactRegisterOfRow.holds Tryd.pinned (OpenSpec.ofChange fnExactRegisterOfWrong)

/-- 'laws.FnSameRegister': WHATEVER THE INPUT: true; the input reads as it did. -/
def fnSameRegisterSpec : ChangeSpec := { name := "fnSameRegister", fn := fun _ => fun
  | [d1, d2] => { results := [.lit (.bool true)], args := [d1, d2] }
  | _ => none }
def fnSameRegisterRow : OpenClaim := { program := "ythkdbkjkccogfaadoor", sum := "54f156c236cbbb15d5507698feb7e3c93dbb8f20551e3a8e8dbb083f7f1d2e3f", func := "loop.example/g01121/laws.FnSameRegister", spec := "fnSameRegister", inPlace := ["internal/bytealg.IndexByteString", "internal/bytealg.IndexString", "internal/abi.NoEscape"], unfollowed := true, recurses := true, named := ["unicode/utf8.first", "unicode/utf8.acceptRanges", "internal/bytealg.MaxLen"], apart := false, laid := [("unicode/utf8.acceptRanges", laid_unicode_utf8_acceptRanges), ("unicode/utf8.first", laid_unicode_utf8_first)] }
def FnSameRegisterSaid : Prop := fnSameRegisterRow.holds Tryd.pinned (OpenSpec.ofChange fnSameRegisterSpec)

/-- ITS FALSE NEIGHBOUR: 'it returns false'. Refute it at one input. -/
def fnSameRegisterWrong : ChangeSpec := { name := "fnSameRegister", fn := fun _ => fun
  | [d1, d2] => { results := [.lit (.bool false)], args := [d1, d2] }
  | _ => none }
def FnSameRegisterWrongFalsely : Prop := fnSameRegisterRow.holds Tryd.pinned (OpenSpec.ofChange fnSameRegisterWrong)

/-- 'laws.FnAgreements': WHATEVER THE INPUT: true; the input reads as it did. -/
def fnAgreementsSpec : ChangeSpec := { name := "fnAgreements", fn := fun _ => fun
  | [d1, d2] => { results := [.lit (.bool true)], args := [d1, d2] }
  | _ => none }
def fnAgreementsRow : OpenClaim := { program := "ythkdbkjkccogfaadoor", sum := "54f156c236cbbb15d5507698feb7e3c93dbb8f20551e3a8e8dbb083f7f1d2e3f", func := "loop.example/g01121/laws.FnAgreements", spec := "fnAgreements", inPlace := ["internal/bytealg.IndexByteString", "internal/bytealg.IndexString", "internal/abi.NoEscape"], named := ["unicode/utf8.first", "unicode/utf8.acceptRanges", "internal/bytealg.MaxLen"], apart := false, laid := [("unicode/utf8.acceptRanges", laid_unicode_utf8_acceptRanges), ("unicode/utf8.first", laid_unicode_utf8_first)] }
def FnAgreementsSaid : Prop := fnAgreementsRow.holds Tryd.pinned (OpenSpec.ofChange fnAgreementsSpec)

/-- ITS FALSE NEIGHBOUR: 'it returns false'. Refute it at one input. -/
def fnAgreementsWrong : ChangeSpec := { name := "fnAgreements", fn := fun _ => fun
  | [d1, d2] => { results := [.lit (.bool false)], args := [d1, d2] }
  | _ => none }
def FnAgreementsWrongFalsely : Prop := fnAgreementsRow.holds Tryd.pinned (OpenSpec.ofChange fnAgreementsWrong)

/-- 'laws.FnCombinedStreams': WHATEVER THE INPUT: true; the input reads as it did. -/
def fnCombinedStreamsSpec : ChangeSpec := { name := "fnCombinedStreams", fn := fun _ => fun
  | [d1, d2] => { results := [.lit (.bool true)], args := [d1, d2] }
  | _ => none }
def fnCombinedStreamsRow : OpenClaim := { program := "ythkdbkjkccogfaadoor", sum := "54f156c236cbbb15d5507698feb7e3c93dbb8f20551e3a8e8dbb083f7f1d2e3f", func := "loop.example/g01121/laws.FnCombinedStreams", spec := "fnCombinedStreams", inPlace := ["internal/bytealg.IndexByteString", "internal/bytealg.IndexString", "internal/abi.NoEscape"], unfollowed := true, recurses := true, named := ["unicode/utf8.first", "unicode/utf8.acceptRanges", "internal/bytealg.MaxLen"], apart := false, laid := [("unicode/utf8.acceptRanges", laid_unicode_utf8_acceptRanges), ("unicode/utf8.first", laid_unicode_utf8_first)] }
def FnCombinedStreamsSaid : Prop := fnCombinedStreamsRow.holds Tryd.pinned (OpenSpec.ofChange fnCombinedStreamsSpec)

/-- ITS FALSE NEIGHBOUR: 'it returns false'. Refute it at one input. -/
def fnCombinedStreamsWrong : ChangeSpec := { name := "fnCombinedStreams", fn := fun _ => fun
  | [d1, d2] => { results := [.lit (.bool false)], args := [d1, d2] }
  | _ => none }
def FnCombinedStreamsWrongFalsely : Prop := fnCombinedStreamsRow.holds Tryd.pinned (OpenSpec.ofChange fnCombinedStreamsWrong)

/-- 'laws.FnFairFlips': WHATEVER THE INPUT: true; the input reads as it did. -/
def fnFairFlipsSpec : ChangeSpec := { name := "fnFairFlips", fn := fun _ => fun
  | [d1, d2] => { results := [.lit (.bool true)], args := [d1, d2] }
  | _ => none }
def fnFairFlipsRow : OpenClaim := { program := "ythkdbkjkccogfaadoor", sum := "54f156c236cbbb15d5507698feb7e3c93dbb8f20551e3a8e8dbb083f7f1d2e3f", func := "loop.example/g01121/laws.FnFairFlips", spec := "fnFairFlips", inPlace := ["internal/bytealg.IndexByteString", "internal/bytealg.IndexString", "internal/abi.NoEscape", "internal/bytealg.CountString"], recurses := true, named := ["unicode/utf8.first", "unicode/utf8.acceptRanges", "internal/bytealg.MaxLen", "math/bits.divideError", "math/bits.overflowError"], apart := false, laid := [("unicode/utf8.acceptRanges", laid_unicode_utf8_acceptRanges), ("unicode/utf8.first", laid_unicode_utf8_first)] }
def FnFairFlipsSaid : Prop := fnFairFlipsRow.holds Tryd.pinned (OpenSpec.ofChange fnFairFlipsSpec)

/-- ITS FALSE NEIGHBOUR: 'it returns false'. Refute it at one input. -/
def fnFairFlipsWrong : ChangeSpec := { name := "fnFairFlips", fn := fun _ => fun
  | [d1, d2] => { results := [.lit (.bool false)], args := [d1, d2] }
  | _ => none }
def FnFairFlipsWrongFalsely : Prop := fnFairFlipsRow.holds Tryd.pinned (OpenSpec.ofChange fnFairFlipsWrong)

/-- 'laws.FnTreeRolls': WHATEVER THE INPUT: true; the input reads as it did. -/
def fnTreeRollsSpec : ChangeSpec := { name := "fnTreeRolls", fn := fun _ => fun
  | [d1, d2] => { results := [.lit (.bool true)], args := [d1, d2] }
  | _ => none }
def fnTreeRollsRow : OpenClaim := { program := "ythkdbkjkccogfaadoor", sum := "54f156c236cbbb15d5507698feb7e3c93dbb8f20551e3a8e8dbb083f7f1d2e3f", func := "loop.example/g01121/laws.FnTreeRolls", spec := "fnTreeRolls", inPlace := ["internal/bytealg.IndexByteString", "internal/bytealg.IndexString"], unfollowed := true, recurses := true, named := ["unicode/utf8.first", "unicode/utf8.acceptRanges", "internal/bytealg.MaxLen"], apart := false, laid := [("unicode/utf8.acceptRanges", laid_unicode_utf8_acceptRanges), ("unicode/utf8.first", laid_unicode_utf8_first)] }
def FnTreeRollsSaid : Prop := fnTreeRollsRow.holds Tryd.pinned (OpenSpec.ofChange fnTreeRollsSpec)

/-- ITS FALSE NEIGHBOUR: 'it returns false'. Refute it at one input. -/
def fnTreeRollsWrong : ChangeSpec := { name := "fnTreeRolls", fn := fun _ => fun
  | [d1, d2] => { results := [.lit (.bool false)], args := [d1, d2] }
  | _ => none }
def FnTreeRollsWrongFalsely : Prop := fnTreeRollsRow.holds Tryd.pinned (OpenSpec.ofChange fnTreeRollsWrong)

/- THE SECOND FORM. 'bulk': how many values and letters a reading holds, each counted each time it is reached (what is shared counts as often as it is met; a slice's spare places count too). A statement '..UptoSaid' is the law's where the arguments, and the package variables that the reading takes, are together of bulk at most 1048576: NARROWER than '..Said'. Prove '..Said' where nothing that the law and all that it calls make is longer than what came in: it says more and counts as full. Else prove '..UptoSaid'. A law counts once. -/
mutual
def uptoBulk {H : Type} : DataW H → Nat
  | .lit (.string bytes) => bytes.length + 1
  | .lit _ => 1
  | .nil => 1
  | .ptr d => uptoBulk d + 1
  | .slice elems spare => uptoBulkAll elems + uptoBulkAll spare + 1
  | .agg parts => uptoBulkAll parts + 1
  | .iface _ d => uptoBulk d + 1
  | .map entries => uptoBulkEntries entries + 1
  | .held _ => 1
def uptoBulkAll {H : Type} : List (DataW H) → Nat
  | [] => 0
  | d :: r => uptoBulk d + uptoBulkAll r
def uptoBulkEntries {H : Type} : List (Lit × DataW H) → Nat
  | [] => 0
  | x :: r => uptoBulkEntry x + uptoBulkEntries r
def uptoBulkEntry {H : Type} : Lit × DataW H → Nat
  | (.string bytes, d) => bytes.length + uptoBulk d + 1
  | (_, d) => uptoBulk d + 1
 end
def uptoSmall : (H : Type) → List (DataW H) → Bool := fun _ ds => decide (uptoBulkAll ds ≤ 1048576)
def OpenSpec.upto (s : _root_.Go.ChangeSpec) : _root_.Go.OpenSpec := { _root_.Go.OpenSpec.ofChange s with cond := some uptoSmall }

/-- 'laws.FnExactBestStates', WHERE WHAT IT READS IS OF BULK AT MOST 1048576: true; the input reads as it did. -/
def fnExactBestStatesUptoRow : OpenClaim := { program := "ythkdbkjkccogfaadoor", sum := "54f156c236cbbb15d5507698feb7e3c93dbb8f20551e3a8e8dbb083f7f1d2e3f", func := "loop.example/g01121/laws.FnExactBestStates", spec := "fnExactBestStates", inPlace := ["internal/bytealg.IndexByteString", "internal/bytealg.IndexString", "internal/abi.NoEscape"], named := ["unicode/utf8.first", "unicode/utf8.acceptRanges", "internal/bytealg.MaxLen"], apart := false, laid := [("unicode/utf8.acceptRanges", laid_unicode_utf8_acceptRanges), ("unicode/utf8.first", laid_unicode_utf8_first)], narrowed := true }
def FnExactBestStatesUptoSaid : Prop := fnExactBestStatesUptoRow.holds Tryd.pinned (OpenSpec.upto fnExactBestStatesSpec)

/-- 'laws.FnAttack', WHERE WHAT IT READS IS OF BULK AT MOST 1048576: true; the input reads as it did. -/
def fnAttackUptoRow : OpenClaim := { program := "ythkdbkjkccogfaadoor", sum := "54f156c236cbbb15d5507698feb7e3c93dbb8f20551e3a8e8dbb083f7f1d2e3f", func := "loop.example/g01121/laws.FnAttack", spec := "fnAttack", inPlace := ["internal/abi.NoEscape", "internal/bytealg.IndexByteString", "internal/bytealg.IndexString"], named := ["unicode/utf8.first", "unicode/utf8.acceptRanges", "internal/bytealg.MaxLen"], apart := false, laid := [("unicode/utf8.acceptRanges", laid_unicode_utf8_acceptRanges), ("unicode/utf8.first", laid_unicode_utf8_first)], narrowed := true }
def FnAttackUptoSaid : Prop := fnAttackUptoRow.holds Tryd.pinned (OpenSpec.upto fnAttackSpec)

/-- 'laws.FnShortestRegister', WHERE WHAT IT READS IS OF BULK AT MOST 1048576: true; the input reads as it did. -/
def fnShortestRegisterUptoRow : OpenClaim := { program := "ythkdbkjkccogfaadoor", sum := "54f156c236cbbb15d5507698feb7e3c93dbb8f20551e3a8e8dbb083f7f1d2e3f", func := "loop.example/g01121/laws.FnShortestRegister", spec := "fnShortestRegister", inPlace := ["internal/bytealg.IndexByteString", "internal/bytealg.IndexString", "internal/abi.NoEscape"], named := ["unicode/utf8.first", "unicode/utf8.acceptRanges", "internal/bytealg.MaxLen"], apart := false, laid := [("unicode/utf8.acceptRanges", laid_unicode_utf8_acceptRanges), ("unicode/utf8.first", laid_unicode_utf8_first)], narrowed := true }
def FnShortestRegisterUptoSaid : Prop := fnShortestRegisterUptoRow.holds Tryd.pinned (OpenSpec.upto fnShortestRegisterSpec)

/-- 'laws.FnExactRegisterOf', WHERE WHAT IT READS IS OF BULK AT MOST 1048576: true; the input reads as it did. -/
def fnExactRegisterOfUptoRow : OpenClaim := { program := "ythkdbkjkccogfaadoor", sum := "54f156c236cbbb15d5507698feb7e3c93dbb8f20551e3a8e8dbb083f7f1d2e3f", func := "loop.example/g01121/laws.FnExactRegisterOf", spec := "fnExactRegisterOf", inPlace := ["internal/bytealg.IndexByteString", "internal/bytealg.IndexString"], unfollowed := true, recurses := true, named := ["unicode/utf8.first", "unicode/utf8.acceptRanges", "internal/bytealg.MaxLen"], apart := false, laid := [("unicode/utf8.acceptRanges", laid_unicode_utf8_acceptRanges), ("unicode/utf8.first", laid_unicode_utf8_first)], narrowed := true }
def FnExactRegisterOfUptoSaid : Prop := fnExactRegisterOfUptoRow.holds Tryd.pinned (OpenSpec.upto fnExactRegisterOfSpec)

/-- 'laws.FnSameRegister', WHERE WHAT IT READS IS OF BULK AT MOST 1048576: true; the input reads as it did. -/
def fnSameRegisterUptoRow : OpenClaim := { program := "ythkdbkjkccogfaadoor", sum := "54f156c236cbbb15d5507698feb7e3c93dbb8f20551e3a8e8dbb083f7f1d2e3f", func := "loop.example/g01121/laws.FnSameRegister", spec := "fnSameRegister", inPlace := ["internal/bytealg.IndexByteString", "internal/bytealg.IndexString", "internal/abi.NoEscape"], unfollowed := true, recurses := true, named := ["unicode/utf8.first", "unicode/utf8.acceptRanges", "internal/bytealg.MaxLen"], apart := false, laid := [("unicode/utf8.acceptRanges", laid_unicode_utf8_acceptRanges), ("unicode/utf8.first", laid_unicode_utf8_first)], narrowed := true }
def FnSameRegisterUptoSaid : Prop := fnSameRegisterUptoRow.holds Tryd.pinned (OpenSpec.upto fnSameRegisterSpec)

/-- 'laws.FnAgreements', WHERE WHAT IT READS IS OF BULK AT MOST 1048576: true; the input reads as it did. -/
def fnAgreementsUptoRow : OpenClaim := { program := "ythkdbkjkccogfaadoor", sum := "54f156c236cbbb15d5507698feb7e3c93dbb8f20551e3a8e8dbb083f7f1d2e3f", func := "loop.example/g01121/laws.FnAgreements", spec := "fnAgreements", inPlace := ["internal/bytealg.IndexByteString", "internal/bytealg.IndexString", "internal/abi.NoEscape"], named := ["unicode/utf8.first", "unicode/utf8.acceptRanges", "internal/bytealg.MaxLen"], apart := false, laid := [("unicode/utf8.acceptRanges", laid_unicode_utf8_acceptRanges), ("unicode/utf8.first", laid_unicode_utf8_first)], narrowed := true }
def FnAgreementsUptoSaid : Prop := fnAgreementsUptoRow.holds Tryd.pinned (OpenSpec.upto fnAgreementsSpec)

/-- 'laws.FnCombinedStreams', WHERE WHAT IT READS IS OF BULK AT MOST 1048576: true; the input reads as it did. -/
def fnCombinedStreamsUptoRow : OpenClaim := { program := "ythkdbkjkccogfaadoor", sum := "54f156c236cbbb15d5507698feb7e3c93dbb8f20551e3a8e8dbb083f7f1d2e3f", func := "loop.example/g01121/laws.FnCombinedStreams", spec := "fnCombinedStreams", inPlace := ["internal/bytealg.IndexByteString", "internal/bytealg.IndexString", "internal/abi.NoEscape"], unfollowed := true, recurses := true, named := ["unicode/utf8.first", "unicode/utf8.acceptRanges", "internal/bytealg.MaxLen"], apart := false, laid := [("unicode/utf8.acceptRanges", laid_unicode_utf8_acceptRanges), ("unicode/utf8.first", laid_unicode_utf8_first)], narrowed := true }
def FnCombinedStreamsUptoSaid : Prop := fnCombinedStreamsUptoRow.holds Tryd.pinned (OpenSpec.upto fnCombinedStreamsSpec)

/-- 'laws.FnFairFlips', WHERE WHAT IT READS IS OF BULK AT MOST 1048576: true; the input reads as it did. -/
def fnFairFlipsUptoRow : OpenClaim := { program := "ythkdbkjkccogfaadoor", sum := "54f156c236cbbb15d5507698feb7e3c93dbb8f20551e3a8e8dbb083f7f1d2e3f", func := "loop.example/g01121/laws.FnFairFlips", spec := "fnFairFlips", inPlace := ["internal/bytealg.IndexByteString", "internal/bytealg.IndexString", "internal/abi.NoEscape", "internal/bytealg.CountString"], recurses := true, named := ["unicode/utf8.first", "unicode/utf8.acceptRanges", "internal/bytealg.MaxLen", "math/bits.divideError", "math/bits.overflowError"], apart := false, laid := [("unicode/utf8.acceptRanges", laid_unicode_utf8_acceptRanges), ("unicode/utf8.first", laid_unicode_utf8_first)], narrowed := true }
def FnFairFlipsUptoSaid : Prop := fnFairFlipsUptoRow.holds Tryd.pinned (OpenSpec.upto fnFairFlipsSpec)

/-- 'laws.FnTreeRolls', WHERE WHAT IT READS IS OF BULK AT MOST 1048576: true; the input reads as it did. -/
def fnTreeRollsUptoRow : OpenClaim := { program := "ythkdbkjkccogfaadoor", sum := "54f156c236cbbb15d5507698feb7e3c93dbb8f20551e3a8e8dbb083f7f1d2e3f", func := "loop.example/g01121/laws.FnTreeRolls", spec := "fnTreeRolls", inPlace := ["internal/bytealg.IndexByteString", "internal/bytealg.IndexString"], unfollowed := true, recurses := true, named := ["unicode/utf8.first", "unicode/utf8.acceptRanges", "internal/bytealg.MaxLen"], apart := false, laid := [("unicode/utf8.acceptRanges", laid_unicode_utf8_acceptRanges), ("unicode/utf8.first", laid_unicode_utf8_first)], narrowed := true }
def FnTreeRollsUptoSaid : Prop := fnTreeRollsUptoRow.holds Tryd.pinned (OpenSpec.upto fnTreeRollsSpec)

end Rows
end Go.Proofs.YthkdbkjkccogfaaDoor
