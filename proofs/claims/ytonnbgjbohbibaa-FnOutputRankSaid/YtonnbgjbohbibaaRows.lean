/-
  No cell of these rows narrows 'for every input' (looked for: loops, veiled, ifaces, maps, wideKeys, modest, calm, conditions, laid).
  DERIVED. THE GIVEN ROWS OF THIS SEAT. 19 by the template 'for every input the law returns true; each argument reads behind the call as it read before'; 0 by the template 'total and deterministic' (their statements: YtonnbgjbohbibaaTotals.lean).
  GIVEN WITH THE SEED: the statements are not yours to turn. If you find one false, say at which input.
  Laid BY PROGRAM, IN A SANDBOX (cutbox-rows.mjs): the forced cells as the released guide's own fill.sh prints them over the translation e63e1deedc1a82e1… (all of the seat's roots in one cut). By AI agents, Wed Nov 11 2026. No macro, syntax, notation, axiom, sorry.
-/
import Derived.Test.YtonnbgjbohbibaaChecked
import GoSem.Claim
import GoSem.ClaimJoined
import GoSem.ClaimMapViews
import Derived.JoinedTies
import Derived.KernelRfl
namespace Go.Proofs.Ytonnbgjbohbibaa
/- THE CELL 'sum', in the pinned program and in every row, IS THE sha256 OF THE DUMP (.gsa) THAT YtonnbgjbohbibaaProg.lean LOADS. Nothing in Lean hashes anything: it is a label: what it is worth is what the hold of that sum in a sandbox is worth. -/
noncomputable def Try.pinned : Pinned := { name := "ytonnbgjbohbibaa", sum := "e63e1deedc1a82e11e31453c7ca33366eccee7abe32f8847be7fa8af6b951654", checked := Try.checked }
namespace Rows
def none {H : Type} : Left H := { results := [], args := [] }

/-- 'laws.FnExactTemperWord': WHATEVER THE INPUT: true; the input reads as it did. -/
def fnExactTemperWordSpec : ChangeSpec := { name := "fnExactTemperWord", fn := fun _ => fun
  | [d1, d2] => { results := [.lit (.bool true)], args := [d1, d2] }
  | _ => none }
def fnExactTemperWordRow : OpenClaim := { program := "ytonnbgjbohbibaa", sum := "e63e1deedc1a82e11e31453c7ca33366eccee7abe32f8847be7fa8af6b951654", func := "loop.example/g01121/laws.FnExactTemperWord", spec := "fnExactTemperWord", unfollowed := true, recurses := true, apart := false }
def FnExactTemperWordSaid : Prop := fnExactTemperWordRow.holds Try.pinned (OpenSpec.ofChange fnExactTemperWordSpec)

/-- ITS FALSE NEIGHBOUR: 'it returns false'. Refute it at one input. -/
def fnExactTemperWordWrong : ChangeSpec := { name := "fnExactTemperWord", fn := fun _ => fun
  | [d1, d2] => { results := [.lit (.bool false)], args := [d1, d2] }
  | _ => none }
def FnExactTemperWordWrongFalsely : Prop := fnExactTemperWordRow.holds Try.pinned (OpenSpec.ofChange fnExactTemperWordWrong)

/-- 'laws.FnSeeds': WHATEVER THE INPUT: true; the input reads as it did. -/
def fnSeedsSpec : ChangeSpec := { name := "fnSeeds", fn := fun _ => fun
  | [d1, d2] => { results := [.lit (.bool true)], args := [d1, d2] }
  | _ => none }
def fnSeedsRow : OpenClaim := { program := "ytonnbgjbohbibaa", sum := "e63e1deedc1a82e11e31453c7ca33366eccee7abe32f8847be7fa8af6b951654", func := "loop.example/g01121/laws.FnSeeds", spec := "fnSeeds", unfollowed := true, recurses := true, apart := false }
def FnSeedsSaid : Prop := fnSeedsRow.holds Try.pinned (OpenSpec.ofChange fnSeedsSpec)

/-- ITS FALSE NEIGHBOUR: 'it returns false'. Refute it at one input. -/
def fnSeedsWrong : ChangeSpec := { name := "fnSeeds", fn := fun _ => fun
  | [d1, d2] => { results := [.lit (.bool false)], args := [d1, d2] }
  | _ => none }
def FnSeedsWrongFalsely : Prop := fnSeedsRow.holds Try.pinned (OpenSpec.ofChange fnSeedsWrong)

/-- 'laws.FnExactValidLinear': WHATEVER THE INPUT: true; the input reads as it did. -/
def fnExactValidLinearSpec : ChangeSpec := { name := "fnExactValidLinear", fn := fun _ => fun
  | [d] => { results := [.lit (.bool true)], args := [d] }
  | _ => none }
def fnExactValidLinearRow : OpenClaim := { program := "ytonnbgjbohbibaa", sum := "e63e1deedc1a82e11e31453c7ca33366eccee7abe32f8847be7fa8af6b951654", func := "loop.example/g01121/laws.FnExactValidLinear", spec := "fnExactValidLinear", unfollowed := true, recurses := true, apart := false }
def FnExactValidLinearSaid : Prop := fnExactValidLinearRow.holds Try.pinned (OpenSpec.ofChange fnExactValidLinearSpec)

/-- ITS FALSE NEIGHBOUR: 'it returns false'. Refute it at one input. -/
def fnExactValidLinearWrong : ChangeSpec := { name := "fnExactValidLinear", fn := fun _ => fun
  | [d] => { results := [.lit (.bool false)], args := [d] }
  | _ => none }
def FnExactValidLinearWrongFalsely : Prop := fnExactValidLinearRow.holds Try.pinned (OpenSpec.ofChange fnExactValidLinearWrong)

/-- 'laws.FnExactOfRegister': WHATEVER THE INPUT: true; the input reads as it did. -/
def fnExactOfRegisterSpec : ChangeSpec := { name := "fnExactOfRegister", fn := fun _ => fun
  | [d] => { results := [.lit (.bool true)], args := [d] }
  | _ => none }
def fnExactOfRegisterRow : OpenClaim := { program := "ytonnbgjbohbibaa", sum := "e63e1deedc1a82e11e31453c7ca33366eccee7abe32f8847be7fa8af6b951654", func := "loop.example/g01121/laws.FnExactOfRegister", spec := "fnExactOfRegister", apart := false }
def FnExactOfRegisterSaid : Prop := fnExactOfRegisterRow.holds Try.pinned (OpenSpec.ofChange fnExactOfRegisterSpec)

/-- ITS FALSE NEIGHBOUR: 'it returns false'. Refute it at one input. -/
def fnExactOfRegisterWrong : ChangeSpec := { name := "fnExactOfRegister", fn := fun _ => fun
  | [d] => { results := [.lit (.bool false)], args := [d] }
  | _ => none }
def FnExactOfRegisterWrongFalsely : Prop := fnExactOfRegisterRow.holds Try.pinned (OpenSpec.ofChange fnExactOfRegisterWrong)

/-- 'laws.FnExactUntemperWord': WHATEVER THE INPUT: true; the input reads as it did. -/
def fnExactUntemperWordSpec : ChangeSpec := { name := "fnExactUntemperWord", fn := fun _ => fun
  | [d1, d2] => { results := [.lit (.bool true)], args := [d1, d2] }
  | _ => none }
def fnExactUntemperWordRow : OpenClaim := { program := "ytonnbgjbohbibaa", sum := "e63e1deedc1a82e11e31453c7ca33366eccee7abe32f8847be7fa8af6b951654", func := "loop.example/g01121/laws.FnExactUntemperWord", spec := "fnExactUntemperWord", unfollowed := true, recurses := true, apart := false }
def FnExactUntemperWordSaid : Prop := fnExactUntemperWordRow.holds Try.pinned (OpenSpec.ofChange fnExactUntemperWordSpec)

/-- ITS FALSE NEIGHBOUR: 'it returns false'. Refute it at one input. -/
def fnExactUntemperWordWrong : ChangeSpec := { name := "fnExactUntemperWord", fn := fun _ => fun
  | [d1, d2] => { results := [.lit (.bool false)], args := [d1, d2] }
  | _ => none }
def FnExactUntemperWordWrongFalsely : Prop := fnExactUntemperWordRow.holds Try.pinned (OpenSpec.ofChange fnExactUntemperWordWrong)

/-- 'laws.FnExactSeedsBehind': WHATEVER THE INPUT: true; the input reads as it did. -/
def fnExactSeedsBehindSpec : ChangeSpec := { name := "fnExactSeedsBehind", fn := fun _ => fun
  | [d1, d2, d3] => { results := [.lit (.bool true)], args := [d1, d2, d3] }
  | _ => none }
def fnExactSeedsBehindRow : OpenClaim := { program := "ytonnbgjbohbibaa", sum := "e63e1deedc1a82e11e31453c7ca33366eccee7abe32f8847be7fa8af6b951654", func := "loop.example/g01121/laws.FnExactSeedsBehind", spec := "fnExactSeedsBehind", unfollowed := true, recurses := true, apart := false }
def FnExactSeedsBehindSaid : Prop := fnExactSeedsBehindRow.holds Try.pinned (OpenSpec.ofChange fnExactSeedsBehindSpec)

/-- ITS FALSE NEIGHBOUR: 'it returns false'. Refute it at one input. -/
def fnExactSeedsBehindWrong : ChangeSpec := { name := "fnExactSeedsBehind", fn := fun _ => fun
  | [d1, d2, d3] => { results := [.lit (.bool false)], args := [d1, d2, d3] }
  | _ => none }
def FnExactSeedsBehindWrongFalsely : Prop := fnExactSeedsBehindRow.holds Try.pinned (OpenSpec.ofChange fnExactSeedsBehindWrong)

/-- 'laws.FnTempered': WHATEVER THE INPUT: true; the input reads as it did. -/
def fnTemperedSpec : ChangeSpec := { name := "fnTempered", fn := fun _ => fun
  | [d1, d2] => { results := [.lit (.bool true)], args := [d1, d2] }
  | _ => none }
def fnTemperedRow : OpenClaim := { program := "ytonnbgjbohbibaa", sum := "e63e1deedc1a82e11e31453c7ca33366eccee7abe32f8847be7fa8af6b951654", func := "loop.example/g01121/laws.FnTempered", spec := "fnTempered", unfollowed := true, recurses := true, apart := false }
def FnTemperedSaid : Prop := fnTemperedRow.holds Try.pinned (OpenSpec.ofChange fnTemperedSpec)

/-- ITS FALSE NEIGHBOUR: 'it returns false'. Refute it at one input. -/
def fnTemperedWrong : ChangeSpec := { name := "fnTempered", fn := fun _ => fun
  | [d1, d2] => { results := [.lit (.bool false)], args := [d1, d2] }
  | _ => none }
def FnTemperedWrongFalsely : Prop := fnTemperedRow.holds Try.pinned (OpenSpec.ofChange fnTemperedWrong)

/-- 'laws.FnExactRegisterBits': WHATEVER THE INPUT: true; the input reads as it did. -/
def fnExactRegisterBitsSpec : ChangeSpec := { name := "fnExactRegisterBits", fn := fun _ => fun
  | [d1, d2, d3] => { results := [.lit (.bool true)], args := [d1, d2, d3] }
  | _ => none }
def fnExactRegisterBitsRow : OpenClaim := { program := "ytonnbgjbohbibaa", sum := "e63e1deedc1a82e11e31453c7ca33366eccee7abe32f8847be7fa8af6b951654", func := "loop.example/g01121/laws.FnExactRegisterBits", spec := "fnExactRegisterBits", inPlace := ["internal/abi.NoEscape"], apart := false }
def FnExactRegisterBitsSaid : Prop := fnExactRegisterBitsRow.holds Try.pinned (OpenSpec.ofChange fnExactRegisterBitsSpec)

/-- ITS FALSE NEIGHBOUR: 'it returns false'. Refute it at one input. -/
def fnExactRegisterBitsWrong : ChangeSpec := { name := "fnExactRegisterBits", fn := fun _ => fun
  | [d1, d2, d3] => { results := [.lit (.bool false)], args := [d1, d2, d3] }
  | _ => none }
def FnExactRegisterBitsWrongFalsely : Prop := fnExactRegisterBitsRow.holds Try.pinned (OpenSpec.ofChange fnExactRegisterBitsWrong)

/-- 'laws.FnExactOfXorshift': WHATEVER THE INPUT: true; the input reads as it did. -/
def fnExactOfXorshiftSpec : ChangeSpec := { name := "fnExactOfXorshift", fn := fun _ => fun
  | [d1, d2, d3, d4] => { results := [.lit (.bool true)], args := [d1, d2, d3, d4] }
  | _ => none }
def fnExactOfXorshiftRow : OpenClaim := { program := "ytonnbgjbohbibaa", sum := "e63e1deedc1a82e11e31453c7ca33366eccee7abe32f8847be7fa8af6b951654", func := "loop.example/g01121/laws.FnExactOfXorshift", spec := "fnExactOfXorshift", unfollowed := true, recurses := true, apart := false }
def FnExactOfXorshiftSaid : Prop := fnExactOfXorshiftRow.holds Try.pinned (OpenSpec.ofChange fnExactOfXorshiftSpec)

/-- ITS FALSE NEIGHBOUR: 'it returns false'. Refute it at one input. -/
def fnExactOfXorshiftWrong : ChangeSpec := { name := "fnExactOfXorshift", fn := fun _ => fun
  | [d1, d2, d3, d4] => { results := [.lit (.bool false)], args := [d1, d2, d3, d4] }
  | _ => none }
def FnExactOfXorshiftWrongFalsely : Prop := fnExactOfXorshiftRow.holds Try.pinned (OpenSpec.ofChange fnExactOfXorshiftWrong)

/-- 'laws.FnExactStepLinear': WHATEVER THE INPUT: true; the input reads as it did. -/
def fnExactStepLinearSpec : ChangeSpec := { name := "fnExactStepLinear", fn := fun _ => fun
  | [d1, d2] => { results := [.lit (.bool true)], args := [d1, d2] }
  | _ => none }
def fnExactStepLinearRow : OpenClaim := { program := "ytonnbgjbohbibaa", sum := "e63e1deedc1a82e11e31453c7ca33366eccee7abe32f8847be7fa8af6b951654", func := "loop.example/g01121/laws.FnExactStepLinear", spec := "fnExactStepLinear", unfollowed := true, recurses := true, apart := false }
def FnExactStepLinearSaid : Prop := fnExactStepLinearRow.holds Try.pinned (OpenSpec.ofChange fnExactStepLinearSpec)

/-- ITS FALSE NEIGHBOUR: 'it returns false'. Refute it at one input. -/
def fnExactStepLinearWrong : ChangeSpec := { name := "fnExactStepLinear", fn := fun _ => fun
  | [d1, d2] => { results := [.lit (.bool false)], args := [d1, d2] }
  | _ => none }
def FnExactStepLinearWrongFalsely : Prop := fnExactStepLinearRow.holds Try.pinned (OpenSpec.ofChange fnExactStepLinearWrong)

/-- 'laws.FnExactLinearBits': WHATEVER THE INPUT: true; the input reads as it did. -/
def fnExactLinearBitsSpec : ChangeSpec := { name := "fnExactLinearBits", fn := fun _ => fun
  | [d1, d2, d3] => { results := [.lit (.bool true)], args := [d1, d2, d3] }
  | _ => none }
def fnExactLinearBitsRow : OpenClaim := { program := "ytonnbgjbohbibaa", sum := "e63e1deedc1a82e11e31453c7ca33366eccee7abe32f8847be7fa8af6b951654", func := "loop.example/g01121/laws.FnExactLinearBits", spec := "fnExactLinearBits", unfollowed := true, recurses := true, apart := false }
def FnExactLinearBitsSaid : Prop := fnExactLinearBitsRow.holds Try.pinned (OpenSpec.ofChange fnExactLinearBitsSpec)

/-- ITS FALSE NEIGHBOUR: 'it returns false'. Refute it at one input. -/
def fnExactLinearBitsWrong : ChangeSpec := { name := "fnExactLinearBits", fn := fun _ => fun
  | [d1, d2, d3] => { results := [.lit (.bool false)], args := [d1, d2, d3] }
  | _ => none }
def FnExactLinearBitsWrongFalsely : Prop := fnExactLinearBitsRow.holds Try.pinned (OpenSpec.ofChange fnExactLinearBitsWrong)

/-- 'laws.FnExactOutputRank': WHATEVER THE INPUT: true; the input reads as it did. -/
def fnExactOutputRankSpec : ChangeSpec := { name := "fnExactOutputRank", fn := fun _ => fun
  | [d] => { results := [.lit (.bool true)], args := [d] }
  | _ => none }
def fnExactOutputRankRow : OpenClaim := { program := "ytonnbgjbohbibaa", sum := "e63e1deedc1a82e11e31453c7ca33366eccee7abe32f8847be7fa8af6b951654", func := "loop.example/g01121/laws.FnExactOutputRank", spec := "fnExactOutputRank", unfollowed := true, recurses := true, apart := false }
def FnExactOutputRankSaid : Prop := fnExactOutputRankRow.holds Try.pinned (OpenSpec.ofChange fnExactOutputRankSpec)

/-- ITS FALSE NEIGHBOUR: 'it returns false'. Refute it at one input. -/
def fnExactOutputRankWrong : ChangeSpec := { name := "fnExactOutputRank", fn := fun _ => fun
  | [d] => { results := [.lit (.bool false)], args := [d] }
  | _ => none }
def FnExactOutputRankWrongFalsely : Prop := fnExactOutputRankRow.holds Try.pinned (OpenSpec.ofChange fnExactOutputRankWrong)

/-- 'laws.FnExactJumpLinear': WHATEVER THE INPUT: true; the input reads as it did. -/
def fnExactJumpLinearSpec : ChangeSpec := { name := "fnExactJumpLinear", fn := fun _ => fun
  | [d1, d2, d3] => { results := [.lit (.bool true)], args := [d1, d2, d3] }
  | _ => none }
def fnExactJumpLinearRow : OpenClaim := { program := "ytonnbgjbohbibaa", sum := "e63e1deedc1a82e11e31453c7ca33366eccee7abe32f8847be7fa8af6b951654", func := "loop.example/g01121/laws.FnExactJumpLinear", spec := "fnExactJumpLinear", unfollowed := true, recurses := true, apart := false }
def FnExactJumpLinearSaid : Prop := fnExactJumpLinearRow.holds Try.pinned (OpenSpec.ofChange fnExactJumpLinearSpec)

/-- ITS FALSE NEIGHBOUR: 'it returns false'. Refute it at one input. -/
def fnExactJumpLinearWrong : ChangeSpec := { name := "fnExactJumpLinear", fn := fun _ => fun
  | [d1, d2, d3] => { results := [.lit (.bool false)], args := [d1, d2, d3] }
  | _ => none }
def FnExactJumpLinearWrongFalsely : Prop := fnExactJumpLinearRow.holds Try.pinned (OpenSpec.ofChange fnExactJumpLinearWrong)

/-- 'laws.FnExactBackLinear': WHATEVER THE INPUT: true; the input reads as it did. -/
def fnExactBackLinearSpec : ChangeSpec := { name := "fnExactBackLinear", fn := fun _ => fun
  | [d1, d2] => { results := [.lit (.bool true)], args := [d1, d2] }
  | _ => none }
def fnExactBackLinearRow : OpenClaim := { program := "ytonnbgjbohbibaa", sum := "e63e1deedc1a82e11e31453c7ca33366eccee7abe32f8847be7fa8af6b951654", func := "loop.example/g01121/laws.FnExactBackLinear", spec := "fnExactBackLinear", unfollowed := true, recurses := true, apart := false }
def FnExactBackLinearSaid : Prop := fnExactBackLinearRow.holds Try.pinned (OpenSpec.ofChange fnExactBackLinearSpec)

/-- ITS FALSE NEIGHBOUR: 'it returns false'. Refute it at one input. -/
def fnExactBackLinearWrong : ChangeSpec := { name := "fnExactBackLinear", fn := fun _ => fun
  | [d1, d2] => { results := [.lit (.bool false)], args := [d1, d2] }
  | _ => none }
def FnExactBackLinearWrongFalsely : Prop := fnExactBackLinearRow.holds Try.pinned (OpenSpec.ofChange fnExactBackLinearWrong)

/-- 'laws.FnLinearSteps': WHATEVER THE INPUT: true; the input reads as it did. -/
def fnLinearStepsSpec : ChangeSpec := { name := "fnLinearSteps", fn := fun _ => fun
  | [d1, d2] => { results := [.lit (.bool true)], args := [d1, d2] }
  | _ => none }
def fnLinearStepsRow : OpenClaim := { program := "ytonnbgjbohbibaa", sum := "e63e1deedc1a82e11e31453c7ca33366eccee7abe32f8847be7fa8af6b951654", func := "loop.example/g01121/laws.FnLinearSteps", spec := "fnLinearSteps", unfollowed := true, recurses := true, apart := false }
def FnLinearStepsSaid : Prop := fnLinearStepsRow.holds Try.pinned (OpenSpec.ofChange fnLinearStepsSpec)

/-- ITS FALSE NEIGHBOUR: 'it returns false'. Refute it at one input. -/
def fnLinearStepsWrong : ChangeSpec := { name := "fnLinearSteps", fn := fun _ => fun
  | [d1, d2] => { results := [.lit (.bool false)], args := [d1, d2] }
  | _ => none }
def FnLinearStepsWrongFalsely : Prop := fnLinearStepsRow.holds Try.pinned (OpenSpec.ofChange fnLinearStepsWrong)

/-- 'laws.FnStatesBehind': WHATEVER THE INPUT: true; the input reads as it did. -/
def fnStatesBehindSpec : ChangeSpec := { name := "fnStatesBehind", fn := fun _ => fun
  | [d1, d2] => { results := [.lit (.bool true)], args := [d1, d2] }
  | _ => none }
def fnStatesBehindRow : OpenClaim := { program := "ytonnbgjbohbibaa", sum := "e63e1deedc1a82e11e31453c7ca33366eccee7abe32f8847be7fa8af6b951654", func := "loop.example/g01121/laws.FnStatesBehind", spec := "fnStatesBehind", unfollowed := true, recurses := true, apart := false }
def FnStatesBehindSaid : Prop := fnStatesBehindRow.holds Try.pinned (OpenSpec.ofChange fnStatesBehindSpec)

/-- ITS FALSE NEIGHBOUR: 'it returns false'. Refute it at one input. -/
def fnStatesBehindWrong : ChangeSpec := { name := "fnStatesBehind", fn := fun _ => fun
  | [d1, d2] => { results := [.lit (.bool false)], args := [d1, d2] }
  | _ => none }
def FnStatesBehindWrongFalsely : Prop := fnStatesBehindRow.holds Try.pinned (OpenSpec.ofChange fnStatesBehindWrong)

/-- 'laws.FnOutputRank': WHATEVER THE INPUT: true; the input reads as it did. -/
def fnOutputRankSpec : ChangeSpec := { name := "fnOutputRank", fn := fun _ => fun
  | [d1, d2] => { results := [.lit (.bool true)], args := [d1, d2] }
  | _ => none }
def fnOutputRankRow : OpenClaim := { program := "ytonnbgjbohbibaa", sum := "e63e1deedc1a82e11e31453c7ca33366eccee7abe32f8847be7fa8af6b951654", func := "loop.example/g01121/laws.FnOutputRank", spec := "fnOutputRank", unfollowed := true, recurses := true, apart := false }
def FnOutputRankSaid : Prop := fnOutputRankRow.holds Try.pinned (OpenSpec.ofChange fnOutputRankSpec)

/-- ITS FALSE NEIGHBOUR: 'it returns false'. Refute it at one input. -/
def fnOutputRankWrong : ChangeSpec := { name := "fnOutputRank", fn := fun _ => fun
  | [d1, d2] => { results := [.lit (.bool false)], args := [d1, d2] }
  | _ => none }
def FnOutputRankWrongFalsely : Prop := fnOutputRankRow.holds Try.pinned (OpenSpec.ofChange fnOutputRankWrong)

/-- 'laws.FnExactPredictBit': WHATEVER THE INPUT: true; the input reads as it did. -/
def fnExactPredictBitSpec : ChangeSpec := { name := "fnExactPredictBit", fn := fun _ => fun
  | [d1, d2, d3] => { results := [.lit (.bool true)], args := [d1, d2, d3] }
  | _ => none }
def fnExactPredictBitRow : OpenClaim := { program := "ytonnbgjbohbibaa", sum := "e63e1deedc1a82e11e31453c7ca33366eccee7abe32f8847be7fa8af6b951654", func := "loop.example/g01121/laws.FnExactPredictBit", spec := "fnExactPredictBit", unfollowed := true, recurses := true, apart := false }
def FnExactPredictBitSaid : Prop := fnExactPredictBitRow.holds Try.pinned (OpenSpec.ofChange fnExactPredictBitSpec)

/-- ITS FALSE NEIGHBOUR: 'it returns false'. Refute it at one input. -/
def fnExactPredictBitWrong : ChangeSpec := { name := "fnExactPredictBit", fn := fun _ => fun
  | [d1, d2, d3] => { results := [.lit (.bool false)], args := [d1, d2, d3] }
  | _ => none }
def FnExactPredictBitWrongFalsely : Prop := fnExactPredictBitRow.holds Try.pinned (OpenSpec.ofChange fnExactPredictBitWrong)

/-- 'laws.FnExactStatesBehind': WHATEVER THE INPUT: true; the input reads as it did. -/
def fnExactStatesBehindSpec : ChangeSpec := { name := "fnExactStatesBehind", fn := fun _ => fun
  | [d1, d2] => { results := [.lit (.bool true)], args := [d1, d2] }
  | _ => none }
def fnExactStatesBehindRow : OpenClaim := { program := "ytonnbgjbohbibaa", sum := "e63e1deedc1a82e11e31453c7ca33366eccee7abe32f8847be7fa8af6b951654", func := "loop.example/g01121/laws.FnExactStatesBehind", spec := "fnExactStatesBehind", unfollowed := true, recurses := true, apart := false }
def FnExactStatesBehindSaid : Prop := fnExactStatesBehindRow.holds Try.pinned (OpenSpec.ofChange fnExactStatesBehindSpec)

/-- ITS FALSE NEIGHBOUR: 'it returns false'. Refute it at one input. -/
def fnExactStatesBehindWrong : ChangeSpec := { name := "fnExactStatesBehind", fn := fun _ => fun
  | [d1, d2] => { results := [.lit (.bool false)], args := [d1, d2] }
  | _ => none }
def FnExactStatesBehindWrongFalsely : Prop := fnExactStatesBehindRow.holds Try.pinned (OpenSpec.ofChange fnExactStatesBehindWrong)

/- THE SECOND FORM. 'bulk': how many values and letters a reading holds, each counted each time it is reached (what is shared counts as often as it is met; a slice's spare places count too). A statement '..UptoSaid' is the law's where the arguments, and the package variables that the reading takes, are together of bulk at most 1048576: NARROWER than '..Said'. Prove '..Said' where nothing that the law and all that it calls make is longer than what came in: it says more and counts as full. Else prove '..UptoSaid'. A law counts once. -/
mutual
def uptoBulk {H : Type} : DataW H → Nat
  | .lit (.string bytes) => bytes.length + 1
  | .lit _ => 1
  | .nil => 1
  | .ptr d => uptoBulk d + 1
  | .slice elems spare => uptoBulkAll elems + uptoBulkAll spare + 1
  | .agg parts => uptoBulkAll parts + 1
  | .iface _ d => uptoBulk d + 1
  | .map entries => uptoBulkEntries entries + 1
  | .held _ => 1
def uptoBulkAll {H : Type} : List (DataW H) → Nat
  | [] => 0
  | d :: r => uptoBulk d + uptoBulkAll r
def uptoBulkEntries {H : Type} : List (Lit × DataW H) → Nat
  | [] => 0
  | x :: r => uptoBulkEntry x + uptoBulkEntries r
def uptoBulkEntry {H : Type} : Lit × DataW H → Nat
  | (.string bytes, d) => bytes.length + uptoBulk d + 1
  | (_, d) => uptoBulk d + 1
 end
def uptoSmall : (H : Type) → List (DataW H) → Bool := fun _ ds => decide (uptoBulkAll ds ≤ 1048576)
def OpenSpec.upto (s : _root_.Go.ChangeSpec) : _root_.Go.OpenSpec := { _root_.Go.OpenSpec.ofChange s with cond := some uptoSmall }

/-- 'laws.FnExactTemperWord', WHERE WHAT IT READS IS OF BULK AT MOST 1048576: true; the input reads as it did. -/
def fnExactTemperWordUptoRow : OpenClaim := { program := "ytonnbgjbohbibaa", sum := "e63e1deedc1a82e11e31453c7ca33366eccee7abe32f8847be7fa8af6b951654", func := "loop.example/g01121/laws.FnExactTemperWord", spec := "fnExactTemperWord", unfollowed := true, recurses := true, apart := false, narrowed := true }
def FnExactTemperWordUptoSaid : Prop := fnExactTemperWordUptoRow.holds Try.pinned (OpenSpec.upto fnExactTemperWordSpec)

/-- 'laws.FnSeeds', WHERE WHAT IT READS IS OF BULK AT MOST 1048576: true; the input reads as it did. -/
def fnSeedsUptoRow : OpenClaim := { program := "ytonnbgjbohbibaa", sum := "e63e1deedc1a82e11e31453c7ca33366eccee7abe32f8847be7fa8af6b951654", func := "loop.example/g01121/laws.FnSeeds", spec := "fnSeeds", unfollowed := true, recurses := true, apart := false, narrowed := true }
def FnSeedsUptoSaid : Prop := fnSeedsUptoRow.holds Try.pinned (OpenSpec.upto fnSeedsSpec)

/-- 'laws.FnExactValidLinear', WHERE WHAT IT READS IS OF BULK AT MOST 1048576: true; the input reads as it did. -/
def fnExactValidLinearUptoRow : OpenClaim := { program := "ytonnbgjbohbibaa", sum := "e63e1deedc1a82e11e31453c7ca33366eccee7abe32f8847be7fa8af6b951654", func := "loop.example/g01121/laws.FnExactValidLinear", spec := "fnExactValidLinear", unfollowed := true, recurses := true, apart := false, narrowed := true }
def FnExactValidLinearUptoSaid : Prop := fnExactValidLinearUptoRow.holds Try.pinned (OpenSpec.upto fnExactValidLinearSpec)

/-- 'laws.FnExactOfRegister', WHERE WHAT IT READS IS OF BULK AT MOST 1048576: true; the input reads as it did. -/
def fnExactOfRegisterUptoRow : OpenClaim := { program := "ytonnbgjbohbibaa", sum := "e63e1deedc1a82e11e31453c7ca33366eccee7abe32f8847be7fa8af6b951654", func := "loop.example/g01121/laws.FnExactOfRegister", spec := "fnExactOfRegister", apart := false, narrowed := true }
def FnExactOfRegisterUptoSaid : Prop := fnExactOfRegisterUptoRow.holds Try.pinned (OpenSpec.upto fnExactOfRegisterSpec)

/-- 'laws.FnExactUntemperWord', WHERE WHAT IT READS IS OF BULK AT MOST 1048576: true; the input reads as it did. -/
def fnExactUntemperWordUptoRow : OpenClaim := { program := "ytonnbgjbohbibaa", sum := "e63e1deedc1a82e11e31453c7ca33366eccee7abe32f8847be7fa8af6b951654", func := "loop.example/g01121/laws.FnExactUntemperWord", spec := "fnExactUntemperWord", unfollowed := true, recurses := true, apart := false, narrowed := true }
def FnExactUntemperWordUptoSaid : Prop := fnExactUntemperWordUptoRow.holds Try.pinned (OpenSpec.upto fnExactUntemperWordSpec)

/-- 'laws.FnExactSeedsBehind', WHERE WHAT IT READS IS OF BULK AT MOST 1048576: true; the input reads as it did. -/
def fnExactSeedsBehindUptoRow : OpenClaim := { program := "ytonnbgjbohbibaa", sum := "e63e1deedc1a82e11e31453c7ca33366eccee7abe32f8847be7fa8af6b951654", func := "loop.example/g01121/laws.FnExactSeedsBehind", spec := "fnExactSeedsBehind", unfollowed := true, recurses := true, apart := false, narrowed := true }
def FnExactSeedsBehindUptoSaid : Prop := fnExactSeedsBehindUptoRow.holds Try.pinned (OpenSpec.upto fnExactSeedsBehindSpec)

/-- 'laws.FnTempered', WHERE WHAT IT READS IS OF BULK AT MOST 1048576: true; the input reads as it did. -/
def fnTemperedUptoRow : OpenClaim := { program := "ytonnbgjbohbibaa", sum := "e63e1deedc1a82e11e31453c7ca33366eccee7abe32f8847be7fa8af6b951654", func := "loop.example/g01121/laws.FnTempered", spec := "fnTempered", unfollowed := true, recurses := true, apart := false, narrowed := true }
def FnTemperedUptoSaid : Prop := fnTemperedUptoRow.holds Try.pinned (OpenSpec.upto fnTemperedSpec)

/-- 'laws.FnExactRegisterBits', WHERE WHAT IT READS IS OF BULK AT MOST 1048576: true; the input reads as it did. -/
def fnExactRegisterBitsUptoRow : OpenClaim := { program := "ytonnbgjbohbibaa", sum := "e63e1deedc1a82e11e31453c7ca33366eccee7abe32f8847be7fa8af6b951654", func := "loop.example/g01121/laws.FnExactRegisterBits", spec := "fnExactRegisterBits", inPlace := ["internal/abi.NoEscape"], apart := false, narrowed := true }
def FnExactRegisterBitsUptoSaid : Prop := fnExactRegisterBitsUptoRow.holds Try.pinned (OpenSpec.upto fnExactRegisterBitsSpec)

/-- 'laws.FnExactOfXorshift', WHERE WHAT IT READS IS OF BULK AT MOST 1048576: true; the input reads as it did. -/
def fnExactOfXorshiftUptoRow : OpenClaim := { program := "ytonnbgjbohbibaa", sum := "e63e1deedc1a82e11e31453c7ca33366eccee7abe32f8847be7fa8af6b951654", func := "loop.example/g01121/laws.FnExactOfXorshift", spec := "fnExactOfXorshift", unfollowed := true, recurses := true, apart := false, narrowed := true }
def FnExactOfXorshiftUptoSaid : Prop := fnExactOfXorshiftUptoRow.holds Try.pinned (OpenSpec.upto fnExactOfXorshiftSpec)

/-- 'laws.FnExactStepLinear', WHERE WHAT IT READS IS OF BULK AT MOST 1048576: true; the input reads as it did. -/
def fnExactStepLinearUptoRow : OpenClaim := { program := "ytonnbgjbohbibaa", sum := "e63e1deedc1a82e11e31453c7ca33366eccee7abe32f8847be7fa8af6b951654", func := "loop.example/g01121/laws.FnExactStepLinear", spec := "fnExactStepLinear", unfollowed := true, recurses := true, apart := false, narrowed := true }
def FnExactStepLinearUptoSaid : Prop := fnExactStepLinearUptoRow.holds Try.pinned (OpenSpec.upto fnExactStepLinearSpec)

/-- 'laws.FnExactLinearBits', WHERE WHAT IT READS IS OF BULK AT MOST 1048576: true; the input reads as it did. -/
def fnExactLinearBitsUptoRow : OpenClaim := { program := "ytonnbgjbohbibaa", sum := "e63e1deedc1a82e11e31453c7ca33366eccee7abe32f8847be7fa8af6b951654", func := "loop.example/g01121/laws.FnExactLinearBits", spec := "fnExactLinearBits", unfollowed := true, recurses := true, apart := false, narrowed := true }
def FnExactLinearBitsUptoSaid : Prop := fnExactLinearBitsUptoRow.holds Try.pinned (OpenSpec.upto fnExactLinearBitsSpec)

/-- 'laws.FnExactOutputRank', WHERE WHAT IT READS IS OF BULK AT MOST 1048576: true; the input reads as it did. -/
def fnExactOutputRankUptoRow : OpenClaim := { program := "ytonnbgjbohbibaa", sum := "e63e1deedc1a82e11e31453c7ca33366eccee7abe32f8847be7fa8af6b951654", func := "loop.example/g01121/laws.FnExactOutputRank", spec := "fnExactOutputRank", unfollowed := true, recurses := true, apart := false, narrowed := true }
def FnExactOutputRankUptoSaid : Prop := fnExactOutputRankUptoRow.holds Try.pinned (OpenSpec.upto fnExactOutputRankSpec)

/-- 'laws.FnExactJumpLinear', WHERE WHAT IT READS IS OF BULK AT MOST 1048576: true; the input reads as it did. -/
def fnExactJumpLinearUptoRow : OpenClaim := { program := "ytonnbgjbohbibaa", sum := "e63e1deedc1a82e11e31453c7ca33366eccee7abe32f8847be7fa8af6b951654", func := "loop.example/g01121/laws.FnExactJumpLinear", spec := "fnExactJumpLinear", unfollowed := true, recurses := true, apart := false, narrowed := true }
def FnExactJumpLinearUptoSaid : Prop := fnExactJumpLinearUptoRow.holds Try.pinned (OpenSpec.upto fnExactJumpLinearSpec)

/-- 'laws.FnExactBackLinear', WHERE WHAT IT READS IS OF BULK AT MOST 1048576: true; the input reads as it did. -/
def fnExactBackLinearUptoRow : OpenClaim := { program := "ytonnbgjbohbibaa", sum := "e63e1deedc1a82e11e31453c7ca33366eccee7abe32f8847be7fa8af6b951654", func := "loop.example/g01121/laws.FnExactBackLinear", spec := "fnExactBackLinear", unfollowed := true, recurses := true, apart := false, narrowed := true }
def FnExactBackLinearUptoSaid : Prop := fnExactBackLinearUptoRow.holds Try.pinned (OpenSpec.upto fnExactBackLinearSpec)

/-- 'laws.FnLinearSteps', WHERE WHAT IT READS IS OF BULK AT MOST 1048576: true; the input reads as it did. -/
def fnLinearStepsUptoRow : OpenClaim := { program := "ytonnbgjbohbibaa", sum := "e63e1deedc1a82e11e31453c7ca33366eccee7abe32f8847be7fa8af6b951654", func := "loop.example/g01121/laws.FnLinearSteps", spec := "fnLinearSteps", unfollowed := true, recurses := true, apart := false, narrowed := true }
def FnLinearStepsUptoSaid : Prop := fnLinearStepsUptoRow.holds Try.pinned (OpenSpec.upto fnLinearStepsSpec)

/-- 'laws.FnStatesBehind', WHERE WHAT IT READS IS OF BULK AT MOST 1048576: true; the input reads as it did. -/
def fnStatesBehindUptoRow : OpenClaim := { program := "ytonnbgjbohbibaa", sum := "e63e1deedc1a82e11e31453c7ca33366eccee7abe32f8847be7fa8af6b951654", func := "loop.example/g01121/laws.FnStatesBehind", spec := "fnStatesBehind", unfollowed := true, recurses := true, apart := false, narrowed := true }
def FnStatesBehindUptoSaid : Prop := fnStatesBehindUptoRow.holds Try.pinned (OpenSpec.upto fnStatesBehindSpec)

/-- 'laws.FnOutputRank', WHERE WHAT IT READS IS OF BULK AT MOST 1048576: true; the input reads as it did. -/
def fnOutputRankUptoRow : OpenClaim := { program := "ytonnbgjbohbibaa", sum := "e63e1deedc1a82e11e31453c7ca33366eccee7abe32f8847be7fa8af6b951654", func := "loop.example/g01121/laws.FnOutputRank", spec := "fnOutputRank", unfollowed := true, recurses := true, apart := false, narrowed := true }
def FnOutputRankUptoSaid : Prop := fnOutputRankUptoRow.holds Try.pinned (OpenSpec.upto fnOutputRankSpec)

/-- 'laws.FnExactPredictBit', WHERE WHAT IT READS IS OF BULK AT MOST 1048576: true; the input reads as it did. -/
def fnExactPredictBitUptoRow : OpenClaim := { program := "ytonnbgjbohbibaa", sum := "e63e1deedc1a82e11e31453c7ca33366eccee7abe32f8847be7fa8af6b951654", func := "loop.example/g01121/laws.FnExactPredictBit", spec := "fnExactPredictBit", unfollowed := true, recurses := true, apart := false, narrowed := true }
def FnExactPredictBitUptoSaid : Prop := fnExactPredictBitUptoRow.holds Try.pinned (OpenSpec.upto fnExactPredictBitSpec)

/-- 'laws.FnExactStatesBehind', WHERE WHAT IT READS IS OF BULK AT MOST 1048576: true; the input reads as it did. -/
def fnExactStatesBehindUptoRow : OpenClaim := { program := "ytonnbgjbohbibaa", sum := "e63e1deedc1a82e11e31453c7ca33366eccee7abe32f8847be7fa8af6b951654", func := "loop.example/g01121/laws.FnExactStatesBehind", spec := "fnExactStatesBehind", unfollowed := true, recurses := true, apart := false, narrowed := true }
def FnExactStatesBehindUptoSaid : Prop := fnExactStatesBehindUptoRow.holds Try.pinned (OpenSpec.upto fnExactStatesBehindSpec)

end Rows
end Go.Proofs.Ytonnbgjbohbibaa
