/-
  DERIVED. GIVEN WITH THE SEED: THE CARDS: each row of YthkdbkjkccogfaaDoorRows.lean that lists a variable, with what it lists TIED to the program's text (the seventh form; the later family's looks); each row that meets fmt, with fmt's text TOLD by the authors' own Lean function (tested against real Go, not proved from fmt's source: count such statements apart). THE CARD IS WHAT COUNTS. Prove the row's statement (the work); the ties are given (YthkdbkjkccogfaaDoorTie.lean); close each card by the builder's one call (the guide's Derived/Test/ToyasCard.lean, 'card_holds'). Laid BY PROGRAM, IN A SANDBOX (cutbox-door.mjs). By AI agents, Wed Nov 11 2026. No macro, syntax, notation, axiom, sorry.
-/
import Derived.Test.YthkdbkjkccogfaaDoorRows
import GoSem.ClaimSeven
namespace Go.Proofs.YthkdbkjkccogfaaDoor
namespace Rows

/-- THE TIED CARD OF 'laws.FnExactBestStates'. -/
def fnExactBestStatesCard : Claim7 := { stood := { row := fnExactBestStatesRow, standIns := [], harness := (true, "e357d815c7fe4da50be4ce61d6e656e3e97f38d58aebf0dfd1127778262e4b71"), looks := false }, kinds := [], alts := [], laidByText := true, laidKinds := [.data, .pinned], laidTests := true, laidLooks := .later }
def FnExactBestStatesCardSaid : Prop := Claim7.holds Tryd.pinned (.plain (OpenSpec.ofChange fnExactBestStatesSpec)) fnExactBestStatesCard

/-- THE TIED CARD OF 'laws.FnAttack'. -/
def fnAttackCard : Claim7 := { stood := { row := fnAttackRow, standIns := [], harness := (true, "e357d815c7fe4da50be4ce61d6e656e3e97f38d58aebf0dfd1127778262e4b71"), looks := false }, kinds := [], alts := [], laidByText := true, laidKinds := [.data, .pinned], laidTests := true, laidLooks := .later }
def FnAttackCardSaid : Prop := Claim7.holds Tryd.pinned (.plain (OpenSpec.ofChange fnAttackSpec)) fnAttackCard

/-- THE TIED CARD OF 'laws.FnShortestRegister'. -/
def fnShortestRegisterCard : Claim7 := { stood := { row := fnShortestRegisterRow, standIns := [], harness := (true, "e357d815c7fe4da50be4ce61d6e656e3e97f38d58aebf0dfd1127778262e4b71"), looks := false }, kinds := [], alts := [], laidByText := true, laidKinds := [.data, .pinned], laidTests := true, laidLooks := .later }
def FnShortestRegisterCardSaid : Prop := Claim7.holds Tryd.pinned (.plain (OpenSpec.ofChange fnShortestRegisterSpec)) fnShortestRegisterCard

/-- THE TIED CARD OF 'laws.FnExactRegisterOf'. -/
def fnExactRegisterOfCard : Claim7 := { stood := { row := fnExactRegisterOfRow, standIns := [], harness := (true, "e357d815c7fe4da50be4ce61d6e656e3e97f38d58aebf0dfd1127778262e4b71"), looks := false }, kinds := [], alts := [], laidByText := true, laidKinds := [.data, .pinned], laidTests := true, laidLooks := .later }
def FnExactRegisterOfCardSaid : Prop := Claim7.holds Tryd.pinned (.plain (OpenSpec.ofChange fnExactRegisterOfSpec)) fnExactRegisterOfCard

/-- THE TIED CARD OF 'laws.FnSameRegister'. -/
def fnSameRegisterCard : Claim7 := { stood := { row := fnSameRegisterRow, standIns := [], harness := (true, "e357d815c7fe4da50be4ce61d6e656e3e97f38d58aebf0dfd1127778262e4b71"), looks := false }, kinds := [], alts := [], laidByText := true, laidKinds := [.data, .pinned], laidTests := true, laidLooks := .later }
def FnSameRegisterCardSaid : Prop := Claim7.holds Tryd.pinned (.plain (OpenSpec.ofChange fnSameRegisterSpec)) fnSameRegisterCard

/-- THE TIED CARD OF 'laws.FnAgreements'. -/
def fnAgreementsCard : Claim7 := { stood := { row := fnAgreementsRow, standIns := [], harness := (true, "e357d815c7fe4da50be4ce61d6e656e3e97f38d58aebf0dfd1127778262e4b71"), looks := false }, kinds := [], alts := [], laidByText := true, laidKinds := [.data, .pinned], laidTests := true, laidLooks := .later }
def FnAgreementsCardSaid : Prop := Claim7.holds Tryd.pinned (.plain (OpenSpec.ofChange fnAgreementsSpec)) fnAgreementsCard

/-- THE TIED CARD OF 'laws.FnCombinedStreams'. -/
def fnCombinedStreamsCard : Claim7 := { stood := { row := fnCombinedStreamsRow, standIns := [], harness := (true, "e357d815c7fe4da50be4ce61d6e656e3e97f38d58aebf0dfd1127778262e4b71"), looks := false }, kinds := [], alts := [], laidByText := true, laidKinds := [.data, .pinned], laidTests := true, laidLooks := .later }
def FnCombinedStreamsCardSaid : Prop := Claim7.holds Tryd.pinned (.plain (OpenSpec.ofChange fnCombinedStreamsSpec)) fnCombinedStreamsCard

/-- THE TIED CARD OF 'laws.FnFairFlips'. -/
def fnFairFlipsCard : Claim7 := { stood := { row := fnFairFlipsRow, standIns := [], harness := (true, "e357d815c7fe4da50be4ce61d6e656e3e97f38d58aebf0dfd1127778262e4b71"), looks := false }, kinds := [], alts := [], laidByText := true, laidKinds := [.data, .pinned], laidTests := true, laidLooks := .later }
def FnFairFlipsCardSaid : Prop := Claim7.holds Tryd.pinned (.plain (OpenSpec.ofChange fnFairFlipsSpec)) fnFairFlipsCard

/-- THE TIED CARD OF 'laws.FnTreeRolls'. -/
def fnTreeRollsCard : Claim7 := { stood := { row := fnTreeRollsRow, standIns := [], harness := (true, "e357d815c7fe4da50be4ce61d6e656e3e97f38d58aebf0dfd1127778262e4b71"), looks := false }, kinds := [], alts := [], laidByText := true, laidKinds := [.data, .pinned], laidTests := true, laidLooks := .later }
def FnTreeRollsCardSaid : Prop := Claim7.holds Tryd.pinned (.plain (OpenSpec.ofChange fnTreeRollsSpec)) fnTreeRollsCard

/-- THE SECOND FORM's CARD OF 'laws.FnExactBestStates'. -/
def fnExactBestStatesUptoCard : Claim7 := { stood := { row := fnExactBestStatesUptoRow, standIns := [], harness := (true, "e357d815c7fe4da50be4ce61d6e656e3e97f38d58aebf0dfd1127778262e4b71"), looks := false }, kinds := [], alts := [], laidByText := true, laidKinds := [.data, .pinned], laidTests := true, laidLooks := .later }
def FnExactBestStatesUptoCardSaid : Prop := Claim7.holds Tryd.pinned (.plain (OpenSpec.upto fnExactBestStatesSpec)) fnExactBestStatesUptoCard

/-- THE SECOND FORM's CARD OF 'laws.FnAttack'. -/
def fnAttackUptoCard : Claim7 := { stood := { row := fnAttackUptoRow, standIns := [], harness := (true, "e357d815c7fe4da50be4ce61d6e656e3e97f38d58aebf0dfd1127778262e4b71"), looks := false }, kinds := [], alts := [], laidByText := true, laidKinds := [.data, .pinned], laidTests := true, laidLooks := .later }
def FnAttackUptoCardSaid : Prop := Claim7.holds Tryd.pinned (.plain (OpenSpec.upto fnAttackSpec)) fnAttackUptoCard

/-- THE SECOND FORM's CARD OF 'laws.FnShortestRegister'. -/
def fnShortestRegisterUptoCard : Claim7 := { stood := { row := fnShortestRegisterUptoRow, standIns := [], harness := (true, "e357d815c7fe4da50be4ce61d6e656e3e97f38d58aebf0dfd1127778262e4b71"), looks := false }, kinds := [], alts := [], laidByText := true, laidKinds := [.data, .pinned], laidTests := true, laidLooks := .later }
def FnShortestRegisterUptoCardSaid : Prop := Claim7.holds Tryd.pinned (.plain (OpenSpec.upto fnShortestRegisterSpec)) fnShortestRegisterUptoCard

/-- THE SECOND FORM's CARD OF 'laws.FnExactRegisterOf'. -/
def fnExactRegisterOfUptoCard : Claim7 := { stood := { row := fnExactRegisterOfUptoRow, standIns := [], harness := (true, "e357d815c7fe4da50be4ce61d6e656e3e97f38d58aebf0dfd1127778262e4b71"), looks := false }, kinds := [], alts := [], laidByText := true, laidKinds := [.data, .pinned], laidTests := true, laidLooks := .later }
def FnExactRegisterOfUptoCardSaid : Prop := Claim7.holds Tryd.pinned (.plain (OpenSpec.upto fnExactRegisterOfSpec)) fnExactRegisterOfUptoCard

/-- THE SECOND FORM's CARD OF 'laws.FnSameRegister'. -/
def fnSameRegisterUptoCard : Claim7 := { stood := { row := fnSameRegisterUptoRow, standIns := [], harness := (true, "e357d815c7fe4da50be4ce61d6e656e3e97f38d58aebf0dfd1127778262e4b71"), looks := false }, kinds := [], alts := [], laidByText := true, laidKinds := [.data, .pinned], laidTests := true, laidLooks := .later }
def FnSameRegisterUptoCardSaid : Prop := Claim7.holds Tryd.pinned (.plain (OpenSpec.upto fnSameRegisterSpec)) fnSameRegisterUptoCard

/-- THE SECOND FORM's CARD OF 'laws.FnAgreements'. -/
def fnAgreementsUptoCard : Claim7 := { stood := { row := fnAgreementsUptoRow, standIns := [], harness := (true, "e357d815c7fe4da50be4ce61d6e656e3e97f38d58aebf0dfd1127778262e4b71"), looks := false }, kinds := [], alts := [], laidByText := true, laidKinds := [.data, .pinned], laidTests := true, laidLooks := .later }
def FnAgreementsUptoCardSaid : Prop := Claim7.holds Tryd.pinned (.plain (OpenSpec.upto fnAgreementsSpec)) fnAgreementsUptoCard

/-- THE SECOND FORM's CARD OF 'laws.FnCombinedStreams'. -/
def fnCombinedStreamsUptoCard : Claim7 := { stood := { row := fnCombinedStreamsUptoRow, standIns := [], harness := (true, "e357d815c7fe4da50be4ce61d6e656e3e97f38d58aebf0dfd1127778262e4b71"), looks := false }, kinds := [], alts := [], laidByText := true, laidKinds := [.data, .pinned], laidTests := true, laidLooks := .later }
def FnCombinedStreamsUptoCardSaid : Prop := Claim7.holds Tryd.pinned (.plain (OpenSpec.upto fnCombinedStreamsSpec)) fnCombinedStreamsUptoCard

/-- THE SECOND FORM's CARD OF 'laws.FnFairFlips'. -/
def fnFairFlipsUptoCard : Claim7 := { stood := { row := fnFairFlipsUptoRow, standIns := [], harness := (true, "e357d815c7fe4da50be4ce61d6e656e3e97f38d58aebf0dfd1127778262e4b71"), looks := false }, kinds := [], alts := [], laidByText := true, laidKinds := [.data, .pinned], laidTests := true, laidLooks := .later }
def FnFairFlipsUptoCardSaid : Prop := Claim7.holds Tryd.pinned (.plain (OpenSpec.upto fnFairFlipsSpec)) fnFairFlipsUptoCard

/-- THE SECOND FORM's CARD OF 'laws.FnTreeRolls'. -/
def fnTreeRollsUptoCard : Claim7 := { stood := { row := fnTreeRollsUptoRow, standIns := [], harness := (true, "e357d815c7fe4da50be4ce61d6e656e3e97f38d58aebf0dfd1127778262e4b71"), looks := false }, kinds := [], alts := [], laidByText := true, laidKinds := [.data, .pinned], laidTests := true, laidLooks := .later }
def FnTreeRollsUptoCardSaid : Prop := Claim7.holds Tryd.pinned (.plain (OpenSpec.upto fnTreeRollsSpec)) fnTreeRollsUptoCard
end Rows
end Go.Proofs.YthkdbkjkccogfaaDoor
