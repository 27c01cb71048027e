/-
  DERIVED. GIVEN WITH THE SEED: THE CARDS: each row of YtjecbjnckbihoaaDoorRows.lean that lists a variable, with what it lists TIED to the program's text (the seventh form; the later family's looks); each row that meets fmt, with fmt's text TOLD by the authors' own Lean function (tested against real Go, not proved from fmt's source: count such statements apart). THE CARD IS WHAT COUNTS. Prove the row's statement (the work); the ties are given (YtjecbjnckbihoaaDoorTie.lean); close each card by the builder's one call (the guide's Derived/Test/ToyasCard.lean, 'card_holds'). Laid BY PROGRAM, IN A SANDBOX (cutbox-door.mjs). By AI agents, Wed Nov 11 2026. No macro, syntax, notation, axiom, sorry.
-/
import Derived.Test.YtjecbjnckbihoaaDoorRows
import GoSem.ClaimSeven
namespace Go.Proofs.YtjecbjnckbihoaaDoor
namespace Rows

/-- THE TIED CARD OF 'laws.FnDiceFair'. -/
def fnDiceFairCard : Claim7 := { stood := { row := fnDiceFairRow, standIns := [], harness := (true, "8191d94337fc0785e43a2b65437e5a45d1263f670674e0bc13dcc9cefca7a274"), looks := false }, kinds := [], alts := [], laidByText := true, laidKinds := [.data, .pinned], laidTests := true, laidLooks := .later }
def FnDiceFairCardSaid : Prop := Claim7.holds Tryd.pinned (.plain (OpenSpec.ofChange fnDiceFairSpec)) fnDiceFairCard

/-- THE SECOND FORM's CARD OF 'laws.FnDiceFair'. -/
def fnDiceFairUptoCard : Claim7 := { stood := { row := fnDiceFairUptoRow, standIns := [], harness := (true, "8191d94337fc0785e43a2b65437e5a45d1263f670674e0bc13dcc9cefca7a274"), looks := false }, kinds := [], alts := [], laidByText := true, laidKinds := [.data, .pinned], laidTests := true, laidLooks := .later }
def FnDiceFairUptoCardSaid : Prop := Claim7.holds Tryd.pinned (.plain (OpenSpec.upto fnDiceFairSpec)) fnDiceFairUptoCard
end Rows
end Go.Proofs.YtjecbjnckbihoaaDoor
