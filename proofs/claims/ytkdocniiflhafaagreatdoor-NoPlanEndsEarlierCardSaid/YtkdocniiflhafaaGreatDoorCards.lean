/-
  DERIVED. GIVEN WITH THE SEED: THE CARDS: each row of YtkdocniiflhafaaGreatDoorRows.lean that lists a variable, with what it lists TIED to the program's text (the seventh form; the later family's looks); each row that meets fmt, with fmt's text TOLD by the authors' own Lean function (tested against real Go, not proved from fmt's source: count such statements apart). THE CARD IS WHAT COUNTS. Prove the row's statement (the work); the ties are given (YtkdocniiflhafaaGreatDoorTie.lean); close each card by the builder's one call (the guide's Derived/Test/ToyasCard.lean, 'card_holds'). Laid BY PROGRAM, IN A SANDBOX (cutbox-door.mjs). By AI agents, Wed Nov 11 2026. No macro, syntax, notation, axiom, sorry.
-/
import Derived.Test.YtkdocniiflhafaaGreatDoorRows
import GoSem.ClaimSeven
namespace Go.Proofs.YtkdocniiflhafaaGreatDoor
namespace Rows

/-- THE TIED CARD OF 'blkeep1.NoPlanEndsEarlier'. -/
def noPlanEndsEarlierCard : Claim7 := { stood := { row := noPlanEndsEarlierRow, standIns := [], harness := (true, "bab561ba91328eb083b8662245dfd7375a64dfc6f1304b041e9c5b7259786e5e"), looks := false }, kinds := [], alts := [], laidByText := true, laidKinds := [.data, .pinned], laidTests := true, laidLooks := .later }
def NoPlanEndsEarlierCardSaid : Prop := Claim7.holds Tryz.pinned (.plain (OpenSpec.ofChange noPlanEndsEarlierSpec)) noPlanEndsEarlierCard

/-- THE SECOND FORM's CARD OF 'blkeep1.NoPlanEndsEarlier'. -/
def noPlanEndsEarlierUptoCard : Claim7 := { stood := { row := noPlanEndsEarlierUptoRow, standIns := [], harness := (true, "bab561ba91328eb083b8662245dfd7375a64dfc6f1304b041e9c5b7259786e5e"), looks := false }, kinds := [], alts := [], laidByText := true, laidKinds := [.data, .pinned], laidTests := true, laidLooks := .later }
def NoPlanEndsEarlierUptoCardSaid : Prop := Claim7.holds Tryz.pinned (.plain (OpenSpec.upto noPlanEndsEarlierSpec)) noPlanEndsEarlierUptoCard
end Rows
end Go.Proofs.YtkdocniiflhafaaGreatDoor
