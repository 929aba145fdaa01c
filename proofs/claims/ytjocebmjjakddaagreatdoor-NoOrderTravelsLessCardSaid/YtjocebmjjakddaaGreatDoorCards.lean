/-
  DERIVED. GIVEN WITH THE SEED: THE CARDS: each row of YtjocebmjjakddaaGreatDoorRows.lean that lists a variable, with what it lists TIED to the program's text (the seventh form; the later family's looks); each row that meets fmt, with fmt's text TOLD by the authors' own Lean function (tested against real Go, not proved from fmt's source: count such statements apart). THE CARD IS WHAT COUNTS. Prove the row's statement (the work); the ties are given (YtjocebmjjakddaaGreatDoorTie.lean); close each card by the builder's one call (the guide's Derived/Test/ToyasCard.lean, 'card_holds'). Laid BY PROGRAM, IN A SANDBOX (cutbox-door.mjs). By AI agents, Wed Nov 11 2026. No macro, syntax, notation, axiom, sorry.
-/
import Derived.Test.YtjocebmjjakddaaGreatDoorRows
import GoSem.ClaimSeven
namespace Go.Proofs.YtjocebmjjakddaaGreatDoor
namespace Rows

/-- THE TIED CARD OF 'blkeep1.NoOrderTravelsLess'. -/
def noOrderTravelsLessCard : Claim7 := { stood := { row := noOrderTravelsLessRow, standIns := [], harness := (true, "76c431552fe2ba977914b8ea52219b771ccdd2a5dd514ccb7b6937cbea4c8e14"), looks := false }, kinds := [], alts := [], laidByText := true, laidKinds := [.data, .pinned], laidTests := true, laidLooks := .later }
def NoOrderTravelsLessCardSaid : Prop := Claim7.holds Tryz.pinned (.plain (OpenSpec.ofChange noOrderTravelsLessSpec)) noOrderTravelsLessCard

/-- THE SECOND FORM's CARD OF 'blkeep1.NoOrderTravelsLess'. -/
def noOrderTravelsLessUptoCard : Claim7 := { stood := { row := noOrderTravelsLessUptoRow, standIns := [], harness := (true, "76c431552fe2ba977914b8ea52219b771ccdd2a5dd514ccb7b6937cbea4c8e14"), looks := false }, kinds := [], alts := [], laidByText := true, laidKinds := [.data, .pinned], laidTests := true, laidLooks := .later }
def NoOrderTravelsLessUptoCardSaid : Prop := Claim7.holds Tryz.pinned (.plain (OpenSpec.upto noOrderTravelsLessSpec)) noOrderTravelsLessUptoCard
end Rows
end Go.Proofs.YtjocebmjjakddaaGreatDoor
