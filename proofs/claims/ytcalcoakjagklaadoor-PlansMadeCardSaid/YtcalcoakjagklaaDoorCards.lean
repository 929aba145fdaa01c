/-
  DERIVED. GIVEN WITH THE SEED: THE CARDS: each row of YtcalcoakjagklaaDoorRows.lean that lists a variable, with what it lists TIED to the program's text (the seventh form; the later family's looks); each row that meets fmt, with fmt's text TOLD by the authors' own Lean function (tested against real Go, not proved from fmt's source: count such statements apart). THE CARD IS WHAT COUNTS. Prove the row's statement (the work); the ties are given (YtcalcoakjagklaaDoorTie.lean); close each card by the builder's one call (the guide's Derived/Test/ToyasCard.lean, 'card_holds'). Laid BY PROGRAM, IN A SANDBOX (cutbox-door.mjs). By AI agents, Wed Nov 11 2026. No macro, syntax, notation, axiom, sorry.
-/
import Derived.Test.YtcalcoakjagklaaDoorRows
import GoSem.ClaimSeven
namespace Go.Proofs.YtcalcoakjagklaaDoor
namespace Rows

/-- THE TIED CARD OF 'bllaw1.PlansMade'. -/
def plansMadeCard : Claim7 := { stood := { row := plansMadeRow, standIns := [], harness := (true, "9dc19bdbe8d9a979db601f59da9a6d78b3c718bc8d4769503450c159b3ef6722"), looks := false }, kinds := [], alts := [], laidByText := true, laidKinds := [.data, .pinned], laidTests := true, laidLooks := .later }
def PlansMadeCardSaid : Prop := Claim7.holds Tryd.pinned (.plain (OpenSpec.ofChange plansMadeSpec)) plansMadeCard

/-- THE SECOND FORM's CARD OF 'bllaw1.PlansMade'. -/
def plansMadeUptoCard : Claim7 := { stood := { row := plansMadeUptoRow, standIns := [], harness := (true, "9dc19bdbe8d9a979db601f59da9a6d78b3c718bc8d4769503450c159b3ef6722"), looks := false }, kinds := [], alts := [], laidByText := true, laidKinds := [.data, .pinned], laidTests := true, laidLooks := .later }
def PlansMadeUptoCardSaid : Prop := Claim7.holds Tryd.pinned (.plain (OpenSpec.upto plansMadeSpec)) plansMadeUptoCard
end Rows
end Go.Proofs.YtcalcoakjagklaaDoor
