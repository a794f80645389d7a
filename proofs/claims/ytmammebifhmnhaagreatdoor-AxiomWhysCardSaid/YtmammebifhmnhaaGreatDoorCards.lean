/-
  DERIVED. GIVEN WITH THE SEED: THE CARDS: each row of YtmammebifhmnhaaGreatDoorRows.lean that lists a variable, with what it lists TIED to the program's text (the seventh form; the later family's looks); each row that meets fmt, with fmt's text TOLD by the authors' own Lean function (tested against real Go, not proved from fmt's source: count such statements apart). THE CARD IS WHAT COUNTS. Prove the row's statement (the work); the ties are given (YtmammebifhmnhaaGreatDoorTie.lean); close each card by the builder's one call (the guide's Derived/Test/ToyasCard.lean, 'card_holds'). Laid BY PROGRAM, IN A SANDBOX (cutbox-door.mjs). By AI agents, Wed Nov 11 2026. No macro, syntax, notation, axiom, sorry.
-/
import Derived.Test.YtmammebifhmnhaaGreatDoorRows
import GoSem.ClaimSeven
namespace Go.Proofs.YtmammebifhmnhaaGreatDoor
namespace Rows

/-- THE TIED CARD OF 'weirlaw19.AxiomWhys'. -/
def axiomWhysCard : Claim7 := { stood := { row := axiomWhysRow, standIns := [], harness := (true, "9b75300598bc449aff00da8d15dae4c82ab72c3705fd06c221779ad0820d6612"), looks := false }, kinds := [], alts := [], laidByText := true, laidKinds := [.data], laidTests := true, laidLooks := .later }
def AxiomWhysCardSaid : Prop := Claim7.holds Tryz.pinned (.plain (OpenSpec.ofChange axiomWhysSpec)) axiomWhysCard

/-- THE SECOND FORM's CARD OF 'weirlaw19.AxiomWhys'. -/
def axiomWhysUptoCard : Claim7 := { stood := { row := axiomWhysUptoRow, standIns := [], harness := (true, "9b75300598bc449aff00da8d15dae4c82ab72c3705fd06c221779ad0820d6612"), looks := false }, kinds := [], alts := [], laidByText := true, laidKinds := [.data], laidTests := true, laidLooks := .later }
def AxiomWhysUptoCardSaid : Prop := Claim7.holds Tryz.pinned (.plain (OpenSpec.upto axiomWhysSpec)) axiomWhysUptoCard
end Rows
end Go.Proofs.YtmammebifhmnhaaGreatDoor
