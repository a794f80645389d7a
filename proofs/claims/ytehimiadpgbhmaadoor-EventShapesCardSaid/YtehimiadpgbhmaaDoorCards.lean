/-
  DERIVED. GIVEN WITH THE SEED: THE CARDS: each row of YtehimiadpgbhmaaDoorRows.lean that lists a variable, with what it lists TIED to the program's text (the seventh form; the later family's looks); each row that meets fmt, with fmt's text TOLD by the authors' own Lean function (tested against real Go, not proved from fmt's source: count such statements apart). THE CARD IS WHAT COUNTS. Prove the row's statement (the work); the ties are given (YtehimiadpgbhmaaDoorTie.lean); close each card by the builder's one call (the guide's Derived/Test/ToyasCard.lean, 'card_holds'). Laid BY PROGRAM, IN A SANDBOX (cutbox-door.mjs). By AI agents, Wed Nov 11 2026. No macro, syntax, notation, axiom, sorry.
-/
import Derived.Test.YtehimiadpgbhmaaDoorRows
import GoSem.ClaimSeven
namespace Go.Proofs.YtehimiadpgbhmaaDoor
namespace Rows

/-- THE TIED CARD OF 'weirlaw17.EventReads'. -/
def eventReadsCard : Claim7 := { stood := { row := eventReadsRow, standIns := [], harness := (true, "9920eb7e33da2fa2d2ffee4fb85143a79abc2edac1638b8fe02646a9e042dcb9"), looks := false }, kinds := [], alts := [], laidByText := true, laidKinds := [.data], laidTests := true, laidLooks := .later }
def EventReadsCardSaid : Prop := Claim7.holds Tryd.pinned (.plain (OpenSpec.ofChange eventReadsSpec)) eventReadsCard

/-- THE TIED CARD OF 'weirlaw17.EventShapes'. -/
def eventShapesCard : Claim7 := { stood := { row := eventShapesRow, standIns := [], harness := (true, "9920eb7e33da2fa2d2ffee4fb85143a79abc2edac1638b8fe02646a9e042dcb9"), looks := false }, kinds := [], alts := [], laidByText := true, laidKinds := [.data, .data, .data], laidTests := true, laidLooks := .later }
def EventShapesCardSaid : Prop := Claim7.holds Tryd.pinned (.plain (OpenSpec.ofChange eventShapesSpec)) eventShapesCard

/-- THE TIED CARD OF 'weirlaw17.EventOrders'. -/
def eventOrdersCard : Claim7 := { stood := { row := eventOrdersRow, standIns := [], harness := (true, "9920eb7e33da2fa2d2ffee4fb85143a79abc2edac1638b8fe02646a9e042dcb9"), looks := false }, kinds := [], alts := [], laidByText := true, laidKinds := [.data, .data, .data], laidTests := true, laidLooks := .later }
def EventOrdersCardSaid : Prop := Claim7.holds Tryd.pinned (.plain (OpenSpec.ofChange eventOrdersSpec)) eventOrdersCard

/-- THE SECOND FORM's CARD OF 'weirlaw17.EventReads'. -/
def eventReadsUptoCard : Claim7 := { stood := { row := eventReadsUptoRow, standIns := [], harness := (true, "9920eb7e33da2fa2d2ffee4fb85143a79abc2edac1638b8fe02646a9e042dcb9"), looks := false }, kinds := [], alts := [], laidByText := true, laidKinds := [.data], laidTests := true, laidLooks := .later }
def EventReadsUptoCardSaid : Prop := Claim7.holds Tryd.pinned (.plain (OpenSpec.upto eventReadsSpec)) eventReadsUptoCard

/-- THE SECOND FORM's CARD OF 'weirlaw17.EventShapes'. -/
def eventShapesUptoCard : Claim7 := { stood := { row := eventShapesUptoRow, standIns := [], harness := (true, "9920eb7e33da2fa2d2ffee4fb85143a79abc2edac1638b8fe02646a9e042dcb9"), looks := false }, kinds := [], alts := [], laidByText := true, laidKinds := [.data, .data, .data], laidTests := true, laidLooks := .later }
def EventShapesUptoCardSaid : Prop := Claim7.holds Tryd.pinned (.plain (OpenSpec.upto eventShapesSpec)) eventShapesUptoCard

/-- THE SECOND FORM's CARD OF 'weirlaw17.EventOrders'. -/
def eventOrdersUptoCard : Claim7 := { stood := { row := eventOrdersUptoRow, standIns := [], harness := (true, "9920eb7e33da2fa2d2ffee4fb85143a79abc2edac1638b8fe02646a9e042dcb9"), looks := false }, kinds := [], alts := [], laidByText := true, laidKinds := [.data, .data, .data], laidTests := true, laidLooks := .later }
def EventOrdersUptoCardSaid : Prop := Claim7.holds Tryd.pinned (.plain (OpenSpec.upto eventOrdersSpec)) eventOrdersUptoCard
end Rows
end Go.Proofs.YtehimiadpgbhmaaDoor
