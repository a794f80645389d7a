/-
  DERIVED. GIVEN WITH THE SEED: THE CARDS: each row of YtmammebifhmnhaaDoorRows.lean that lists a variable, with what it lists TIED to the program's text (the seventh form; the later family's looks); each row that meets fmt, with fmt's text TOLD by the authors' own Lean function (tested against real Go, not proved from fmt's source: count such statements apart). THE CARD IS WHAT COUNTS. Prove the row's statement (the work); the ties are given (YtmammebifhmnhaaDoorTie.lean); close each card by the builder's one call (the guide's Derived/Test/ToyasCard.lean, 'card_holds'). Laid BY PROGRAM, IN A SANDBOX (cutbox-door.mjs). By AI agents, Wed Nov 11 2026. No macro, syntax, notation, axiom, sorry.
-/
import Derived.Test.YtmammebifhmnhaaDoorRows
import GoSem.ClaimSeven
namespace Go.Proofs.YtmammebifhmnhaaDoor
namespace Rows

/-- THE TIED CARD OF 'weirlaw19.AxiomRelations'. -/
def axiomRelationsCard : Claim7 := { stood := { row := axiomRelationsRow, standIns := [], harness := (true, "2349751f33767ee67bc1f07ca089124269e204e5fd820a755bfb7da11858bd59"), looks := false }, kinds := [], alts := [], laidByText := true, laidKinds := [.data], laidTests := true, laidLooks := .later }
def AxiomRelationsCardSaid : Prop := Claim7.holds Tryd.pinned (.plain (OpenSpec.ofChange axiomRelationsSpec)) axiomRelationsCard

/-- THE TIED CARD OF 'weirlaw21.ModelBases'. -/
def modelBasesCard : Claim7 := { stood := { row := modelBasesRow, standIns := [], harness := (true, "2349751f33767ee67bc1f07ca089124269e204e5fd820a755bfb7da11858bd59"), looks := false }, kinds := [], alts := [], laidByText := true, laidKinds := [.data], laidTests := true, laidLooks := .later }
def ModelBasesCardSaid : Prop := Claim7.holds Tryd.pinned (.plain (OpenSpec.ofChange modelBasesSpec)) modelBasesCard

/-- THE TIED CARD OF 'weirlaw19.AxiomWeaker'. -/
def axiomWeakerCard : Claim7 := { stood := { row := axiomWeakerRow, standIns := [], harness := (true, "2349751f33767ee67bc1f07ca089124269e204e5fd820a755bfb7da11858bd59"), looks := false }, kinds := [], alts := [], laidByText := true, laidKinds := [.data], laidTests := true, laidLooks := .later }
def AxiomWeakerCardSaid : Prop := Claim7.holds Tryd.pinned (.plain (OpenSpec.ofChange axiomWeakerSpec)) axiomWeakerCard

/-- THE TIED CARD OF 'weirlaw19.AxiomShown'. -/
def axiomShownCard : Claim7 := { stood := { row := axiomShownRow, standIns := [], harness := (true, "2349751f33767ee67bc1f07ca089124269e204e5fd820a755bfb7da11858bd59"), looks := false }, kinds := [], alts := [], laidByText := true, laidKinds := [.data], laidTests := true, laidLooks := .later }
def AxiomShownCardSaid : Prop := Claim7.holds Tryd.pinned (.plain (OpenSpec.ofChange axiomShownSpec)) axiomShownCard

/-- THE SECOND FORM's CARD OF 'weirlaw19.AxiomRelations'. -/
def axiomRelationsUptoCard : Claim7 := { stood := { row := axiomRelationsUptoRow, standIns := [], harness := (true, "2349751f33767ee67bc1f07ca089124269e204e5fd820a755bfb7da11858bd59"), looks := false }, kinds := [], alts := [], laidByText := true, laidKinds := [.data], laidTests := true, laidLooks := .later }
def AxiomRelationsUptoCardSaid : Prop := Claim7.holds Tryd.pinned (.plain (OpenSpec.upto axiomRelationsSpec)) axiomRelationsUptoCard

/-- THE SECOND FORM's CARD OF 'weirlaw21.ModelBases'. -/
def modelBasesUptoCard : Claim7 := { stood := { row := modelBasesUptoRow, standIns := [], harness := (true, "2349751f33767ee67bc1f07ca089124269e204e5fd820a755bfb7da11858bd59"), looks := false }, kinds := [], alts := [], laidByText := true, laidKinds := [.data], laidTests := true, laidLooks := .later }
def ModelBasesUptoCardSaid : Prop := Claim7.holds Tryd.pinned (.plain (OpenSpec.upto modelBasesSpec)) modelBasesUptoCard

/-- THE SECOND FORM's CARD OF 'weirlaw19.AxiomWeaker'. -/
def axiomWeakerUptoCard : Claim7 := { stood := { row := axiomWeakerUptoRow, standIns := [], harness := (true, "2349751f33767ee67bc1f07ca089124269e204e5fd820a755bfb7da11858bd59"), looks := false }, kinds := [], alts := [], laidByText := true, laidKinds := [.data], laidTests := true, laidLooks := .later }
def AxiomWeakerUptoCardSaid : Prop := Claim7.holds Tryd.pinned (.plain (OpenSpec.upto axiomWeakerSpec)) axiomWeakerUptoCard

/-- THE SECOND FORM's CARD OF 'weirlaw19.AxiomShown'. -/
def axiomShownUptoCard : Claim7 := { stood := { row := axiomShownUptoRow, standIns := [], harness := (true, "2349751f33767ee67bc1f07ca089124269e204e5fd820a755bfb7da11858bd59"), looks := false }, kinds := [], alts := [], laidByText := true, laidKinds := [.data], laidTests := true, laidLooks := .later }
def AxiomShownUptoCardSaid : Prop := Claim7.holds Tryd.pinned (.plain (OpenSpec.upto axiomShownSpec)) axiomShownUptoCard
end Rows
end Go.Proofs.YtmammebifhmnhaaDoor
