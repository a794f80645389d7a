/-
  DERIVED. GIVEN WITH THE SEED: THE CARDS: each row of YtocpkgckllbjlaaDoorRows.lean that lists a variable, with what it lists TIED to the program's text (the seventh form; the later family's looks); each row that meets fmt, with fmt's text TOLD by the authors' own Lean function (tested against real Go, not proved from fmt's source: count such statements apart). THE CARD IS WHAT COUNTS. Prove the row's statement (the work); the ties are given (YtocpkgckllbjlaaDoorTie.lean); close each card by the builder's one call (the guide's Derived/Test/ToyasCard.lean, 'card_holds'). Laid BY PROGRAM, IN A SANDBOX (cutbox-door.mjs). By AI agents, Wed Nov 11 2026. No macro, syntax, notation, axiom, sorry.
-/
import Derived.Test.YtocpkgckllbjlaaDoorRows
import GoSem.ClaimSeven
namespace Go.Proofs.YtocpkgckllbjlaaDoor
namespace Rows

/-- THE TIED CARD OF 'weirlaw02.RelWalks'. -/
def relWalksCard : Claim7 := { stood := { row := relWalksRow, standIns := [], harness := (true, "51fe1eb8cc6a1f55f5dbf1175a34050771a49f8ac50b3a3ae6d1454fe40a94b0"), looks := false }, kinds := [], alts := [], laidByText := true, laidKinds := [.data], laidTests := true, laidLooks := .later }
def RelWalksCardSaid : Prop := Claim7.holds Tryd.pinned (.plain (OpenSpec.ofChange relWalksSpec)) relWalksCard

/-- THE TIED CARD OF 'weirlaw02.RelOperates'. -/
def relOperatesCard : Claim7 := { stood := { row := relOperatesRow, standIns := [], harness := (true, "51fe1eb8cc6a1f55f5dbf1175a34050771a49f8ac50b3a3ae6d1454fe40a94b0"), looks := false }, kinds := [], alts := [], laidByText := true, laidKinds := [.data], laidTests := true, laidLooks := .later }
def RelOperatesCardSaid : Prop := Claim7.holds Tryd.pinned (.plain (OpenSpec.ofChange relOperatesSpec)) relOperatesCard

/-- THE TIED CARD OF 'weirlaw02.RelCloses'. -/
def relClosesCard : Claim7 := { stood := { row := relClosesRow, standIns := [], harness := (true, "51fe1eb8cc6a1f55f5dbf1175a34050771a49f8ac50b3a3ae6d1454fe40a94b0"), looks := false }, kinds := [], alts := [], laidByText := true, laidKinds := [.data], laidTests := true, laidLooks := .later }
def RelClosesCardSaid : Prop := Claim7.holds Tryd.pinned (.plain (OpenSpec.ofChange relClosesSpec)) relClosesCard

/-- THE TIED CARD OF 'weirlaw02.RelOrders'. -/
def relOrdersCard : Claim7 := { stood := { row := relOrdersRow, standIns := [], harness := (true, "51fe1eb8cc6a1f55f5dbf1175a34050771a49f8ac50b3a3ae6d1454fe40a94b0"), looks := false }, kinds := [], alts := [], laidByText := true, laidKinds := [.data], laidTests := true, laidLooks := .later }
def RelOrdersCardSaid : Prop := Claim7.holds Tryd.pinned (.plain (OpenSpec.ofChange relOrdersSpec)) relOrdersCard

/-- THE TIED CARD OF 'weirlaw02.RelCycles'. -/
def relCyclesCard : Claim7 := { stood := { row := relCyclesRow, standIns := [], harness := (true, "51fe1eb8cc6a1f55f5dbf1175a34050771a49f8ac50b3a3ae6d1454fe40a94b0"), looks := false }, kinds := [], alts := [], laidByText := true, laidKinds := [.data], laidTests := true, laidLooks := .later }
def RelCyclesCardSaid : Prop := Claim7.holds Tryd.pinned (.plain (OpenSpec.ofChange relCyclesSpec)) relCyclesCard

/-- THE TIED CARD OF 'weirlaw02.RelLeast'. -/
def relLeastCard : Claim7 := { stood := { row := relLeastRow, standIns := [], harness := (true, "51fe1eb8cc6a1f55f5dbf1175a34050771a49f8ac50b3a3ae6d1454fe40a94b0"), looks := false }, kinds := [], alts := [], laidByText := true, laidKinds := [.data], laidTests := true, laidLooks := .later }
def RelLeastCardSaid : Prop := Claim7.holds Tryd.pinned (.plain (OpenSpec.ofChange relLeastSpec)) relLeastCard

/-- THE TIED CARD OF 'weirlaw02.RelReduces'. -/
def relReducesCard : Claim7 := { stood := { row := relReducesRow, standIns := [], harness := (true, "51fe1eb8cc6a1f55f5dbf1175a34050771a49f8ac50b3a3ae6d1454fe40a94b0"), looks := false }, kinds := [], alts := [], laidByText := true, laidKinds := [.data], laidTests := true, laidLooks := .later }
def RelReducesCardSaid : Prop := Claim7.holds Tryd.pinned (.plain (OpenSpec.ofChange relReducesSpec)) relReducesCard

/-- THE TIED CARD OF 'weirlaw02.RelExtends'. -/
def relExtendsCard : Claim7 := { stood := { row := relExtendsRow, standIns := [], harness := (true, "51fe1eb8cc6a1f55f5dbf1175a34050771a49f8ac50b3a3ae6d1454fe40a94b0"), looks := false }, kinds := [], alts := [], laidByText := true, laidKinds := [.data], laidTests := true, laidLooks := .later }
def RelExtendsCardSaid : Prop := Claim7.holds Tryd.pinned (.plain (OpenSpec.ofChange relExtendsSpec)) relExtendsCard

/-- THE TIED CARD OF 'weirlaw02.RelLaws'. -/
def relLawsCard : Claim7 := { stood := { row := relLawsRow, standIns := [], harness := (true, "51fe1eb8cc6a1f55f5dbf1175a34050771a49f8ac50b3a3ae6d1454fe40a94b0"), looks := false }, kinds := [], alts := [], laidByText := true, laidKinds := [.data], laidTests := true, laidLooks := .later }
def RelLawsCardSaid : Prop := Claim7.holds Tryd.pinned (.plain (OpenSpec.ofChange relLawsSpec)) relLawsCard

/-- THE TIED CARD OF 'weirlaw02.RelRound'. -/
def relRoundCard : Claim7 := { stood := { row := relRoundRow, standIns := [], harness := (true, "51fe1eb8cc6a1f55f5dbf1175a34050771a49f8ac50b3a3ae6d1454fe40a94b0"), looks := false }, kinds := [], alts := [], laidByText := true, laidKinds := [.data], laidTests := true, laidLooks := .later }
def RelRoundCardSaid : Prop := Claim7.holds Tryd.pinned (.plain (OpenSpec.ofChange relRoundSpec)) relRoundCard

/-- THE SECOND FORM's CARD OF 'weirlaw02.RelWalks'. -/
def relWalksUptoCard : Claim7 := { stood := { row := relWalksUptoRow, standIns := [], harness := (true, "51fe1eb8cc6a1f55f5dbf1175a34050771a49f8ac50b3a3ae6d1454fe40a94b0"), looks := false }, kinds := [], alts := [], laidByText := true, laidKinds := [.data], laidTests := true, laidLooks := .later }
def RelWalksUptoCardSaid : Prop := Claim7.holds Tryd.pinned (.plain (OpenSpec.upto relWalksSpec)) relWalksUptoCard

/-- THE SECOND FORM's CARD OF 'weirlaw02.RelOperates'. -/
def relOperatesUptoCard : Claim7 := { stood := { row := relOperatesUptoRow, standIns := [], harness := (true, "51fe1eb8cc6a1f55f5dbf1175a34050771a49f8ac50b3a3ae6d1454fe40a94b0"), looks := false }, kinds := [], alts := [], laidByText := true, laidKinds := [.data], laidTests := true, laidLooks := .later }
def RelOperatesUptoCardSaid : Prop := Claim7.holds Tryd.pinned (.plain (OpenSpec.upto relOperatesSpec)) relOperatesUptoCard

/-- THE SECOND FORM's CARD OF 'weirlaw02.RelCloses'. -/
def relClosesUptoCard : Claim7 := { stood := { row := relClosesUptoRow, standIns := [], harness := (true, "51fe1eb8cc6a1f55f5dbf1175a34050771a49f8ac50b3a3ae6d1454fe40a94b0"), looks := false }, kinds := [], alts := [], laidByText := true, laidKinds := [.data], laidTests := true, laidLooks := .later }
def RelClosesUptoCardSaid : Prop := Claim7.holds Tryd.pinned (.plain (OpenSpec.upto relClosesSpec)) relClosesUptoCard

/-- THE SECOND FORM's CARD OF 'weirlaw02.RelOrders'. -/
def relOrdersUptoCard : Claim7 := { stood := { row := relOrdersUptoRow, standIns := [], harness := (true, "51fe1eb8cc6a1f55f5dbf1175a34050771a49f8ac50b3a3ae6d1454fe40a94b0"), looks := false }, kinds := [], alts := [], laidByText := true, laidKinds := [.data], laidTests := true, laidLooks := .later }
def RelOrdersUptoCardSaid : Prop := Claim7.holds Tryd.pinned (.plain (OpenSpec.upto relOrdersSpec)) relOrdersUptoCard

/-- THE SECOND FORM's CARD OF 'weirlaw02.RelCycles'. -/
def relCyclesUptoCard : Claim7 := { stood := { row := relCyclesUptoRow, standIns := [], harness := (true, "51fe1eb8cc6a1f55f5dbf1175a34050771a49f8ac50b3a3ae6d1454fe40a94b0"), looks := false }, kinds := [], alts := [], laidByText := true, laidKinds := [.data], laidTests := true, laidLooks := .later }
def RelCyclesUptoCardSaid : Prop := Claim7.holds Tryd.pinned (.plain (OpenSpec.upto relCyclesSpec)) relCyclesUptoCard

/-- THE SECOND FORM's CARD OF 'weirlaw02.RelLeast'. -/
def relLeastUptoCard : Claim7 := { stood := { row := relLeastUptoRow, standIns := [], harness := (true, "51fe1eb8cc6a1f55f5dbf1175a34050771a49f8ac50b3a3ae6d1454fe40a94b0"), looks := false }, kinds := [], alts := [], laidByText := true, laidKinds := [.data], laidTests := true, laidLooks := .later }
def RelLeastUptoCardSaid : Prop := Claim7.holds Tryd.pinned (.plain (OpenSpec.upto relLeastSpec)) relLeastUptoCard

/-- THE SECOND FORM's CARD OF 'weirlaw02.RelReduces'. -/
def relReducesUptoCard : Claim7 := { stood := { row := relReducesUptoRow, standIns := [], harness := (true, "51fe1eb8cc6a1f55f5dbf1175a34050771a49f8ac50b3a3ae6d1454fe40a94b0"), looks := false }, kinds := [], alts := [], laidByText := true, laidKinds := [.data], laidTests := true, laidLooks := .later }
def RelReducesUptoCardSaid : Prop := Claim7.holds Tryd.pinned (.plain (OpenSpec.upto relReducesSpec)) relReducesUptoCard

/-- THE SECOND FORM's CARD OF 'weirlaw02.RelExtends'. -/
def relExtendsUptoCard : Claim7 := { stood := { row := relExtendsUptoRow, standIns := [], harness := (true, "51fe1eb8cc6a1f55f5dbf1175a34050771a49f8ac50b3a3ae6d1454fe40a94b0"), looks := false }, kinds := [], alts := [], laidByText := true, laidKinds := [.data], laidTests := true, laidLooks := .later }
def RelExtendsUptoCardSaid : Prop := Claim7.holds Tryd.pinned (.plain (OpenSpec.upto relExtendsSpec)) relExtendsUptoCard

/-- THE SECOND FORM's CARD OF 'weirlaw02.RelLaws'. -/
def relLawsUptoCard : Claim7 := { stood := { row := relLawsUptoRow, standIns := [], harness := (true, "51fe1eb8cc6a1f55f5dbf1175a34050771a49f8ac50b3a3ae6d1454fe40a94b0"), looks := false }, kinds := [], alts := [], laidByText := true, laidKinds := [.data], laidTests := true, laidLooks := .later }
def RelLawsUptoCardSaid : Prop := Claim7.holds Tryd.pinned (.plain (OpenSpec.upto relLawsSpec)) relLawsUptoCard

/-- THE SECOND FORM's CARD OF 'weirlaw02.RelRound'. -/
def relRoundUptoCard : Claim7 := { stood := { row := relRoundUptoRow, standIns := [], harness := (true, "51fe1eb8cc6a1f55f5dbf1175a34050771a49f8ac50b3a3ae6d1454fe40a94b0"), looks := false }, kinds := [], alts := [], laidByText := true, laidKinds := [.data], laidTests := true, laidLooks := .later }
def RelRoundUptoCardSaid : Prop := Claim7.holds Tryd.pinned (.plain (OpenSpec.upto relRoundSpec)) relRoundUptoCard
end Rows
end Go.Proofs.YtocpkgckllbjlaaDoor
