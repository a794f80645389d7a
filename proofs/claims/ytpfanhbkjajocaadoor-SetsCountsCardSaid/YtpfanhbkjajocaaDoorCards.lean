/-
  DERIVED. GIVEN WITH THE SEED: THE CARDS: each row of YtpfanhbkjajocaaDoorRows.lean that lists a variable, with what it lists TIED to the program's text (the seventh form; the later family's looks); each row that meets fmt, with fmt's text TOLD by the authors' own Lean function (tested against real Go, not proved from fmt's source: count such statements apart). THE CARD IS WHAT COUNTS. Prove the row's statement (the work); the ties are given (YtpfanhbkjajocaaDoorTie.lean); close each card by the builder's one call (the guide's Derived/Test/ToyasCard.lean, 'card_holds'). Laid BY PROGRAM, IN A SANDBOX (cutbox-door.mjs). By AI agents, Wed Nov 11 2026. No macro, syntax, notation, axiom, sorry.
-/
import Derived.Test.YtpfanhbkjajocaaDoorRows
import GoSem.ClaimSeven
namespace Go.Proofs.YtpfanhbkjajocaaDoor
namespace Rows

/-- THE TIED CARD OF 'weirlaw01.SetsOnes'. -/
def setsOnesCard : Claim7 := { stood := { row := setsOnesRow, standIns := [], harness := (true, "f6cafb39c9c21fb54c7b469d6923b2e63f0eba8e1fe3a0578e5407062b95ec8c"), looks := false }, kinds := [], alts := [], laidByText := true, laidKinds := [.data], laidTests := true, laidLooks := .later }
def SetsOnesCardSaid : Prop := Claim7.holds Tryd.pinned (.plain (OpenSpec.ofChange setsOnesSpec)) setsOnesCard

/-- THE TIED CARD OF 'weirlaw01.SetsWalks'. -/
def setsWalksCard : Claim7 := { stood := { row := setsWalksRow, standIns := [], harness := (true, "f6cafb39c9c21fb54c7b469d6923b2e63f0eba8e1fe3a0578e5407062b95ec8c"), looks := false }, kinds := [], alts := [], laidByText := true, laidKinds := [.data], laidTests := true, laidLooks := .later }
def SetsWalksCardSaid : Prop := Claim7.holds Tryd.pinned (.plain (OpenSpec.ofChange setsWalksSpec)) setsWalksCard

/-- THE TIED CARD OF 'weirlaw01.SetsLeast'. -/
def setsLeastCard : Claim7 := { stood := { row := setsLeastRow, standIns := [], harness := (true, "f6cafb39c9c21fb54c7b469d6923b2e63f0eba8e1fe3a0578e5407062b95ec8c"), looks := false }, kinds := [], alts := [], laidByText := true, laidKinds := [.data], laidTests := true, laidLooks := .later }
def SetsLeastCardSaid : Prop := Claim7.holds Tryd.pinned (.plain (OpenSpec.ofChange setsLeastSpec)) setsLeastCard

/-- THE TIED CARD OF 'weirlaw04.WordTexts'. -/
def wordTextsCard : Claim7 := { stood := { row := wordTextsRow, standIns := [], harness := (true, "f6cafb39c9c21fb54c7b469d6923b2e63f0eba8e1fe3a0578e5407062b95ec8c"), looks := false }, kinds := [], alts := [], laidByText := true, laidKinds := [.data, .data, .data], laidTests := true, laidLooks := .later }
def WordTextsCardSaid : Prop := Claim7.holds Tryd.pinned (.plain (OpenSpec.ofChange wordTextsSpec)) wordTextsCard

/-- THE TIED CARD OF 'weirlaw01.SetsLists'. -/
def setsListsCard : Claim7 := { stood := { row := setsListsRow, standIns := [], harness := (true, "f6cafb39c9c21fb54c7b469d6923b2e63f0eba8e1fe3a0578e5407062b95ec8c"), looks := false }, kinds := [], alts := [], laidByText := true, laidKinds := [.data, .data, .data], laidTests := true, laidLooks := .later }
def SetsListsCardSaid : Prop := Claim7.holds Tryd.pinned (.plain (OpenSpec.ofChange setsListsSpec)) setsListsCard

/-- THE TIED CARD OF 'weirlaw04.WordBack'. -/
def wordBackCard : Claim7 := { stood := { row := wordBackRow, standIns := [], harness := (true, "f6cafb39c9c21fb54c7b469d6923b2e63f0eba8e1fe3a0578e5407062b95ec8c"), looks := false }, kinds := [], alts := [], laidByText := true, laidKinds := [.data, .data, .data], laidTests := true, laidLooks := .later }
def WordBackCardSaid : Prop := Claim7.holds Tryd.pinned (.plain (OpenSpec.ofChange wordBackSpec)) wordBackCard

/-- THE TIED CARD OF 'weirlaw04.WordLongest'. -/
def wordLongestCard : Claim7 := { stood := { row := wordLongestRow, standIns := [], harness := (true, "f6cafb39c9c21fb54c7b469d6923b2e63f0eba8e1fe3a0578e5407062b95ec8c"), looks := false }, kinds := [], alts := [], laidByText := true, laidKinds := [.data, .data, .data], laidTests := true, laidLooks := .later }
def WordLongestCardSaid : Prop := Claim7.holds Tryd.pinned (.plain (OpenSpec.ofChange wordLongestSpec)) wordLongestCard

/-- THE TIED CARD OF 'weirlaw04.WordCodes'. -/
def wordCodesCard : Claim7 := { stood := { row := wordCodesRow, standIns := [], harness := (true, "f6cafb39c9c21fb54c7b469d6923b2e63f0eba8e1fe3a0578e5407062b95ec8c"), looks := false }, kinds := [], alts := [], laidByText := true, laidKinds := [.data, .data, .data], laidTests := true, laidLooks := .later }
def WordCodesCardSaid : Prop := Claim7.holds Tryd.pinned (.plain (OpenSpec.ofChange wordCodesSpec)) wordCodesCard

/-- THE TIED CARD OF 'weirlaw01.SetsBack'. -/
def setsBackCard : Claim7 := { stood := { row := setsBackRow, standIns := [], harness := (true, "f6cafb39c9c21fb54c7b469d6923b2e63f0eba8e1fe3a0578e5407062b95ec8c"), looks := false }, kinds := [], alts := [], laidByText := true, laidKinds := [.data, .data, .data], laidTests := true, laidLooks := .later }
def SetsBackCardSaid : Prop := Claim7.holds Tryd.pinned (.plain (OpenSpec.ofChange setsBackSpec)) setsBackCard

/-- THE TIED CARD OF 'weirlaw01.SetsCounts'. -/
def setsCountsCard : Claim7 := { stood := { row := setsCountsRow, standIns := [], harness := (true, "f6cafb39c9c21fb54c7b469d6923b2e63f0eba8e1fe3a0578e5407062b95ec8c"), looks := false }, kinds := [], alts := [], laidByText := true, laidKinds := [.data, .data, .data], laidTests := true, laidLooks := .later }
def SetsCountsCardSaid : Prop := Claim7.holds Tryd.pinned (.plain (OpenSpec.ofChange setsCountsSpec)) setsCountsCard

/-- THE SECOND FORM's CARD OF 'weirlaw01.SetsOnes'. -/
def setsOnesUptoCard : Claim7 := { stood := { row := setsOnesUptoRow, standIns := [], harness := (true, "f6cafb39c9c21fb54c7b469d6923b2e63f0eba8e1fe3a0578e5407062b95ec8c"), looks := false }, kinds := [], alts := [], laidByText := true, laidKinds := [.data], laidTests := true, laidLooks := .later }
def SetsOnesUptoCardSaid : Prop := Claim7.holds Tryd.pinned (.plain (OpenSpec.upto setsOnesSpec)) setsOnesUptoCard

/-- THE SECOND FORM's CARD OF 'weirlaw01.SetsWalks'. -/
def setsWalksUptoCard : Claim7 := { stood := { row := setsWalksUptoRow, standIns := [], harness := (true, "f6cafb39c9c21fb54c7b469d6923b2e63f0eba8e1fe3a0578e5407062b95ec8c"), looks := false }, kinds := [], alts := [], laidByText := true, laidKinds := [.data], laidTests := true, laidLooks := .later }
def SetsWalksUptoCardSaid : Prop := Claim7.holds Tryd.pinned (.plain (OpenSpec.upto setsWalksSpec)) setsWalksUptoCard

/-- THE SECOND FORM's CARD OF 'weirlaw01.SetsLeast'. -/
def setsLeastUptoCard : Claim7 := { stood := { row := setsLeastUptoRow, standIns := [], harness := (true, "f6cafb39c9c21fb54c7b469d6923b2e63f0eba8e1fe3a0578e5407062b95ec8c"), looks := false }, kinds := [], alts := [], laidByText := true, laidKinds := [.data], laidTests := true, laidLooks := .later }
def SetsLeastUptoCardSaid : Prop := Claim7.holds Tryd.pinned (.plain (OpenSpec.upto setsLeastSpec)) setsLeastUptoCard

/-- THE SECOND FORM's CARD OF 'weirlaw04.WordTexts'. -/
def wordTextsUptoCard : Claim7 := { stood := { row := wordTextsUptoRow, standIns := [], harness := (true, "f6cafb39c9c21fb54c7b469d6923b2e63f0eba8e1fe3a0578e5407062b95ec8c"), looks := false }, kinds := [], alts := [], laidByText := true, laidKinds := [.data, .data, .data], laidTests := true, laidLooks := .later }
def WordTextsUptoCardSaid : Prop := Claim7.holds Tryd.pinned (.plain (OpenSpec.upto wordTextsSpec)) wordTextsUptoCard

/-- THE SECOND FORM's CARD OF 'weirlaw01.SetsLists'. -/
def setsListsUptoCard : Claim7 := { stood := { row := setsListsUptoRow, standIns := [], harness := (true, "f6cafb39c9c21fb54c7b469d6923b2e63f0eba8e1fe3a0578e5407062b95ec8c"), looks := false }, kinds := [], alts := [], laidByText := true, laidKinds := [.data, .data, .data], laidTests := true, laidLooks := .later }
def SetsListsUptoCardSaid : Prop := Claim7.holds Tryd.pinned (.plain (OpenSpec.upto setsListsSpec)) setsListsUptoCard

/-- THE SECOND FORM's CARD OF 'weirlaw04.WordBack'. -/
def wordBackUptoCard : Claim7 := { stood := { row := wordBackUptoRow, standIns := [], harness := (true, "f6cafb39c9c21fb54c7b469d6923b2e63f0eba8e1fe3a0578e5407062b95ec8c"), looks := false }, kinds := [], alts := [], laidByText := true, laidKinds := [.data, .data, .data], laidTests := true, laidLooks := .later }
def WordBackUptoCardSaid : Prop := Claim7.holds Tryd.pinned (.plain (OpenSpec.upto wordBackSpec)) wordBackUptoCard

/-- THE SECOND FORM's CARD OF 'weirlaw04.WordLongest'. -/
def wordLongestUptoCard : Claim7 := { stood := { row := wordLongestUptoRow, standIns := [], harness := (true, "f6cafb39c9c21fb54c7b469d6923b2e63f0eba8e1fe3a0578e5407062b95ec8c"), looks := false }, kinds := [], alts := [], laidByText := true, laidKinds := [.data, .data, .data], laidTests := true, laidLooks := .later }
def WordLongestUptoCardSaid : Prop := Claim7.holds Tryd.pinned (.plain (OpenSpec.upto wordLongestSpec)) wordLongestUptoCard

/-- THE SECOND FORM's CARD OF 'weirlaw04.WordCodes'. -/
def wordCodesUptoCard : Claim7 := { stood := { row := wordCodesUptoRow, standIns := [], harness := (true, "f6cafb39c9c21fb54c7b469d6923b2e63f0eba8e1fe3a0578e5407062b95ec8c"), looks := false }, kinds := [], alts := [], laidByText := true, laidKinds := [.data, .data, .data], laidTests := true, laidLooks := .later }
def WordCodesUptoCardSaid : Prop := Claim7.holds Tryd.pinned (.plain (OpenSpec.upto wordCodesSpec)) wordCodesUptoCard

/-- THE SECOND FORM's CARD OF 'weirlaw01.SetsBack'. -/
def setsBackUptoCard : Claim7 := { stood := { row := setsBackUptoRow, standIns := [], harness := (true, "f6cafb39c9c21fb54c7b469d6923b2e63f0eba8e1fe3a0578e5407062b95ec8c"), looks := false }, kinds := [], alts := [], laidByText := true, laidKinds := [.data, .data, .data], laidTests := true, laidLooks := .later }
def SetsBackUptoCardSaid : Prop := Claim7.holds Tryd.pinned (.plain (OpenSpec.upto setsBackSpec)) setsBackUptoCard

/-- THE SECOND FORM's CARD OF 'weirlaw01.SetsCounts'. -/
def setsCountsUptoCard : Claim7 := { stood := { row := setsCountsUptoRow, standIns := [], harness := (true, "f6cafb39c9c21fb54c7b469d6923b2e63f0eba8e1fe3a0578e5407062b95ec8c"), looks := false }, kinds := [], alts := [], laidByText := true, laidKinds := [.data, .data, .data], laidTests := true, laidLooks := .later }
def SetsCountsUptoCardSaid : Prop := Claim7.holds Tryd.pinned (.plain (OpenSpec.upto setsCountsSpec)) setsCountsUptoCard
end Rows
end Go.Proofs.YtpfanhbkjajocaaDoor
