/-
  DERIVED. GIVEN WITH THE SEED: THE CARDS: each row of YtglndonfmmbnhaaDoorRows.lean that lists a variable, with what it lists TIED to the program's text (the seventh form; the later family's looks); each row that meets fmt, with fmt's text TOLD by the authors' own Lean function (tested against real Go, not proved from fmt's source: count such statements apart). THE CARD IS WHAT COUNTS. Prove the row's statement (the work); the ties are given (YtglndonfmmbnhaaDoorTie.lean); close each card by the builder's one call (the guide's Derived/Test/ToyasCard.lean, 'card_holds'). Laid BY PROGRAM, IN A SANDBOX (cutbox-door.mjs). By AI agents, Wed Nov 11 2026. No macro, syntax, notation, axiom, sorry.
-/
import Derived.Test.YtglndonfmmbnhaaDoorRows
import GoSem.ClaimSeven
namespace Go.Proofs.YtglndonfmmbnhaaDoor
namespace Rows

/-- THE TIED CARD OF 'mainsheetlaw04.CpusetBack'. -/
def cpusetBackCard : Claim7 := { stood := { row := cpusetBackRow, standIns := [], harness := (true, "0b6b6177bf83707ee11a7731356a0f4a9adf3608d8835330114a2d3753002519"), looks := true }, kinds := [], alts := [], laidByText := true, laidKinds := [.data, .data, .data, .data, .sentinel, .sentinel, .pinned], laidTests := true, laidLooks := .later }
def CpusetBackCardSaid : Prop := Claim7.holds Tryd.pinned (.plain (OpenSpec.ofChange cpusetBackSpec)) cpusetBackCard

/-- THE TIED CARD OF 'mainsheetlaw04.CpusetLists'. -/
def cpusetListsCard : Claim7 := { stood := { row := cpusetListsRow, standIns := [], harness := (true, "0b6b6177bf83707ee11a7731356a0f4a9adf3608d8835330114a2d3753002519"), looks := true }, kinds := [], alts := [], laidByText := true, laidKinds := [.data, .data, .data, .data, .sentinel, .sentinel, .pinned], laidTests := true, laidLooks := .later }
def CpusetListsCardSaid : Prop := Claim7.holds Tryd.pinned (.plain (OpenSpec.ofChange cpusetListsSpec)) cpusetListsCard

/-- THE TIED CARD OF 'mainsheetlaw04.CpusetTexts'. -/
def cpusetTextsCard : Claim7 := { stood := { row := cpusetTextsRow, standIns := [], harness := (true, "0b6b6177bf83707ee11a7731356a0f4a9adf3608d8835330114a2d3753002519"), looks := true }, kinds := [], alts := [], laidByText := true, laidKinds := [.data, .data, .data, .data, .sentinel, .sentinel, .pinned], laidTests := true, laidLooks := .later }
def CpusetTextsCardSaid : Prop := Claim7.holds Tryd.pinned (.plain (OpenSpec.ofChange cpusetTextsSpec)) cpusetTextsCard

/-- THE TIED CARD OF 'mainsheetlaw04.CpusetRead'. -/
def cpusetReadCard : Claim7 := { stood := { row := cpusetReadRow, standIns := [], harness := (true, "0b6b6177bf83707ee11a7731356a0f4a9adf3608d8835330114a2d3753002519"), looks := true }, kinds := [], alts := [], laidByText := true, laidKinds := [.data, .data, .data, .data, .sentinel, .sentinel, .pinned], laidTests := true, laidLooks := .later }
def CpusetReadCardSaid : Prop := Claim7.holds Tryd.pinned (.plain (OpenSpec.ofChange cpusetReadSpec)) cpusetReadCard

/-- THE TIED CARD OF 'mainsheetlaw04.CpusetOf'. -/
def cpusetOfCard : Claim7 := { stood := { row := cpusetOfRow, standIns := [], harness := (true, "0b6b6177bf83707ee11a7731356a0f4a9adf3608d8835330114a2d3753002519"), looks := true }, kinds := [], alts := [], laidByText := true, laidKinds := [.data, .data, .data, .data, .sentinel, .sentinel, .pinned], laidTests := true, laidLooks := .later }
def CpusetOfCardSaid : Prop := Claim7.holds Tryd.pinned (.plain (OpenSpec.ofChange cpusetOfSpec)) cpusetOfCard

/-- THE TIED CARD OF 'mainsheetlaw04.CpusetTurns'. -/
def cpusetTurnsCard : Claim7 := { stood := { row := cpusetTurnsRow, standIns := [], harness := (true, "0b6b6177bf83707ee11a7731356a0f4a9adf3608d8835330114a2d3753002519"), looks := true }, kinds := [], alts := [], laidByText := true, laidKinds := [.data, .data, .data, .data, .sentinel, .sentinel, .pinned], laidTests := true, laidLooks := .later }
def CpusetTurnsCardSaid : Prop := Claim7.holds Tryd.pinned (.plain (OpenSpec.ofChange cpusetTurnsSpec)) cpusetTurnsCard

/-- THE TIED CARD OF 'mainsheetlaw04.CpusetTells'. -/
def cpusetTellsCard : Claim7 := { stood := { row := cpusetTellsRow, standIns := [], harness := (true, "0b6b6177bf83707ee11a7731356a0f4a9adf3608d8835330114a2d3753002519"), looks := true }, kinds := [], alts := [], laidByText := true, laidKinds := [.data, .data, .data, .data, .sentinel, .sentinel, .pinned], laidTests := true, laidLooks := .later }
def CpusetTellsCardSaid : Prop := Claim7.holds Tryd.pinned (.plain (OpenSpec.ofChange cpusetTellsSpec)) cpusetTellsCard

/-- THE SECOND FORM's CARD OF 'mainsheetlaw04.CpusetBack'. -/
def cpusetBackUptoCard : Claim7 := { stood := { row := cpusetBackUptoRow, standIns := [], harness := (true, "0b6b6177bf83707ee11a7731356a0f4a9adf3608d8835330114a2d3753002519"), looks := true }, kinds := [], alts := [], laidByText := true, laidKinds := [.data, .data, .data, .data, .sentinel, .sentinel, .pinned], laidTests := true, laidLooks := .later }
def CpusetBackUptoCardSaid : Prop := Claim7.holds Tryd.pinned (.plain (OpenSpec.upto cpusetBackSpec)) cpusetBackUptoCard

/-- THE SECOND FORM's CARD OF 'mainsheetlaw04.CpusetLists'. -/
def cpusetListsUptoCard : Claim7 := { stood := { row := cpusetListsUptoRow, standIns := [], harness := (true, "0b6b6177bf83707ee11a7731356a0f4a9adf3608d8835330114a2d3753002519"), looks := true }, kinds := [], alts := [], laidByText := true, laidKinds := [.data, .data, .data, .data, .sentinel, .sentinel, .pinned], laidTests := true, laidLooks := .later }
def CpusetListsUptoCardSaid : Prop := Claim7.holds Tryd.pinned (.plain (OpenSpec.upto cpusetListsSpec)) cpusetListsUptoCard

/-- THE SECOND FORM's CARD OF 'mainsheetlaw04.CpusetTexts'. -/
def cpusetTextsUptoCard : Claim7 := { stood := { row := cpusetTextsUptoRow, standIns := [], harness := (true, "0b6b6177bf83707ee11a7731356a0f4a9adf3608d8835330114a2d3753002519"), looks := true }, kinds := [], alts := [], laidByText := true, laidKinds := [.data, .data, .data, .data, .sentinel, .sentinel, .pinned], laidTests := true, laidLooks := .later }
def CpusetTextsUptoCardSaid : Prop := Claim7.holds Tryd.pinned (.plain (OpenSpec.upto cpusetTextsSpec)) cpusetTextsUptoCard

/-- THE SECOND FORM's CARD OF 'mainsheetlaw04.CpusetRead'. -/
def cpusetReadUptoCard : Claim7 := { stood := { row := cpusetReadUptoRow, standIns := [], harness := (true, "0b6b6177bf83707ee11a7731356a0f4a9adf3608d8835330114a2d3753002519"), looks := true }, kinds := [], alts := [], laidByText := true, laidKinds := [.data, .data, .data, .data, .sentinel, .sentinel, .pinned], laidTests := true, laidLooks := .later }
def CpusetReadUptoCardSaid : Prop := Claim7.holds Tryd.pinned (.plain (OpenSpec.upto cpusetReadSpec)) cpusetReadUptoCard

/-- THE SECOND FORM's CARD OF 'mainsheetlaw04.CpusetOf'. -/
def cpusetOfUptoCard : Claim7 := { stood := { row := cpusetOfUptoRow, standIns := [], harness := (true, "0b6b6177bf83707ee11a7731356a0f4a9adf3608d8835330114a2d3753002519"), looks := true }, kinds := [], alts := [], laidByText := true, laidKinds := [.data, .data, .data, .data, .sentinel, .sentinel, .pinned], laidTests := true, laidLooks := .later }
def CpusetOfUptoCardSaid : Prop := Claim7.holds Tryd.pinned (.plain (OpenSpec.upto cpusetOfSpec)) cpusetOfUptoCard

/-- THE SECOND FORM's CARD OF 'mainsheetlaw04.CpusetTurns'. -/
def cpusetTurnsUptoCard : Claim7 := { stood := { row := cpusetTurnsUptoRow, standIns := [], harness := (true, "0b6b6177bf83707ee11a7731356a0f4a9adf3608d8835330114a2d3753002519"), looks := true }, kinds := [], alts := [], laidByText := true, laidKinds := [.data, .data, .data, .data, .sentinel, .sentinel, .pinned], laidTests := true, laidLooks := .later }
def CpusetTurnsUptoCardSaid : Prop := Claim7.holds Tryd.pinned (.plain (OpenSpec.upto cpusetTurnsSpec)) cpusetTurnsUptoCard

/-- THE SECOND FORM's CARD OF 'mainsheetlaw04.CpusetTells'. -/
def cpusetTellsUptoCard : Claim7 := { stood := { row := cpusetTellsUptoRow, standIns := [], harness := (true, "0b6b6177bf83707ee11a7731356a0f4a9adf3608d8835330114a2d3753002519"), looks := true }, kinds := [], alts := [], laidByText := true, laidKinds := [.data, .data, .data, .data, .sentinel, .sentinel, .pinned], laidTests := true, laidLooks := .later }
def CpusetTellsUptoCardSaid : Prop := Claim7.holds Tryd.pinned (.plain (OpenSpec.upto cpusetTellsSpec)) cpusetTellsUptoCard
end Rows
end Go.Proofs.YtglndonfmmbnhaaDoor
