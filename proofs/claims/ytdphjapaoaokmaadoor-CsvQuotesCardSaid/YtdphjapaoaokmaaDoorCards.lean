/-
  DERIVED. GIVEN WITH THE SEED: THE CARDS: each row of YtdphjapaoaokmaaDoorRows.lean that lists a variable, with what it lists TIED to the program's text (the seventh form; the later family's looks); each row that meets fmt, with fmt's text TOLD by the authors' own Lean function (tested against real Go, not proved from fmt's source: count such statements apart). THE CARD IS WHAT COUNTS. Prove the row's statement (the work); the ties are given (YtdphjapaoaokmaaDoorTie.lean); close each card by the builder's one call (the guide's Derived/Test/ToyasCard.lean, 'card_holds'). Laid BY PROGRAM, IN A SANDBOX (cutbox-door.mjs). By AI agents, Wed Nov 11 2026. No macro, syntax, notation, axiom, sorry.
-/
import Derived.Test.YtdphjapaoaokmaaDoorRows
import GoSem.ClaimSeven
namespace Go.Proofs.YtdphjapaoaokmaaDoor
namespace Rows

/-- THE TIED CARD OF 'threshinglaw06.CsvQuotes'. -/
def csvQuotesCard : Claim7 := { stood := { row := csvQuotesRow, standIns := [], harness := (true, "10fd9d93760056da579c6a50eddabde021da0a6dabd9c5e9b9b5320661a955e1"), looks := false }, kinds := [], alts := [], laidByText := true, laidKinds := [.data, .pinned], laidTests := true, laidLooks := .later }
def CsvQuotesCardSaid : Prop := Claim7.holds Tryd.pinned (.plain (OpenSpec.ofChange csvQuotesSpec)) csvQuotesCard

/-- THE TIED CARD OF 'threshinglaw06.CsvWrite'. -/
def csvWriteCard : Claim7 := { stood := { row := csvWriteRow, standIns := [], harness := (true, "10fd9d93760056da579c6a50eddabde021da0a6dabd9c5e9b9b5320661a955e1"), looks := false }, kinds := [], alts := [], laidByText := true, laidKinds := [.data, .pinned], laidTests := true, laidLooks := .later }
def CsvWriteCardSaid : Prop := Claim7.holds Tryd.pinned (.plain (OpenSpec.ofChange csvWriteSpec)) csvWriteCard

/-- THE TIED CARD OF 'threshinglaw06.CsvBack'. -/
def csvBackCard : Claim7 := { stood := { row := csvBackRow, standIns := [], harness := (true, "10fd9d93760056da579c6a50eddabde021da0a6dabd9c5e9b9b5320661a955e1"), looks := false }, kinds := [], alts := [], laidByText := true, laidKinds := [.data, .pinned], laidTests := true, laidLooks := .later }
def CsvBackCardSaid : Prop := Claim7.holds Tryd.pinned (.plain (OpenSpec.ofChange csvBackSpec)) csvBackCard

/-- THE TIED CARD OF 'threshinglaw06.CsvScan'. -/
def csvScanCard : Claim7 := { stood := { row := csvScanRow, standIns := [], harness := (true, "10fd9d93760056da579c6a50eddabde021da0a6dabd9c5e9b9b5320661a955e1"), looks := false }, kinds := [], alts := [], laidByText := true, laidKinds := [.data, .pinned], laidTests := true, laidLooks := .later }
def CsvScanCardSaid : Prop := Claim7.holds Tryd.pinned (.plain (OpenSpec.ofChange csvScanSpec)) csvScanCard

/-- THE SECOND FORM's CARD OF 'threshinglaw06.CsvQuotes'. -/
def csvQuotesUptoCard : Claim7 := { stood := { row := csvQuotesUptoRow, standIns := [], harness := (true, "10fd9d93760056da579c6a50eddabde021da0a6dabd9c5e9b9b5320661a955e1"), looks := false }, kinds := [], alts := [], laidByText := true, laidKinds := [.data, .pinned], laidTests := true, laidLooks := .later }
def CsvQuotesUptoCardSaid : Prop := Claim7.holds Tryd.pinned (.plain (OpenSpec.upto csvQuotesSpec)) csvQuotesUptoCard

/-- THE SECOND FORM's CARD OF 'threshinglaw06.CsvWrite'. -/
def csvWriteUptoCard : Claim7 := { stood := { row := csvWriteUptoRow, standIns := [], harness := (true, "10fd9d93760056da579c6a50eddabde021da0a6dabd9c5e9b9b5320661a955e1"), looks := false }, kinds := [], alts := [], laidByText := true, laidKinds := [.data, .pinned], laidTests := true, laidLooks := .later }
def CsvWriteUptoCardSaid : Prop := Claim7.holds Tryd.pinned (.plain (OpenSpec.upto csvWriteSpec)) csvWriteUptoCard

/-- THE SECOND FORM's CARD OF 'threshinglaw06.CsvBack'. -/
def csvBackUptoCard : Claim7 := { stood := { row := csvBackUptoRow, standIns := [], harness := (true, "10fd9d93760056da579c6a50eddabde021da0a6dabd9c5e9b9b5320661a955e1"), looks := false }, kinds := [], alts := [], laidByText := true, laidKinds := [.data, .pinned], laidTests := true, laidLooks := .later }
def CsvBackUptoCardSaid : Prop := Claim7.holds Tryd.pinned (.plain (OpenSpec.upto csvBackSpec)) csvBackUptoCard

/-- THE SECOND FORM's CARD OF 'threshinglaw06.CsvScan'. -/
def csvScanUptoCard : Claim7 := { stood := { row := csvScanUptoRow, standIns := [], harness := (true, "10fd9d93760056da579c6a50eddabde021da0a6dabd9c5e9b9b5320661a955e1"), looks := false }, kinds := [], alts := [], laidByText := true, laidKinds := [.data, .pinned], laidTests := true, laidLooks := .later }
def CsvScanUptoCardSaid : Prop := Claim7.holds Tryd.pinned (.plain (OpenSpec.upto csvScanSpec)) csvScanUptoCard
end Rows
end Go.Proofs.YtdphjapaoaokmaaDoor
