/-
  DERIVED. GIVEN WITH THE SEED: THE CARDS: each row of YtjcjbpbkakfjdaaDoorRows.lean that lists a variable, with what it lists TIED to the program's text (the seventh form; the later family's looks); each row that meets fmt, with fmt's text TOLD by the authors' own Lean function (tested against real Go, not proved from fmt's source: count such statements apart). THE CARD IS WHAT COUNTS. Prove the row's statement (the work); the ties are given (YtjcjbpbkakfjdaaDoorTie.lean); close each card by the builder's one call (the guide's Derived/Test/ToyasCard.lean, 'card_holds'). Laid BY PROGRAM, IN A SANDBOX (cutbox-door.mjs). By AI agents, Wed Nov 11 2026. No macro, syntax, notation, axiom, sorry.
-/
import Derived.Test.YtjcjbpbkakfjdaaDoorRows
import GoSem.ClaimSeven
namespace Go.Proofs.YtjcjbpbkakfjdaaDoor
namespace Rows

/-- THE TIED CARD OF 'threshinglaw07.SeqWrite'. -/
def seqWriteCard : Claim7 := { stood := { row := seqWriteRow, standIns := [], harness := (true, "44929443f63adddfa4ed2c6ca725da17bff6d50c6558a76e5eb0c875155bd2b7"), looks := false }, kinds := [], alts := [], laidByText := true, laidKinds := [.data, .pinned], laidTests := true, laidLooks := .later }
def SeqWriteCardSaid : Prop := Claim7.holds Tryd.pinned (.plain (OpenSpec.ofChange seqWriteSpec)) seqWriteCard

/-- THE TIED CARD OF 'threshinglaw07.SeqSpoilt'. -/
def seqSpoiltCard : Claim7 := { stood := { row := seqSpoiltRow, standIns := [], harness := (true, "44929443f63adddfa4ed2c6ca725da17bff6d50c6558a76e5eb0c875155bd2b7"), looks := false }, kinds := [], alts := [], laidByText := true, laidKinds := [.data, .pinned], laidTests := true, laidLooks := .later }
def SeqSpoiltCardSaid : Prop := Claim7.holds Tryd.pinned (.plain (OpenSpec.ofChange seqSpoiltSpec)) seqSpoiltCard

/-- THE TIED CARD OF 'threshinglaw07.SeqMarkers'. -/
def seqMarkersCard : Claim7 := { stood := { row := seqMarkersRow, standIns := [], harness := (true, "44929443f63adddfa4ed2c6ca725da17bff6d50c6558a76e5eb0c875155bd2b7"), looks := false }, kinds := [], alts := [], laidByText := true, laidKinds := [.data, .pinned], laidTests := true, laidLooks := .later }
def SeqMarkersCardSaid : Prop := Claim7.holds Tryd.pinned (.plain (OpenSpec.ofChange seqMarkersSpec)) seqMarkersCard

/-- THE TIED CARD OF 'threshinglaw07.SeqBack'. -/
def seqBackCard : Claim7 := { stood := { row := seqBackRow, standIns := [], harness := (true, "44929443f63adddfa4ed2c6ca725da17bff6d50c6558a76e5eb0c875155bd2b7"), looks := false }, kinds := [], alts := [], laidByText := true, laidKinds := [.data, .pinned], laidTests := true, laidLooks := .later }
def SeqBackCardSaid : Prop := Claim7.holds Tryd.pinned (.plain (OpenSpec.ofChange seqBackSpec)) seqBackCard

/-- THE TIED CARD OF 'threshinglaw07.SeqRead'. -/
def seqReadCard : Claim7 := { stood := { row := seqReadRow, standIns := [], harness := (true, "44929443f63adddfa4ed2c6ca725da17bff6d50c6558a76e5eb0c875155bd2b7"), looks := false }, kinds := [], alts := [], laidByText := true, laidKinds := [.data, .pinned], laidTests := true, laidLooks := .later }
def SeqReadCardSaid : Prop := Claim7.holds Tryd.pinned (.plain (OpenSpec.ofChange seqReadSpec)) seqReadCard

/-- THE TIED CARD OF 'threshinglaw07.SeqSplits'. -/
def seqSplitsCard : Claim7 := { stood := { row := seqSplitsRow, standIns := [], harness := (true, "44929443f63adddfa4ed2c6ca725da17bff6d50c6558a76e5eb0c875155bd2b7"), looks := false }, kinds := [], alts := [], laidByText := true, laidKinds := [.data, .pinned], laidTests := true, laidLooks := .later }
def SeqSplitsCardSaid : Prop := Claim7.holds Tryd.pinned (.plain (OpenSpec.ofChange seqSplitsSpec)) seqSplitsCard

/-- THE SECOND FORM's CARD OF 'threshinglaw07.SeqWrite'. -/
def seqWriteUptoCard : Claim7 := { stood := { row := seqWriteUptoRow, standIns := [], harness := (true, "44929443f63adddfa4ed2c6ca725da17bff6d50c6558a76e5eb0c875155bd2b7"), looks := false }, kinds := [], alts := [], laidByText := true, laidKinds := [.data, .pinned], laidTests := true, laidLooks := .later }
def SeqWriteUptoCardSaid : Prop := Claim7.holds Tryd.pinned (.plain (OpenSpec.upto seqWriteSpec)) seqWriteUptoCard

/-- THE SECOND FORM's CARD OF 'threshinglaw07.SeqSpoilt'. -/
def seqSpoiltUptoCard : Claim7 := { stood := { row := seqSpoiltUptoRow, standIns := [], harness := (true, "44929443f63adddfa4ed2c6ca725da17bff6d50c6558a76e5eb0c875155bd2b7"), looks := false }, kinds := [], alts := [], laidByText := true, laidKinds := [.data, .pinned], laidTests := true, laidLooks := .later }
def SeqSpoiltUptoCardSaid : Prop := Claim7.holds Tryd.pinned (.plain (OpenSpec.upto seqSpoiltSpec)) seqSpoiltUptoCard

/-- THE SECOND FORM's CARD OF 'threshinglaw07.SeqMarkers'. -/
def seqMarkersUptoCard : Claim7 := { stood := { row := seqMarkersUptoRow, standIns := [], harness := (true, "44929443f63adddfa4ed2c6ca725da17bff6d50c6558a76e5eb0c875155bd2b7"), looks := false }, kinds := [], alts := [], laidByText := true, laidKinds := [.data, .pinned], laidTests := true, laidLooks := .later }
def SeqMarkersUptoCardSaid : Prop := Claim7.holds Tryd.pinned (.plain (OpenSpec.upto seqMarkersSpec)) seqMarkersUptoCard

/-- THE SECOND FORM's CARD OF 'threshinglaw07.SeqBack'. -/
def seqBackUptoCard : Claim7 := { stood := { row := seqBackUptoRow, standIns := [], harness := (true, "44929443f63adddfa4ed2c6ca725da17bff6d50c6558a76e5eb0c875155bd2b7"), looks := false }, kinds := [], alts := [], laidByText := true, laidKinds := [.data, .pinned], laidTests := true, laidLooks := .later }
def SeqBackUptoCardSaid : Prop := Claim7.holds Tryd.pinned (.plain (OpenSpec.upto seqBackSpec)) seqBackUptoCard

/-- THE SECOND FORM's CARD OF 'threshinglaw07.SeqRead'. -/
def seqReadUptoCard : Claim7 := { stood := { row := seqReadUptoRow, standIns := [], harness := (true, "44929443f63adddfa4ed2c6ca725da17bff6d50c6558a76e5eb0c875155bd2b7"), looks := false }, kinds := [], alts := [], laidByText := true, laidKinds := [.data, .pinned], laidTests := true, laidLooks := .later }
def SeqReadUptoCardSaid : Prop := Claim7.holds Tryd.pinned (.plain (OpenSpec.upto seqReadSpec)) seqReadUptoCard

/-- THE SECOND FORM's CARD OF 'threshinglaw07.SeqSplits'. -/
def seqSplitsUptoCard : Claim7 := { stood := { row := seqSplitsUptoRow, standIns := [], harness := (true, "44929443f63adddfa4ed2c6ca725da17bff6d50c6558a76e5eb0c875155bd2b7"), looks := false }, kinds := [], alts := [], laidByText := true, laidKinds := [.data, .pinned], laidTests := true, laidLooks := .later }
def SeqSplitsUptoCardSaid : Prop := Claim7.holds Tryd.pinned (.plain (OpenSpec.upto seqSplitsSpec)) seqSplitsUptoCard
end Rows
end Go.Proofs.YtjcjbpbkakfjdaaDoor
