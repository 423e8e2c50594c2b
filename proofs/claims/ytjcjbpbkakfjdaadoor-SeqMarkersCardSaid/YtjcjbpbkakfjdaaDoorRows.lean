/-
  NARROWER THAN 'FOR EVERY INPUT', by the rows' own cells (each row's printed sentence says how): SeqWrite: laid · SeqSpoilt: laid · SeqMarkers: laid · SeqBack: laid · SeqRead: laid · SeqSplits: laid.
  DERIVED. THE GIVEN ROWS OF THIS SEAT. 6 by the template 'for every input the law returns true; each argument reads behind the call as it read before'; 0 by the template 'total and deterministic' (their statements: YtjcjbpbkakfjdaaDoorTotals.lean).
  GIVEN WITH THE SEED: the statements are not yours to turn. If you find one false, say at which input.
  Laid BY PROGRAM, IN A SANDBOX (cutbox-rows.mjs): the forced cells as the released guide's own fill.sh prints them over the translation bafa7a9ab341d496… (all of the seat's roots in one cut). By AI agents, Wed Nov 11 2026. No macro, syntax, notation, axiom, sorry.
-/
import Derived.Test.YtjcjbpbkakfjdaaDoorChecked
import GoSem.PinnedTables
import GoSem.Claim
import GoSem.ClaimJoined
import GoSem.ClaimMapViews
import Derived.JoinedTies
import Derived.KernelRfl
namespace Go.Proofs.YtjcjbpbkakfjdaaDoor
/- THE CELL 'sum', in the pinned program and in every row, IS THE sha256 OF THE DUMP (.gsa) THAT YtjcjbpbkakfjdaaDoorProg.lean LOADS. Nothing in Lean hashes anything: it is a label: what it is worth is what the hold of that sum in a sandbox is worth. -/
noncomputable def Tryd.pinned : Pinned := { name := "ytjcjbpbkakfjdaadoor", sum := "bafa7a9ab341d496c2928c6f61da7ede514744485e4c4a9ae127b9dab7e2b09c", checked := Tryd.checked }
namespace Rows
def none {H : Type} : Left H := { results := [], args := [] }

/- WHAT THE LISTED PACKAGE-LEVEL VARIABLES READ AS WHEN THE CALL BEGINS. Each datum BY PROGRAM (the guide's laid-datum.mjs) off the statement by which the dump's own 'gosem.cut.vars' lays the variable. In a bare row this is a premise. The card (YtjcjbpbkakfjdaaDoorCards.lean) ties it to the program's text. -/
def laid_unicode_utf8_acceptRanges {H : Type} : DataW H := .agg [.agg [.lit (.int .u8 128), .lit (.int .u8 191)], .agg [.lit (.int .u8 160), .lit (.int .u8 191)], .agg [.lit (.int .u8 128), .lit (.int .u8 159)], .agg [.lit (.int .u8 144), .lit (.int .u8 191)], .agg [.lit (.int .u8 128), .lit (.int .u8 143)], .agg [.lit (.int .u8 0), .lit (.int .u8 0)], .agg [.lit (.int .u8 0), .lit (.int .u8 0)], .agg [.lit (.int .u8 0), .lit (.int .u8 0)], .agg [.lit (.int .u8 0), .lit (.int .u8 0)], .agg [.lit (.int .u8 0), .lit (.int .u8 0)], .agg [.lit (.int .u8 0), .lit (.int .u8 0)], .agg [.lit (.int .u8 0), .lit (.int .u8 0)], .agg [.lit (.int .u8 0), .lit (.int .u8 0)], .agg [.lit (.int .u8 0), .lit (.int .u8 0)], .agg [.lit (.int .u8 0), .lit (.int .u8 0)], .agg [.lit (.int .u8 0), .lit (.int .u8 0)]]
/-- One of Go's own tables, pinned by name: the form's constant. -/
def laid_unicode_utf8_first : DataW Unit := Go.Pinned.utf8First

/-- 'threshinglaw07.SeqWrite': WHATEVER THE INPUT: true; the input reads as it did. -/
def seqWriteSpec : ChangeSpec := { name := "seqWrite", fn := fun _ => fun
  | [d1, d2] => { results := [.lit (.bool true)], args := [d1, d2] }
  | _ => none }
def seqWriteRow : OpenClaim := { program := "ytjcjbpbkakfjdaadoor", sum := "bafa7a9ab341d496c2928c6f61da7ede514744485e4c4a9ae127b9dab7e2b09c", func := "threshing/threshinglaw07.SeqWrite", spec := "seqWrite", inPlace := ["internal/bytealg.Count", "internal/bytealg.IndexByte", "internal/bytealg.Index"], unfollowed := true, recurses := true, named := ["internal/bytealg.MaxLen", "unicode/utf8.first", "unicode/utf8.acceptRanges"], apart := false, laid := [("unicode/utf8.acceptRanges", laid_unicode_utf8_acceptRanges), ("unicode/utf8.first", laid_unicode_utf8_first)] }
def SeqWriteSaid : Prop := seqWriteRow.holds Tryd.pinned (OpenSpec.ofChange seqWriteSpec)

/-- ITS FALSE NEIGHBOUR: 'it returns false'. Refute it at one input. -/
def seqWriteWrong : ChangeSpec := { name := "seqWrite", fn := fun _ => fun
  | [d1, d2] => { results := [.lit (.bool false)], args := [d1, d2] }
  | _ => none }
def SeqWriteWrongFalsely : Prop := seqWriteRow.holds Tryd.pinned (OpenSpec.ofChange seqWriteWrong)

/-- 'threshinglaw07.SeqSpoilt': WHATEVER THE INPUT: true; the input reads as it did. -/
def seqSpoiltSpec : ChangeSpec := { name := "seqSpoilt", fn := fun _ => fun
  | [d1, d2, d3] => { results := [.lit (.bool true)], args := [d1, d2, d3] }
  | _ => none }
def seqSpoiltRow : OpenClaim := { program := "ytjcjbpbkakfjdaadoor", sum := "bafa7a9ab341d496c2928c6f61da7ede514744485e4c4a9ae127b9dab7e2b09c", func := "threshing/threshinglaw07.SeqSpoilt", spec := "seqSpoilt", inPlace := ["internal/bytealg.Count", "internal/bytealg.IndexByte", "internal/bytealg.Index"], unfollowed := true, recurses := true, named := ["internal/bytealg.MaxLen", "unicode/utf8.first", "unicode/utf8.acceptRanges"], apart := false, laid := [("unicode/utf8.acceptRanges", laid_unicode_utf8_acceptRanges), ("unicode/utf8.first", laid_unicode_utf8_first)] }
def SeqSpoiltSaid : Prop := seqSpoiltRow.holds Tryd.pinned (OpenSpec.ofChange seqSpoiltSpec)

/-- ITS FALSE NEIGHBOUR: 'it returns false'. Refute it at one input. -/
def seqSpoiltWrong : ChangeSpec := { name := "seqSpoilt", fn := fun _ => fun
  | [d1, d2, d3] => { results := [.lit (.bool false)], args := [d1, d2, d3] }
  | _ => none }
def SeqSpoiltWrongFalsely : Prop := seqSpoiltRow.holds Tryd.pinned (OpenSpec.ofChange seqSpoiltWrong)

/-- 'threshinglaw07.SeqMarkers': WHATEVER THE INPUT: true; the input reads as it did. -/
def seqMarkersSpec : ChangeSpec := { name := "seqMarkers", fn := fun _ => fun
  | [d] => { results := [.lit (.bool true)], args := [d] }
  | _ => none }
def seqMarkersRow : OpenClaim := { program := "ytjcjbpbkakfjdaadoor", sum := "bafa7a9ab341d496c2928c6f61da7ede514744485e4c4a9ae127b9dab7e2b09c", func := "threshing/threshinglaw07.SeqMarkers", spec := "seqMarkers", inPlace := ["internal/bytealg.Count", "internal/bytealg.IndexByte", "internal/bytealg.Index"], unfollowed := true, recurses := true, named := ["internal/bytealg.MaxLen", "unicode/utf8.first", "unicode/utf8.acceptRanges"], apart := false, laid := [("unicode/utf8.acceptRanges", laid_unicode_utf8_acceptRanges), ("unicode/utf8.first", laid_unicode_utf8_first)] }
def SeqMarkersSaid : Prop := seqMarkersRow.holds Tryd.pinned (OpenSpec.ofChange seqMarkersSpec)

/-- ITS FALSE NEIGHBOUR: 'it returns false'. Refute it at one input. -/
def seqMarkersWrong : ChangeSpec := { name := "seqMarkers", fn := fun _ => fun
  | [d] => { results := [.lit (.bool false)], args := [d] }
  | _ => none }
def SeqMarkersWrongFalsely : Prop := seqMarkersRow.holds Tryd.pinned (OpenSpec.ofChange seqMarkersWrong)

/-- 'threshinglaw07.SeqBack': WHATEVER THE INPUT: true; the input reads as it did. -/
def seqBackSpec : ChangeSpec := { name := "seqBack", fn := fun _ => fun
  | [d1, d2] => { results := [.lit (.bool true)], args := [d1, d2] }
  | _ => none }
def seqBackRow : OpenClaim := { program := "ytjcjbpbkakfjdaadoor", sum := "bafa7a9ab341d496c2928c6f61da7ede514744485e4c4a9ae127b9dab7e2b09c", func := "threshing/threshinglaw07.SeqBack", spec := "seqBack", inPlace := ["internal/bytealg.Count", "internal/bytealg.IndexByte", "internal/bytealg.Index"], unfollowed := true, recurses := true, named := ["internal/bytealg.MaxLen", "unicode/utf8.first", "unicode/utf8.acceptRanges"], apart := false, laid := [("unicode/utf8.acceptRanges", laid_unicode_utf8_acceptRanges), ("unicode/utf8.first", laid_unicode_utf8_first)] }
def SeqBackSaid : Prop := seqBackRow.holds Tryd.pinned (OpenSpec.ofChange seqBackSpec)

/-- ITS FALSE NEIGHBOUR: 'it returns false'. Refute it at one input. -/
def seqBackWrong : ChangeSpec := { name := "seqBack", fn := fun _ => fun
  | [d1, d2] => { results := [.lit (.bool false)], args := [d1, d2] }
  | _ => none }
def SeqBackWrongFalsely : Prop := seqBackRow.holds Tryd.pinned (OpenSpec.ofChange seqBackWrong)

/-- 'threshinglaw07.SeqRead': WHATEVER THE INPUT: true; the input reads as it did. -/
def seqReadSpec : ChangeSpec := { name := "seqRead", fn := fun _ => fun
  | [d1, d2, d3] => { results := [.lit (.bool true)], args := [d1, d2, d3] }
  | _ => none }
def seqReadRow : OpenClaim := { program := "ytjcjbpbkakfjdaadoor", sum := "bafa7a9ab341d496c2928c6f61da7ede514744485e4c4a9ae127b9dab7e2b09c", func := "threshing/threshinglaw07.SeqRead", spec := "seqRead", inPlace := ["internal/bytealg.Count", "internal/bytealg.IndexByte", "internal/bytealg.Index"], unfollowed := true, recurses := true, named := ["internal/bytealg.MaxLen", "unicode/utf8.first", "unicode/utf8.acceptRanges"], apart := false, laid := [("unicode/utf8.acceptRanges", laid_unicode_utf8_acceptRanges), ("unicode/utf8.first", laid_unicode_utf8_first)] }
def SeqReadSaid : Prop := seqReadRow.holds Tryd.pinned (OpenSpec.ofChange seqReadSpec)

/-- ITS FALSE NEIGHBOUR: 'it returns false'. Refute it at one input. -/
def seqReadWrong : ChangeSpec := { name := "seqRead", fn := fun _ => fun
  | [d1, d2, d3] => { results := [.lit (.bool false)], args := [d1, d2, d3] }
  | _ => none }
def SeqReadWrongFalsely : Prop := seqReadRow.holds Tryd.pinned (OpenSpec.ofChange seqReadWrong)

/-- 'threshinglaw07.SeqSplits': WHATEVER THE INPUT: true; the input reads as it did. -/
def seqSplitsSpec : ChangeSpec := { name := "seqSplits", fn := fun _ => fun
  | [d1, d2] => { results := [.lit (.bool true)], args := [d1, d2] }
  | _ => none }
def seqSplitsRow : OpenClaim := { program := "ytjcjbpbkakfjdaadoor", sum := "bafa7a9ab341d496c2928c6f61da7ede514744485e4c4a9ae127b9dab7e2b09c", func := "threshing/threshinglaw07.SeqSplits", spec := "seqSplits", inPlace := ["internal/bytealg.Count", "internal/bytealg.IndexByte", "internal/bytealg.Index"], unfollowed := true, recurses := true, named := ["internal/bytealg.MaxLen", "unicode/utf8.first", "unicode/utf8.acceptRanges"], apart := false, laid := [("unicode/utf8.acceptRanges", laid_unicode_utf8_acceptRanges), ("unicode/utf8.first", laid_unicode_utf8_first)] }
def SeqSplitsSaid : Prop := seqSplitsRow.holds Tryd.pinned (OpenSpec.ofChange seqSplitsSpec)

/-- ITS FALSE NEIGHBOUR: 'it returns false'. Refute it at one input. -/
def seqSplitsWrong : ChangeSpec := { name := "seqSplits", fn := fun _ => fun
  | [d1, d2] => { results := [.lit (.bool false)], args := [d1, d2] }
  | _ => none }
def SeqSplitsWrongFalsely : Prop := seqSplitsRow.holds Tryd.pinned (OpenSpec.ofChange seqSplitsWrong)

/- THE SECOND FORM. 'bulk': how many values and letters a reading holds, each counted each time it is reached (what is shared counts as often as it is met; a slice's spare places count too). A statement '..UptoSaid' is the law's where the arguments, and the package variables that the reading takes, are together of bulk at most 1048576: NARROWER than '..Said'. Prove '..Said' where nothing that the law and all that it calls make is longer than what came in: it says more and counts as full. Else prove '..UptoSaid'. A law counts once. -/
mutual
def uptoBulk {H : Type} : DataW H → Nat
  | .lit (.string bytes) => bytes.length + 1
  | .lit _ => 1
  | .nil => 1
  | .ptr d => uptoBulk d + 1
  | .slice elems spare => uptoBulkAll elems + uptoBulkAll spare + 1
  | .agg parts => uptoBulkAll parts + 1
  | .iface _ d => uptoBulk d + 1
  | .map entries => uptoBulkEntries entries + 1
  | .held _ => 1
def uptoBulkAll {H : Type} : List (DataW H) → Nat
  | [] => 0
  | d :: r => uptoBulk d + uptoBulkAll r
def uptoBulkEntries {H : Type} : List (Lit × DataW H) → Nat
  | [] => 0
  | x :: r => uptoBulkEntry x + uptoBulkEntries r
def uptoBulkEntry {H : Type} : Lit × DataW H → Nat
  | (.string bytes, d) => bytes.length + uptoBulk d + 1
  | (_, d) => uptoBulk d + 1
 end
def uptoSmall : (H : Type) → List (DataW H) → Bool := fun _ ds => decide (uptoBulkAll ds ≤ 1048576)
def OpenSpec.upto (s : _root_.Go.ChangeSpec) : _root_.Go.OpenSpec := { _root_.Go.OpenSpec.ofChange s with cond := some uptoSmall }

/-- 'threshinglaw07.SeqWrite', WHERE WHAT IT READS IS OF BULK AT MOST 1048576: true; the input reads as it did. -/
def seqWriteUptoRow : OpenClaim := { program := "ytjcjbpbkakfjdaadoor", sum := "bafa7a9ab341d496c2928c6f61da7ede514744485e4c4a9ae127b9dab7e2b09c", func := "threshing/threshinglaw07.SeqWrite", spec := "seqWrite", inPlace := ["internal/bytealg.Count", "internal/bytealg.IndexByte", "internal/bytealg.Index"], unfollowed := true, recurses := true, named := ["internal/bytealg.MaxLen", "unicode/utf8.first", "unicode/utf8.acceptRanges"], apart := false, laid := [("unicode/utf8.acceptRanges", laid_unicode_utf8_acceptRanges), ("unicode/utf8.first", laid_unicode_utf8_first)], narrowed := true }
def SeqWriteUptoSaid : Prop := seqWriteUptoRow.holds Tryd.pinned (OpenSpec.upto seqWriteSpec)

/-- 'threshinglaw07.SeqSpoilt', WHERE WHAT IT READS IS OF BULK AT MOST 1048576: true; the input reads as it did. -/
def seqSpoiltUptoRow : OpenClaim := { program := "ytjcjbpbkakfjdaadoor", sum := "bafa7a9ab341d496c2928c6f61da7ede514744485e4c4a9ae127b9dab7e2b09c", func := "threshing/threshinglaw07.SeqSpoilt", spec := "seqSpoilt", inPlace := ["internal/bytealg.Count", "internal/bytealg.IndexByte", "internal/bytealg.Index"], unfollowed := true, recurses := true, named := ["internal/bytealg.MaxLen", "unicode/utf8.first", "unicode/utf8.acceptRanges"], apart := false, laid := [("unicode/utf8.acceptRanges", laid_unicode_utf8_acceptRanges), ("unicode/utf8.first", laid_unicode_utf8_first)], narrowed := true }
def SeqSpoiltUptoSaid : Prop := seqSpoiltUptoRow.holds Tryd.pinned (OpenSpec.upto seqSpoiltSpec)

/-- 'threshinglaw07.SeqMarkers', WHERE WHAT IT READS IS OF BULK AT MOST 1048576: true; the input reads as it did. -/
def seqMarkersUptoRow : OpenClaim := { program := "ytjcjbpbkakfjdaadoor", sum := "bafa7a9ab341d496c2928c6f61da7ede514744485e4c4a9ae127b9dab7e2b09c", func := "threshing/threshinglaw07.SeqMarkers", spec := "seqMarkers", inPlace := ["internal/bytealg.Count", "internal/bytealg.IndexByte", "internal/bytealg.Index"], unfollowed := true, recurses := true, named := ["internal/bytealg.MaxLen", "unicode/utf8.first", "unicode/utf8.acceptRanges"], apart := false, laid := [("unicode/utf8.acceptRanges", laid_unicode_utf8_acceptRanges), ("unicode/utf8.first", laid_unicode_utf8_first)], narrowed := true }
def SeqMarkersUptoSaid : Prop := seqMarkersUptoRow.holds Tryd.pinned (OpenSpec.upto seqMarkersSpec)

/-- 'threshinglaw07.SeqBack', WHERE WHAT IT READS IS OF BULK AT MOST 1048576: true; the input reads as it did. -/
def seqBackUptoRow : OpenClaim := { program := "ytjcjbpbkakfjdaadoor", sum := "bafa7a9ab341d496c2928c6f61da7ede514744485e4c4a9ae127b9dab7e2b09c", func := "threshing/threshinglaw07.SeqBack", spec := "seqBack", inPlace := ["internal/bytealg.Count", "internal/bytealg.IndexByte", "internal/bytealg.Index"], unfollowed := true, recurses := true, named := ["internal/bytealg.MaxLen", "unicode/utf8.first", "unicode/utf8.acceptRanges"], apart := false, laid := [("unicode/utf8.acceptRanges", laid_unicode_utf8_acceptRanges), ("unicode/utf8.first", laid_unicode_utf8_first)], narrowed := true }
def SeqBackUptoSaid : Prop := seqBackUptoRow.holds Tryd.pinned (OpenSpec.upto seqBackSpec)

/-- 'threshinglaw07.SeqRead', WHERE WHAT IT READS IS OF BULK AT MOST 1048576: true; the input reads as it did. -/
def seqReadUptoRow : OpenClaim := { program := "ytjcjbpbkakfjdaadoor", sum := "bafa7a9ab341d496c2928c6f61da7ede514744485e4c4a9ae127b9dab7e2b09c", func := "threshing/threshinglaw07.SeqRead", spec := "seqRead", inPlace := ["internal/bytealg.Count", "internal/bytealg.IndexByte", "internal/bytealg.Index"], unfollowed := true, recurses := true, named := ["internal/bytealg.MaxLen", "unicode/utf8.first", "unicode/utf8.acceptRanges"], apart := false, laid := [("unicode/utf8.acceptRanges", laid_unicode_utf8_acceptRanges), ("unicode/utf8.first", laid_unicode_utf8_first)], narrowed := true }
def SeqReadUptoSaid : Prop := seqReadUptoRow.holds Tryd.pinned (OpenSpec.upto seqReadSpec)

/-- 'threshinglaw07.SeqSplits', WHERE WHAT IT READS IS OF BULK AT MOST 1048576: true; the input reads as it did. -/
def seqSplitsUptoRow : OpenClaim := { program := "ytjcjbpbkakfjdaadoor", sum := "bafa7a9ab341d496c2928c6f61da7ede514744485e4c4a9ae127b9dab7e2b09c", func := "threshing/threshinglaw07.SeqSplits", spec := "seqSplits", inPlace := ["internal/bytealg.Count", "internal/bytealg.IndexByte", "internal/bytealg.Index"], unfollowed := true, recurses := true, named := ["internal/bytealg.MaxLen", "unicode/utf8.first", "unicode/utf8.acceptRanges"], apart := false, laid := [("unicode/utf8.acceptRanges", laid_unicode_utf8_acceptRanges), ("unicode/utf8.first", laid_unicode_utf8_first)], narrowed := true }
def SeqSplitsUptoSaid : Prop := seqSplitsUptoRow.holds Tryd.pinned (OpenSpec.upto seqSplitsSpec)

end Rows
end Go.Proofs.YtjcjbpbkakfjdaaDoor
