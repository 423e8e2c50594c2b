/-
  No cell of these rows narrows 'for every input' (looked for: loops, veiled, ifaces, maps, wideKeys, modest, calm, conditions, laid).
  DERIVED. THE GIVEN ROWS OF THIS SEAT. 7 by the template 'for every input the law returns true; each argument reads behind the call as it read before'; 0 by the template 'total and deterministic' (their statements: YtjbnomkajfmlpaaTotals.lean).
  GIVEN WITH THE SEED: the statements are not yours to turn. If you find one false, say at which input.
  Laid BY PROGRAM, IN A SANDBOX (cutbox-rows.mjs): the forced cells as the released guide's own fill.sh prints them over the translation 704537d14ac28abf… (all of the seat's roots in one cut). By AI agents, Wed Nov 11 2026. No macro, syntax, notation, axiom, sorry.
-/
import Derived.Test.YtjbnomkajfmlpaaChecked
import GoSem.Claim
import GoSem.ClaimJoined
import GoSem.ClaimMapViews
import Derived.JoinedTies
import Derived.KernelRfl
namespace Go.Proofs.Ytjbnomkajfmlpaa
/- THE CELL 'sum', in the pinned program and in every row, IS THE sha256 OF THE DUMP (.gsa) THAT YtjbnomkajfmlpaaProg.lean LOADS. Nothing in Lean hashes anything: it is a label: what it is worth is what the hold of that sum in a sandbox is worth. -/
noncomputable def Try.pinned : Pinned := { name := "ytjbnomkajfmlpaa", sum := "704537d14ac28abfadca6907d396d44ec5b0e864c8b4dbba19b393fc063448bb", checked := Try.checked }
namespace Rows
def none {H : Type} : Left H := { results := [], args := [] }

/-- 'threshinglaw09.FixedWrite': WHATEVER THE INPUT: true; the input reads as it did. -/
def fixedWriteSpec : ChangeSpec := { name := "fixedWrite", fn := fun _ => fun
  | [d1, d2] => { results := [.lit (.bool true)], args := [d1, d2] }
  | _ => none }
def fixedWriteRow : OpenClaim := { program := "ytjbnomkajfmlpaa", sum := "704537d14ac28abfadca6907d396d44ec5b0e864c8b4dbba19b393fc063448bb", func := "threshing/threshinglaw09.FixedWrite", spec := "fixedWrite", unfollowed := true, recurses := true, apart := false }
def FixedWriteSaid : Prop := fixedWriteRow.holds Try.pinned (OpenSpec.ofChange fixedWriteSpec)

/-- ITS FALSE NEIGHBOUR: 'it returns false'. Refute it at one input. -/
def fixedWriteWrong : ChangeSpec := { name := "fixedWrite", fn := fun _ => fun
  | [d1, d2] => { results := [.lit (.bool false)], args := [d1, d2] }
  | _ => none }
def FixedWriteWrongFalsely : Prop := fixedWriteRow.holds Try.pinned (OpenSpec.ofChange fixedWriteWrong)

/-- 'threshinglaw09.FixedScan': WHATEVER THE INPUT: true; the input reads as it did. -/
def fixedScanSpec : ChangeSpec := { name := "fixedScan", fn := fun _ => fun
  | [d1, d2] => { results := [.lit (.bool true)], args := [d1, d2] }
  | _ => none }
def fixedScanRow : OpenClaim := { program := "ytjbnomkajfmlpaa", sum := "704537d14ac28abfadca6907d396d44ec5b0e864c8b4dbba19b393fc063448bb", func := "threshing/threshinglaw09.FixedScan", spec := "fixedScan", unfollowed := true, recurses := true, apart := false }
def FixedScanSaid : Prop := fixedScanRow.holds Try.pinned (OpenSpec.ofChange fixedScanSpec)

/-- ITS FALSE NEIGHBOUR: 'it returns false'. Refute it at one input. -/
def fixedScanWrong : ChangeSpec := { name := "fixedScan", fn := fun _ => fun
  | [d1, d2] => { results := [.lit (.bool false)], args := [d1, d2] }
  | _ => none }
def FixedScanWrongFalsely : Prop := fixedScanRow.holds Try.pinned (OpenSpec.ofChange fixedScanWrong)

/-- 'threshinglaw09.FixedBack': WHATEVER THE INPUT: true; the input reads as it did. -/
def fixedBackSpec : ChangeSpec := { name := "fixedBack", fn := fun _ => fun
  | [d1, d2, d3] => { results := [.lit (.bool true)], args := [d1, d2, d3] }
  | _ => none }
def fixedBackRow : OpenClaim := { program := "ytjbnomkajfmlpaa", sum := "704537d14ac28abfadca6907d396d44ec5b0e864c8b4dbba19b393fc063448bb", func := "threshing/threshinglaw09.FixedBack", spec := "fixedBack", unfollowed := true, recurses := true, apart := false }
def FixedBackSaid : Prop := fixedBackRow.holds Try.pinned (OpenSpec.ofChange fixedBackSpec)

/-- ITS FALSE NEIGHBOUR: 'it returns false'. Refute it at one input. -/
def fixedBackWrong : ChangeSpec := { name := "fixedBack", fn := fun _ => fun
  | [d1, d2, d3] => { results := [.lit (.bool false)], args := [d1, d2, d3] }
  | _ => none }
def FixedBackWrongFalsely : Prop := fixedBackRow.holds Try.pinned (OpenSpec.ofChange fixedBackWrong)

/-- 'threshinglaw09.FixedRead': WHATEVER THE INPUT: true; the input reads as it did. -/
def fixedReadSpec : ChangeSpec := { name := "fixedRead", fn := fun _ => fun
  | [d1, d2] => { results := [.lit (.bool true)], args := [d1, d2] }
  | _ => none }
def fixedReadRow : OpenClaim := { program := "ytjbnomkajfmlpaa", sum := "704537d14ac28abfadca6907d396d44ec5b0e864c8b4dbba19b393fc063448bb", func := "threshing/threshinglaw09.FixedRead", spec := "fixedRead", unfollowed := true, recurses := true, apart := false }
def FixedReadSaid : Prop := fixedReadRow.holds Try.pinned (OpenSpec.ofChange fixedReadSpec)

/-- ITS FALSE NEIGHBOUR: 'it returns false'. Refute it at one input. -/
def fixedReadWrong : ChangeSpec := { name := "fixedRead", fn := fun _ => fun
  | [d1, d2] => { results := [.lit (.bool false)], args := [d1, d2] }
  | _ => none }
def FixedReadWrongFalsely : Prop := fixedReadRow.holds Try.pinned (OpenSpec.ofChange fixedReadWrong)

/-- 'threshinglaw09.FixedSplits': WHATEVER THE INPUT: true; the input reads as it did. -/
def fixedSplitsSpec : ChangeSpec := { name := "fixedSplits", fn := fun _ => fun
  | [d1, d2, d3] => { results := [.lit (.bool true)], args := [d1, d2, d3] }
  | _ => none }
def fixedSplitsRow : OpenClaim := { program := "ytjbnomkajfmlpaa", sum := "704537d14ac28abfadca6907d396d44ec5b0e864c8b4dbba19b393fc063448bb", func := "threshing/threshinglaw09.FixedSplits", spec := "fixedSplits", unfollowed := true, recurses := true, apart := false }
def FixedSplitsSaid : Prop := fixedSplitsRow.holds Try.pinned (OpenSpec.ofChange fixedSplitsSpec)

/-- ITS FALSE NEIGHBOUR: 'it returns false'. Refute it at one input. -/
def fixedSplitsWrong : ChangeSpec := { name := "fixedSplits", fn := fun _ => fun
  | [d1, d2, d3] => { results := [.lit (.bool false)], args := [d1, d2, d3] }
  | _ => none }
def FixedSplitsWrongFalsely : Prop := fixedSplitsRow.holds Try.pinned (OpenSpec.ofChange fixedSplitsWrong)

/-- 'threshinglaw09.FixedPlaces': WHATEVER THE INPUT: true; the input reads as it did. -/
def fixedPlacesSpec : ChangeSpec := { name := "fixedPlaces", fn := fun _ => fun
  | [d1, d2] => { results := [.lit (.bool true)], args := [d1, d2] }
  | _ => none }
def fixedPlacesRow : OpenClaim := { program := "ytjbnomkajfmlpaa", sum := "704537d14ac28abfadca6907d396d44ec5b0e864c8b4dbba19b393fc063448bb", func := "threshing/threshinglaw09.FixedPlaces", spec := "fixedPlaces", unfollowed := true, recurses := true, apart := false }
def FixedPlacesSaid : Prop := fixedPlacesRow.holds Try.pinned (OpenSpec.ofChange fixedPlacesSpec)

/-- ITS FALSE NEIGHBOUR: 'it returns false'. Refute it at one input. -/
def fixedPlacesWrong : ChangeSpec := { name := "fixedPlaces", fn := fun _ => fun
  | [d1, d2] => { results := [.lit (.bool false)], args := [d1, d2] }
  | _ => none }
def FixedPlacesWrongFalsely : Prop := fixedPlacesRow.holds Try.pinned (OpenSpec.ofChange fixedPlacesWrong)

/-- 'threshinglaw09.FixedCells': WHATEVER THE INPUT: true; the input reads as it did. -/
def fixedCellsSpec : ChangeSpec := { name := "fixedCells", fn := fun _ => fun
  | [d1, d2, d3] => { results := [.lit (.bool true)], args := [d1, d2, d3] }
  | _ => none }
def fixedCellsRow : OpenClaim := { program := "ytjbnomkajfmlpaa", sum := "704537d14ac28abfadca6907d396d44ec5b0e864c8b4dbba19b393fc063448bb", func := "threshing/threshinglaw09.FixedCells", spec := "fixedCells", inPlace := ["internal/abi.NoEscape", "internal/bytealg.MakeNoZero"], unfollowed := true, recurses := true, apart := false }
def FixedCellsSaid : Prop := fixedCellsRow.holds Try.pinned (OpenSpec.ofChange fixedCellsSpec)

/-- ITS FALSE NEIGHBOUR: 'it returns false'. Refute it at one input. -/
def fixedCellsWrong : ChangeSpec := { name := "fixedCells", fn := fun _ => fun
  | [d1, d2, d3] => { results := [.lit (.bool false)], args := [d1, d2, d3] }
  | _ => none }
def FixedCellsWrongFalsely : Prop := fixedCellsRow.holds Try.pinned (OpenSpec.ofChange fixedCellsWrong)

/- THE SECOND FORM. 'bulk': how many values and letters a reading holds, each counted each time it is reached (what is shared counts as often as it is met; a slice's spare places count too). A statement '..UptoSaid' is the law's where the arguments, and the package variables that the reading takes, are together of bulk at most 1048576: NARROWER than '..Said'. Prove '..Said' where nothing that the law and all that it calls make is longer than what came in: it says more and counts as full. Else prove '..UptoSaid'. A law counts once. -/
mutual
def uptoBulk {H : Type} : DataW H → Nat
  | .lit (.string bytes) => bytes.length + 1
  | .lit _ => 1
  | .nil => 1
  | .ptr d => uptoBulk d + 1
  | .slice elems spare => uptoBulkAll elems + uptoBulkAll spare + 1
  | .agg parts => uptoBulkAll parts + 1
  | .iface _ d => uptoBulk d + 1
  | .map entries => uptoBulkEntries entries + 1
  | .held _ => 1
def uptoBulkAll {H : Type} : List (DataW H) → Nat
  | [] => 0
  | d :: r => uptoBulk d + uptoBulkAll r
def uptoBulkEntries {H : Type} : List (Lit × DataW H) → Nat
  | [] => 0
  | x :: r => uptoBulkEntry x + uptoBulkEntries r
def uptoBulkEntry {H : Type} : Lit × DataW H → Nat
  | (.string bytes, d) => bytes.length + uptoBulk d + 1
  | (_, d) => uptoBulk d + 1
 end
def uptoSmall : (H : Type) → List (DataW H) → Bool := fun _ ds => decide (uptoBulkAll ds ≤ 1048576)
def OpenSpec.upto (s : _root_.Go.ChangeSpec) : _root_.Go.OpenSpec := { _root_.Go.OpenSpec.ofChange s with cond := some uptoSmall }

/-- 'threshinglaw09.FixedWrite', WHERE WHAT IT READS IS OF BULK AT MOST 1048576: true; the input reads as it did. -/
def fixedWriteUptoRow : OpenClaim := { program := "ytjbnomkajfmlpaa", sum := "704537d14ac28abfadca6907d396d44ec5b0e864c8b4dbba19b393fc063448bb", func := "threshing/threshinglaw09.FixedWrite", spec := "fixedWrite", unfollowed := true, recurses := true, apart := false, narrowed := true }
def FixedWriteUptoSaid : Prop := fixedWriteUptoRow.holds Try.pinned (OpenSpec.upto fixedWriteSpec)

/-- 'threshinglaw09.FixedScan', WHERE WHAT IT READS IS OF BULK AT MOST 1048576: true; the input reads as it did. -/
def fixedScanUptoRow : OpenClaim := { program := "ytjbnomkajfmlpaa", sum := "704537d14ac28abfadca6907d396d44ec5b0e864c8b4dbba19b393fc063448bb", func := "threshing/threshinglaw09.FixedScan", spec := "fixedScan", unfollowed := true, recurses := true, apart := false, narrowed := true }
def FixedScanUptoSaid : Prop := fixedScanUptoRow.holds Try.pinned (OpenSpec.upto fixedScanSpec)

/-- 'threshinglaw09.FixedBack', WHERE WHAT IT READS IS OF BULK AT MOST 1048576: true; the input reads as it did. -/
def fixedBackUptoRow : OpenClaim := { program := "ytjbnomkajfmlpaa", sum := "704537d14ac28abfadca6907d396d44ec5b0e864c8b4dbba19b393fc063448bb", func := "threshing/threshinglaw09.FixedBack", spec := "fixedBack", unfollowed := true, recurses := true, apart := false, narrowed := true }
def FixedBackUptoSaid : Prop := fixedBackUptoRow.holds Try.pinned (OpenSpec.upto fixedBackSpec)

/-- 'threshinglaw09.FixedRead', WHERE WHAT IT READS IS OF BULK AT MOST 1048576: true; the input reads as it did. -/
def fixedReadUptoRow : OpenClaim := { program := "ytjbnomkajfmlpaa", sum := "704537d14ac28abfadca6907d396d44ec5b0e864c8b4dbba19b393fc063448bb", func := "threshing/threshinglaw09.FixedRead", spec := "fixedRead", unfollowed := true, recurses := true, apart := false, narrowed := true }
def FixedReadUptoSaid : Prop := fixedReadUptoRow.holds Try.pinned (OpenSpec.upto fixedReadSpec)

/-- 'threshinglaw09.FixedSplits', WHERE WHAT IT READS IS OF BULK AT MOST 1048576: true; the input reads as it did. -/
def fixedSplitsUptoRow : OpenClaim := { program := "ytjbnomkajfmlpaa", sum := "704537d14ac28abfadca6907d396d44ec5b0e864c8b4dbba19b393fc063448bb", func := "threshing/threshinglaw09.FixedSplits", spec := "fixedSplits", unfollowed := true, recurses := true, apart := false, narrowed := true }
def FixedSplitsUptoSaid : Prop := fixedSplitsUptoRow.holds Try.pinned (OpenSpec.upto fixedSplitsSpec)

/-- 'threshinglaw09.FixedPlaces', WHERE WHAT IT READS IS OF BULK AT MOST 1048576: true; the input reads as it did. -/
def fixedPlacesUptoRow : OpenClaim := { program := "ytjbnomkajfmlpaa", sum := "704537d14ac28abfadca6907d396d44ec5b0e864c8b4dbba19b393fc063448bb", func := "threshing/threshinglaw09.FixedPlaces", spec := "fixedPlaces", unfollowed := true, recurses := true, apart := false, narrowed := true }
def FixedPlacesUptoSaid : Prop := fixedPlacesUptoRow.holds Try.pinned (OpenSpec.upto fixedPlacesSpec)

/-- 'threshinglaw09.FixedCells', WHERE WHAT IT READS IS OF BULK AT MOST 1048576: true; the input reads as it did. -/
def fixedCellsUptoRow : OpenClaim := { program := "ytjbnomkajfmlpaa", sum := "704537d14ac28abfadca6907d396d44ec5b0e864c8b4dbba19b393fc063448bb", func := "threshing/threshinglaw09.FixedCells", spec := "fixedCells", inPlace := ["internal/abi.NoEscape", "internal/bytealg.MakeNoZero"], unfollowed := true, recurses := true, apart := false, narrowed := true }
def FixedCellsUptoSaid : Prop := fixedCellsUptoRow.holds Try.pinned (OpenSpec.upto fixedCellsSpec)

end Rows
end Go.Proofs.Ytjbnomkajfmlpaa
