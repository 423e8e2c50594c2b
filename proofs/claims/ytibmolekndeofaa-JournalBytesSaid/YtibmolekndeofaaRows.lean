/-
  No cell of these rows narrows 'for every input' (looked for: loops, veiled, ifaces, maps, wideKeys, modest, calm, conditions, laid).
  DERIVED. THE GIVEN ROWS OF THIS SEAT. 4 by the template 'for every input the law returns true; each argument reads behind the call as it read before'; 0 by the template 'total and deterministic' (their statements: YtibmolekndeofaaTotals.lean).
  GIVEN WITH THE SEED: the statements are not yours to turn. If you find one false, say at which input.
  Laid BY PROGRAM, IN A SANDBOX (cutbox-rows.mjs): the forced cells as the released guide's own fill.sh prints them over the translation 2febebe87a55df19… (all of the seat's roots in one cut). By AI agents, Wed Nov 11 2026. No macro, syntax, notation, axiom, sorry.
-/
import Derived.Test.YtibmolekndeofaaChecked
import GoSem.Claim
import GoSem.ClaimJoined
import GoSem.ClaimMapViews
import Derived.JoinedTies
import Derived.KernelRfl
namespace Go.Proofs.Ytibmolekndeofaa
/- THE CELL 'sum', in the pinned program and in every row, IS THE sha256 OF THE DUMP (.gsa) THAT YtibmolekndeofaaProg.lean LOADS. Nothing in Lean hashes anything: it is a label: what it is worth is what the hold of that sum in a sandbox is worth. -/
noncomputable def Try.pinned : Pinned := { name := "ytibmolekndeofaa", sum := "2febebe87a55df19c30bede6ad1f7c675f96faa6d9017707480244bc9c9295c1", checked := Try.checked }
namespace Rows
def none {H : Type} : Left H := { results := [], args := [] }

/-- 'threshinglaw26.JournalTorn': WHATEVER THE INPUT: true; the input reads as it did. -/
def journalTornSpec : ChangeSpec := { name := "journalTorn", fn := fun _ => fun
  | [d1, d2, d3] => { results := [.lit (.bool true)], args := [d1, d2, d3] }
  | _ => none }
def journalTornRow : OpenClaim := { program := "ytibmolekndeofaa", sum := "2febebe87a55df19c30bede6ad1f7c675f96faa6d9017707480244bc9c9295c1", func := "threshing/threshinglaw26.JournalTorn", spec := "journalTorn", unfollowed := true, recurses := true, apart := false }
def JournalTornSaid : Prop := journalTornRow.holds Try.pinned (OpenSpec.ofChange journalTornSpec)

/-- ITS FALSE NEIGHBOUR: 'it returns false'. Refute it at one input. -/
def journalTornWrong : ChangeSpec := { name := "journalTorn", fn := fun _ => fun
  | [d1, d2, d3] => { results := [.lit (.bool false)], args := [d1, d2, d3] }
  | _ => none }
def JournalTornWrongFalsely : Prop := journalTornRow.holds Try.pinned (OpenSpec.ofChange journalTornWrong)

/-- 'threshinglaw26.JournalOnce': WHATEVER THE INPUT: true; the input reads as it did. -/
def journalOnceSpec : ChangeSpec := { name := "journalOnce", fn := fun _ => fun
  | [d] => { results := [.lit (.bool true)], args := [d] }
  | _ => none }
def journalOnceRow : OpenClaim := { program := "ytibmolekndeofaa", sum := "2febebe87a55df19c30bede6ad1f7c675f96faa6d9017707480244bc9c9295c1", func := "threshing/threshinglaw26.JournalOnce", spec := "journalOnce", unfollowed := true, recurses := true, apart := false }
def JournalOnceSaid : Prop := journalOnceRow.holds Try.pinned (OpenSpec.ofChange journalOnceSpec)

/-- ITS FALSE NEIGHBOUR: 'it returns false'. Refute it at one input. -/
def journalOnceWrong : ChangeSpec := { name := "journalOnce", fn := fun _ => fun
  | [d] => { results := [.lit (.bool false)], args := [d] }
  | _ => none }
def JournalOnceWrongFalsely : Prop := journalOnceRow.holds Try.pinned (OpenSpec.ofChange journalOnceWrong)

/-- 'threshinglaw26.JournalBytes': WHATEVER THE INPUT: true; the input reads as it did. -/
def journalBytesSpec : ChangeSpec := { name := "journalBytes", fn := fun _ => fun
  | [d1, d2] => { results := [.lit (.bool true)], args := [d1, d2] }
  | _ => none }
def journalBytesRow : OpenClaim := { program := "ytibmolekndeofaa", sum := "2febebe87a55df19c30bede6ad1f7c675f96faa6d9017707480244bc9c9295c1", func := "threshing/threshinglaw26.JournalBytes", spec := "journalBytes", unfollowed := true, recurses := true, apart := false }
def JournalBytesSaid : Prop := journalBytesRow.holds Try.pinned (OpenSpec.ofChange journalBytesSpec)

/-- ITS FALSE NEIGHBOUR: 'it returns false'. Refute it at one input. -/
def journalBytesWrong : ChangeSpec := { name := "journalBytes", fn := fun _ => fun
  | [d1, d2] => { results := [.lit (.bool false)], args := [d1, d2] }
  | _ => none }
def JournalBytesWrongFalsely : Prop := journalBytesRow.holds Try.pinned (OpenSpec.ofChange journalBytesWrong)

/-- 'threshinglaw26.JournalComes': WHATEVER THE INPUT: true; the input reads as it did. -/
def journalComesSpec : ChangeSpec := { name := "journalComes", fn := fun _ => fun
  | [d1, d2] => { results := [.lit (.bool true)], args := [d1, d2] }
  | _ => none }
def journalComesRow : OpenClaim := { program := "ytibmolekndeofaa", sum := "2febebe87a55df19c30bede6ad1f7c675f96faa6d9017707480244bc9c9295c1", func := "threshing/threshinglaw26.JournalComes", spec := "journalComes", unfollowed := true, recurses := true, apart := false }
def JournalComesSaid : Prop := journalComesRow.holds Try.pinned (OpenSpec.ofChange journalComesSpec)

/-- ITS FALSE NEIGHBOUR: 'it returns false'. Refute it at one input. -/
def journalComesWrong : ChangeSpec := { name := "journalComes", fn := fun _ => fun
  | [d1, d2] => { results := [.lit (.bool false)], args := [d1, d2] }
  | _ => none }
def JournalComesWrongFalsely : Prop := journalComesRow.holds Try.pinned (OpenSpec.ofChange journalComesWrong)

/- THE SECOND FORM. 'bulk': how many values and letters a reading holds, each counted each time it is reached (what is shared counts as often as it is met; a slice's spare places count too). A statement '..UptoSaid' is the law's where the arguments, and the package variables that the reading takes, are together of bulk at most 1048576: NARROWER than '..Said'. Prove '..Said' where nothing that the law and all that it calls make is longer than what came in: it says more and counts as full. Else prove '..UptoSaid'. A law counts once. -/
mutual
def uptoBulk {H : Type} : DataW H → Nat
  | .lit (.string bytes) => bytes.length + 1
  | .lit _ => 1
  | .nil => 1
  | .ptr d => uptoBulk d + 1
  | .slice elems spare => uptoBulkAll elems + uptoBulkAll spare + 1
  | .agg parts => uptoBulkAll parts + 1
  | .iface _ d => uptoBulk d + 1
  | .map entries => uptoBulkEntries entries + 1
  | .held _ => 1
def uptoBulkAll {H : Type} : List (DataW H) → Nat
  | [] => 0
  | d :: r => uptoBulk d + uptoBulkAll r
def uptoBulkEntries {H : Type} : List (Lit × DataW H) → Nat
  | [] => 0
  | x :: r => uptoBulkEntry x + uptoBulkEntries r
def uptoBulkEntry {H : Type} : Lit × DataW H → Nat
  | (.string bytes, d) => bytes.length + uptoBulk d + 1
  | (_, d) => uptoBulk d + 1
 end
def uptoSmall : (H : Type) → List (DataW H) → Bool := fun _ ds => decide (uptoBulkAll ds ≤ 1048576)
def OpenSpec.upto (s : _root_.Go.ChangeSpec) : _root_.Go.OpenSpec := { _root_.Go.OpenSpec.ofChange s with cond := some uptoSmall }

/-- 'threshinglaw26.JournalTorn', WHERE WHAT IT READS IS OF BULK AT MOST 1048576: true; the input reads as it did. -/
def journalTornUptoRow : OpenClaim := { program := "ytibmolekndeofaa", sum := "2febebe87a55df19c30bede6ad1f7c675f96faa6d9017707480244bc9c9295c1", func := "threshing/threshinglaw26.JournalTorn", spec := "journalTorn", unfollowed := true, recurses := true, apart := false, narrowed := true }
def JournalTornUptoSaid : Prop := journalTornUptoRow.holds Try.pinned (OpenSpec.upto journalTornSpec)

/-- 'threshinglaw26.JournalOnce', WHERE WHAT IT READS IS OF BULK AT MOST 1048576: true; the input reads as it did. -/
def journalOnceUptoRow : OpenClaim := { program := "ytibmolekndeofaa", sum := "2febebe87a55df19c30bede6ad1f7c675f96faa6d9017707480244bc9c9295c1", func := "threshing/threshinglaw26.JournalOnce", spec := "journalOnce", unfollowed := true, recurses := true, apart := false, narrowed := true }
def JournalOnceUptoSaid : Prop := journalOnceUptoRow.holds Try.pinned (OpenSpec.upto journalOnceSpec)

/-- 'threshinglaw26.JournalBytes', WHERE WHAT IT READS IS OF BULK AT MOST 1048576: true; the input reads as it did. -/
def journalBytesUptoRow : OpenClaim := { program := "ytibmolekndeofaa", sum := "2febebe87a55df19c30bede6ad1f7c675f96faa6d9017707480244bc9c9295c1", func := "threshing/threshinglaw26.JournalBytes", spec := "journalBytes", unfollowed := true, recurses := true, apart := false, narrowed := true }
def JournalBytesUptoSaid : Prop := journalBytesUptoRow.holds Try.pinned (OpenSpec.upto journalBytesSpec)

/-- 'threshinglaw26.JournalComes', WHERE WHAT IT READS IS OF BULK AT MOST 1048576: true; the input reads as it did. -/
def journalComesUptoRow : OpenClaim := { program := "ytibmolekndeofaa", sum := "2febebe87a55df19c30bede6ad1f7c675f96faa6d9017707480244bc9c9295c1", func := "threshing/threshinglaw26.JournalComes", spec := "journalComes", unfollowed := true, recurses := true, apart := false, narrowed := true }
def JournalComesUptoSaid : Prop := journalComesUptoRow.holds Try.pinned (OpenSpec.upto journalComesSpec)

end Rows
end Go.Proofs.Ytibmolekndeofaa
