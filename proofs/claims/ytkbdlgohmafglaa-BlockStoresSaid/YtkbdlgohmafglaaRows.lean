/-
  No cell of these rows narrows 'for every input' (looked for: loops, veiled, ifaces, maps, wideKeys, modest, calm, conditions, laid).
  DERIVED. THE GIVEN ROWS OF THIS SEAT. 4 by the template 'for every input the law returns true; each argument reads behind the call as it read before'; 0 by the template 'total and deterministic' (their statements: YtkbdlgohmafglaaTotals.lean).
  GIVEN WITH THE SEED: the statements are not yours to turn. If you find one false, say at which input.
  Laid BY PROGRAM, IN A SANDBOX (cutbox-rows.mjs): the forced cells as the released guide's own fill.sh prints them over the translation 3ce16fbb185d4b72… (all of the seat's roots in one cut). By AI agents, Wed Nov 11 2026. No macro, syntax, notation, axiom, sorry.
-/
import Derived.Test.YtkbdlgohmafglaaChecked
import GoSem.Claim
import GoSem.ClaimJoined
import GoSem.ClaimMapViews
import Derived.JoinedTies
import Derived.KernelRfl
namespace Go.Proofs.Ytkbdlgohmafglaa
/- THE CELL 'sum', in the pinned program and in every row, IS THE sha256 OF THE DUMP (.gsa) THAT YtkbdlgohmafglaaProg.lean LOADS. Nothing in Lean hashes anything: it is a label: what it is worth is what the hold of that sum in a sandbox is worth. -/
noncomputable def Try.pinned : Pinned := { name := "ytkbdlgohmafglaa", sum := "3ce16fbb185d4b72161dfb4c05ad215675d92164dd5e5d9d308a40dcf67aa3a1", checked := Try.checked }
namespace Rows
def none {H : Type} : Left H := { results := [], args := [] }

/-- 'threshinglaw24.BlockGrows': WHATEVER THE INPUT: true; the input reads as it did. -/
def blockGrowsSpec : ChangeSpec := { name := "blockGrows", fn := fun _ => fun
  | [d1, d2] => { results := [.lit (.bool true)], args := [d1, d2] }
  | _ => none }
def blockGrowsRow : OpenClaim := { program := "ytkbdlgohmafglaa", sum := "3ce16fbb185d4b72161dfb4c05ad215675d92164dd5e5d9d308a40dcf67aa3a1", func := "threshing/threshinglaw24.BlockGrows", spec := "blockGrows", unfollowed := true, recurses := true, apart := false }
def BlockGrowsSaid : Prop := blockGrowsRow.holds Try.pinned (OpenSpec.ofChange blockGrowsSpec)

/-- ITS FALSE NEIGHBOUR: 'it returns false'. Refute it at one input. -/
def blockGrowsWrong : ChangeSpec := { name := "blockGrows", fn := fun _ => fun
  | [d1, d2] => { results := [.lit (.bool false)], args := [d1, d2] }
  | _ => none }
def BlockGrowsWrongFalsely : Prop := blockGrowsRow.holds Try.pinned (OpenSpec.ofChange blockGrowsWrong)

/-- 'threshinglaw24.BlockSpoilt': WHATEVER THE INPUT: true; the input reads as it did. -/
def blockSpoiltSpec : ChangeSpec := { name := "blockSpoilt", fn := fun _ => fun
  | [d1, d2, d3] => { results := [.lit (.bool true)], args := [d1, d2, d3] }
  | _ => none }
def blockSpoiltRow : OpenClaim := { program := "ytkbdlgohmafglaa", sum := "3ce16fbb185d4b72161dfb4c05ad215675d92164dd5e5d9d308a40dcf67aa3a1", func := "threshing/threshinglaw24.BlockSpoilt", spec := "blockSpoilt", unfollowed := true, recurses := true, apart := false }
def BlockSpoiltSaid : Prop := blockSpoiltRow.holds Try.pinned (OpenSpec.ofChange blockSpoiltSpec)

/-- ITS FALSE NEIGHBOUR: 'it returns false'. Refute it at one input. -/
def blockSpoiltWrong : ChangeSpec := { name := "blockSpoilt", fn := fun _ => fun
  | [d1, d2, d3] => { results := [.lit (.bool false)], args := [d1, d2, d3] }
  | _ => none }
def BlockSpoiltWrongFalsely : Prop := blockSpoiltRow.holds Try.pinned (OpenSpec.ofChange blockSpoiltWrong)

/-- 'threshinglaw24.BlockStores': WHATEVER THE INPUT: true; the input reads as it did. -/
def blockStoresSpec : ChangeSpec := { name := "blockStores", fn := fun _ => fun
  | [d1, d2, d3] => { results := [.lit (.bool true)], args := [d1, d2, d3] }
  | _ => none }
def blockStoresRow : OpenClaim := { program := "ytkbdlgohmafglaa", sum := "3ce16fbb185d4b72161dfb4c05ad215675d92164dd5e5d9d308a40dcf67aa3a1", func := "threshing/threshinglaw24.BlockStores", spec := "blockStores", unfollowed := true, recurses := true, apart := false }
def BlockStoresSaid : Prop := blockStoresRow.holds Try.pinned (OpenSpec.ofChange blockStoresSpec)

/-- ITS FALSE NEIGHBOUR: 'it returns false'. Refute it at one input. -/
def blockStoresWrong : ChangeSpec := { name := "blockStores", fn := fun _ => fun
  | [d1, d2, d3] => { results := [.lit (.bool false)], args := [d1, d2, d3] }
  | _ => none }
def BlockStoresWrongFalsely : Prop := blockStoresRow.holds Try.pinned (OpenSpec.ofChange blockStoresWrong)

/-- 'threshinglaw24.BlockBack': WHATEVER THE INPUT: true; the input reads as it did. -/
def blockBackSpec : ChangeSpec := { name := "blockBack", fn := fun _ => fun
  | [d1, d2, d3] => { results := [.lit (.bool true)], args := [d1, d2, d3] }
  | _ => none }
def blockBackRow : OpenClaim := { program := "ytkbdlgohmafglaa", sum := "3ce16fbb185d4b72161dfb4c05ad215675d92164dd5e5d9d308a40dcf67aa3a1", func := "threshing/threshinglaw24.BlockBack", spec := "blockBack", unfollowed := true, recurses := true, apart := false }
def BlockBackSaid : Prop := blockBackRow.holds Try.pinned (OpenSpec.ofChange blockBackSpec)

/-- ITS FALSE NEIGHBOUR: 'it returns false'. Refute it at one input. -/
def blockBackWrong : ChangeSpec := { name := "blockBack", fn := fun _ => fun
  | [d1, d2, d3] => { results := [.lit (.bool false)], args := [d1, d2, d3] }
  | _ => none }
def BlockBackWrongFalsely : Prop := blockBackRow.holds Try.pinned (OpenSpec.ofChange blockBackWrong)

/- THE SECOND FORM. 'bulk': how many values and letters a reading holds, each counted each time it is reached (what is shared counts as often as it is met; a slice's spare places count too). A statement '..UptoSaid' is the law's where the arguments, and the package variables that the reading takes, are together of bulk at most 1048576: NARROWER than '..Said'. Prove '..Said' where nothing that the law and all that it calls make is longer than what came in: it says more and counts as full. Else prove '..UptoSaid'. A law counts once. -/
mutual
def uptoBulk {H : Type} : DataW H → Nat
  | .lit (.string bytes) => bytes.length + 1
  | .lit _ => 1
  | .nil => 1
  | .ptr d => uptoBulk d + 1
  | .slice elems spare => uptoBulkAll elems + uptoBulkAll spare + 1
  | .agg parts => uptoBulkAll parts + 1
  | .iface _ d => uptoBulk d + 1
  | .map entries => uptoBulkEntries entries + 1
  | .held _ => 1
def uptoBulkAll {H : Type} : List (DataW H) → Nat
  | [] => 0
  | d :: r => uptoBulk d + uptoBulkAll r
def uptoBulkEntries {H : Type} : List (Lit × DataW H) → Nat
  | [] => 0
  | x :: r => uptoBulkEntry x + uptoBulkEntries r
def uptoBulkEntry {H : Type} : Lit × DataW H → Nat
  | (.string bytes, d) => bytes.length + uptoBulk d + 1
  | (_, d) => uptoBulk d + 1
 end
def uptoSmall : (H : Type) → List (DataW H) → Bool := fun _ ds => decide (uptoBulkAll ds ≤ 1048576)
def OpenSpec.upto (s : _root_.Go.ChangeSpec) : _root_.Go.OpenSpec := { _root_.Go.OpenSpec.ofChange s with cond := some uptoSmall }

/-- 'threshinglaw24.BlockGrows', WHERE WHAT IT READS IS OF BULK AT MOST 1048576: true; the input reads as it did. -/
def blockGrowsUptoRow : OpenClaim := { program := "ytkbdlgohmafglaa", sum := "3ce16fbb185d4b72161dfb4c05ad215675d92164dd5e5d9d308a40dcf67aa3a1", func := "threshing/threshinglaw24.BlockGrows", spec := "blockGrows", unfollowed := true, recurses := true, apart := false, narrowed := true }
def BlockGrowsUptoSaid : Prop := blockGrowsUptoRow.holds Try.pinned (OpenSpec.upto blockGrowsSpec)

/-- 'threshinglaw24.BlockSpoilt', WHERE WHAT IT READS IS OF BULK AT MOST 1048576: true; the input reads as it did. -/
def blockSpoiltUptoRow : OpenClaim := { program := "ytkbdlgohmafglaa", sum := "3ce16fbb185d4b72161dfb4c05ad215675d92164dd5e5d9d308a40dcf67aa3a1", func := "threshing/threshinglaw24.BlockSpoilt", spec := "blockSpoilt", unfollowed := true, recurses := true, apart := false, narrowed := true }
def BlockSpoiltUptoSaid : Prop := blockSpoiltUptoRow.holds Try.pinned (OpenSpec.upto blockSpoiltSpec)

/-- 'threshinglaw24.BlockStores', WHERE WHAT IT READS IS OF BULK AT MOST 1048576: true; the input reads as it did. -/
def blockStoresUptoRow : OpenClaim := { program := "ytkbdlgohmafglaa", sum := "3ce16fbb185d4b72161dfb4c05ad215675d92164dd5e5d9d308a40dcf67aa3a1", func := "threshing/threshinglaw24.BlockStores", spec := "blockStores", unfollowed := true, recurses := true, apart := false, narrowed := true }
def BlockStoresUptoSaid : Prop := blockStoresUptoRow.holds Try.pinned (OpenSpec.upto blockStoresSpec)

/-- 'threshinglaw24.BlockBack', WHERE WHAT IT READS IS OF BULK AT MOST 1048576: true; the input reads as it did. -/
def blockBackUptoRow : OpenClaim := { program := "ytkbdlgohmafglaa", sum := "3ce16fbb185d4b72161dfb4c05ad215675d92164dd5e5d9d308a40dcf67aa3a1", func := "threshing/threshinglaw24.BlockBack", spec := "blockBack", unfollowed := true, recurses := true, apart := false, narrowed := true }
def BlockBackUptoSaid : Prop := blockBackUptoRow.holds Try.pinned (OpenSpec.upto blockBackSpec)

end Rows
end Go.Proofs.Ytkbdlgohmafglaa
