/-
  No cell of these rows narrows 'for every input' (looked for: loops, veiled, ifaces, maps, wideKeys, modest, calm, conditions, laid).
  DERIVED. THE GIVEN ROWS OF THIS SEAT. 3 by the template 'for every input the law returns true; each argument reads behind the call as it read before'; 0 by the template 'total and deterministic' (their statements: YtmpomnnaoggdkaaTotals.lean).
  GIVEN WITH THE SEED: the statements are not yours to turn. If you find one false, say at which input.
  Laid BY PROGRAM, IN A SANDBOX (cutbox-rows.mjs): the forced cells as the released guide's own fill.sh prints them over the translation 6cf46d318243d32d… (all of the seat's roots in one cut). By AI agents, Wed Nov 11 2026. No macro, syntax, notation, axiom, sorry.
-/
import Derived.Test.YtmpomnnaoggdkaaChecked
import GoSem.Claim
import GoSem.ClaimJoined
import GoSem.ClaimMapViews
import Derived.JoinedTies
import Derived.KernelRfl
namespace Go.Proofs.Ytmpomnnaoggdkaa
/- THE CELL 'sum', in the pinned program and in every row, IS THE sha256 OF THE DUMP (.gsa) THAT YtmpomnnaoggdkaaProg.lean LOADS. Nothing in Lean hashes anything: it is a label: what it is worth is what the hold of that sum in a sandbox is worth. -/
noncomputable def Try.pinned : Pinned := { name := "ytmpomnnaoggdkaa", sum := "6cf46d318243d32d1371530a4eae469809de428959ac43f476fcf1d92d70aa08", checked := Try.checked }
namespace Rows
def none {H : Type} : Left H := { results := [], args := [] }

/-- 'threshinglaw10.BundleWrite': WHATEVER THE INPUT: true; the input reads as it did. -/
def bundleWriteSpec : ChangeSpec := { name := "bundleWrite", fn := fun _ => fun
  | [d] => { results := [.lit (.bool true)], args := [d] }
  | _ => none }
def bundleWriteRow : OpenClaim := { program := "ytmpomnnaoggdkaa", sum := "6cf46d318243d32d1371530a4eae469809de428959ac43f476fcf1d92d70aa08", func := "threshing/threshinglaw10.BundleWrite", spec := "bundleWrite", unfollowed := true, recurses := true, apart := false }
def BundleWriteSaid : Prop := bundleWriteRow.holds Try.pinned (OpenSpec.ofChange bundleWriteSpec)

/-- ITS FALSE NEIGHBOUR: 'it returns false'. Refute it at one input. -/
def bundleWriteWrong : ChangeSpec := { name := "bundleWrite", fn := fun _ => fun
  | [d] => { results := [.lit (.bool false)], args := [d] }
  | _ => none }
def BundleWriteWrongFalsely : Prop := bundleWriteRow.holds Try.pinned (OpenSpec.ofChange bundleWriteWrong)

/-- 'threshinglaw10.BundleBack': WHATEVER THE INPUT: true; the input reads as it did. -/
def bundleBackSpec : ChangeSpec := { name := "bundleBack", fn := fun _ => fun
  | [d1, d2] => { results := [.lit (.bool true)], args := [d1, d2] }
  | _ => none }
def bundleBackRow : OpenClaim := { program := "ytmpomnnaoggdkaa", sum := "6cf46d318243d32d1371530a4eae469809de428959ac43f476fcf1d92d70aa08", func := "threshing/threshinglaw10.BundleBack", spec := "bundleBack", unfollowed := true, recurses := true, apart := false }
def BundleBackSaid : Prop := bundleBackRow.holds Try.pinned (OpenSpec.ofChange bundleBackSpec)

/-- ITS FALSE NEIGHBOUR: 'it returns false'. Refute it at one input. -/
def bundleBackWrong : ChangeSpec := { name := "bundleBack", fn := fun _ => fun
  | [d1, d2] => { results := [.lit (.bool false)], args := [d1, d2] }
  | _ => none }
def BundleBackWrongFalsely : Prop := bundleBackRow.holds Try.pinned (OpenSpec.ofChange bundleBackWrong)

/-- 'threshinglaw10.BundleFinds': WHATEVER THE INPUT: true; the input reads as it did. -/
def bundleFindsSpec : ChangeSpec := { name := "bundleFinds", fn := fun _ => fun
  | [d1, d2] => { results := [.lit (.bool true)], args := [d1, d2] }
  | _ => none }
def bundleFindsRow : OpenClaim := { program := "ytmpomnnaoggdkaa", sum := "6cf46d318243d32d1371530a4eae469809de428959ac43f476fcf1d92d70aa08", func := "threshing/threshinglaw10.BundleFinds", spec := "bundleFinds", unfollowed := true, recurses := true, apart := false }
def BundleFindsSaid : Prop := bundleFindsRow.holds Try.pinned (OpenSpec.ofChange bundleFindsSpec)

/-- ITS FALSE NEIGHBOUR: 'it returns false'. Refute it at one input. -/
def bundleFindsWrong : ChangeSpec := { name := "bundleFinds", fn := fun _ => fun
  | [d1, d2] => { results := [.lit (.bool false)], args := [d1, d2] }
  | _ => none }
def BundleFindsWrongFalsely : Prop := bundleFindsRow.holds Try.pinned (OpenSpec.ofChange bundleFindsWrong)

/- THE SECOND FORM. 'bulk': how many values and letters a reading holds, each counted each time it is reached (what is shared counts as often as it is met; a slice's spare places count too). A statement '..UptoSaid' is the law's where the arguments, and the package variables that the reading takes, are together of bulk at most 1048576: NARROWER than '..Said'. Prove '..Said' where nothing that the law and all that it calls make is longer than what came in: it says more and counts as full. Else prove '..UptoSaid'. A law counts once. -/
mutual
def uptoBulk {H : Type} : DataW H → Nat
  | .lit (.string bytes) => bytes.length + 1
  | .lit _ => 1
  | .nil => 1
  | .ptr d => uptoBulk d + 1
  | .slice elems spare => uptoBulkAll elems + uptoBulkAll spare + 1
  | .agg parts => uptoBulkAll parts + 1
  | .iface _ d => uptoBulk d + 1
  | .map entries => uptoBulkEntries entries + 1
  | .held _ => 1
def uptoBulkAll {H : Type} : List (DataW H) → Nat
  | [] => 0
  | d :: r => uptoBulk d + uptoBulkAll r
def uptoBulkEntries {H : Type} : List (Lit × DataW H) → Nat
  | [] => 0
  | x :: r => uptoBulkEntry x + uptoBulkEntries r
def uptoBulkEntry {H : Type} : Lit × DataW H → Nat
  | (.string bytes, d) => bytes.length + uptoBulk d + 1
  | (_, d) => uptoBulk d + 1
 end
def uptoSmall : (H : Type) → List (DataW H) → Bool := fun _ ds => decide (uptoBulkAll ds ≤ 1048576)
def OpenSpec.upto (s : _root_.Go.ChangeSpec) : _root_.Go.OpenSpec := { _root_.Go.OpenSpec.ofChange s with cond := some uptoSmall }

/-- 'threshinglaw10.BundleWrite', WHERE WHAT IT READS IS OF BULK AT MOST 1048576: true; the input reads as it did. -/
def bundleWriteUptoRow : OpenClaim := { program := "ytmpomnnaoggdkaa", sum := "6cf46d318243d32d1371530a4eae469809de428959ac43f476fcf1d92d70aa08", func := "threshing/threshinglaw10.BundleWrite", spec := "bundleWrite", unfollowed := true, recurses := true, apart := false, narrowed := true }
def BundleWriteUptoSaid : Prop := bundleWriteUptoRow.holds Try.pinned (OpenSpec.upto bundleWriteSpec)

/-- 'threshinglaw10.BundleBack', WHERE WHAT IT READS IS OF BULK AT MOST 1048576: true; the input reads as it did. -/
def bundleBackUptoRow : OpenClaim := { program := "ytmpomnnaoggdkaa", sum := "6cf46d318243d32d1371530a4eae469809de428959ac43f476fcf1d92d70aa08", func := "threshing/threshinglaw10.BundleBack", spec := "bundleBack", unfollowed := true, recurses := true, apart := false, narrowed := true }
def BundleBackUptoSaid : Prop := bundleBackUptoRow.holds Try.pinned (OpenSpec.upto bundleBackSpec)

/-- 'threshinglaw10.BundleFinds', WHERE WHAT IT READS IS OF BULK AT MOST 1048576: true; the input reads as it did. -/
def bundleFindsUptoRow : OpenClaim := { program := "ytmpomnnaoggdkaa", sum := "6cf46d318243d32d1371530a4eae469809de428959ac43f476fcf1d92d70aa08", func := "threshing/threshinglaw10.BundleFinds", spec := "bundleFinds", unfollowed := true, recurses := true, apart := false, narrowed := true }
def BundleFindsUptoSaid : Prop := bundleFindsUptoRow.holds Try.pinned (OpenSpec.upto bundleFindsSpec)

end Rows
end Go.Proofs.Ytmpomnnaoggdkaa
