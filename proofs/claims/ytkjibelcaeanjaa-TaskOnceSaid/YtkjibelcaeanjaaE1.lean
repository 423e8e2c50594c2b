/- A logic of plain values over the model's walk, part 1: values as data, how a value in memory reads as one, and what a step may turn. -/
import Derived.Orders
import Derived.Below
import Derived.Laws.AppendOwn
namespace Go.Proofs.Ytkjibelcaeanjaa.E
open Go Go.RowKit
set_option linter.unusedVariables false
/-- A value as data. A slice is the list of its elements (sz cells each); own: append may go on in place. ptr, row: into a block of H. ip: an element of a list that nobody writes. -/
inductive PV where
  | int (k : IntKind) (n : Int)
  | bool (b : Bool)
  | str (s : List Int)
  | unit
  | lst (sz : Nat) (xs : List PV) (own : Bool)
  | agg (cs : List PV)
  | tup (vs : List PV)
  | ptr (a : Option (Nat × Nat))
  | ip (sz : Nat) (xs : List PV) (i off : Nat)
  | row (b off len cap : Nat)
  | map (b : Nat)
  | fn (f : Fn) (first cap : List PV)
  | nilf
  | nlit (sz : Nat) (xs : List PV)
  deriving Inhabited
/-- What may be in one cell. -/
def PV.isCell : PV → Bool
  | .unit | .agg _ | .tup _ => false
  | _ => true
inductive Mode where
  | imm
  | tail (f : Nat)
  | mut
  deriving DecidableEq
abbrev Ghost := Nat → Mode
def bytesOf (s : ByteArray) : List Int := s.data.toList.map fun c => (c.toNat : Int)
/-- n cells of a block, that nobody will write. -/
def Readable (w : World) (g : Ghost) (b off n : Nat) (vs : List Value) : Prop :=
  ∃ c e fz, w.heap[b]? = some (.cells c e fz) ∧ (c.toList.drop off).take n = vs ∧ vs.length = n ∧ (g b = .imm ∨ ∃ f, g b = .tail f ∧ off + n ≤ f)
/-- The cells behind a slice are free. -/
def TailOk (w : World) (g : Ghost) (A : Option Addr) (len cap sz : Nat) : Prop :=
  0 < sz ∧ ∃ b c e, A = some ⟨b, 0, none⟩ ∧ w.heap[b]? = some (.cells c e (0, 0)) ∧ g b = .tail (len * sz) ∧ cap * sz ≤ c.size
mutual
/-- How a value reads; o: what it owns is looked at. -/
def VR (o : Bool) (w : World) (g : Ghost) : PV → Value → Prop
  | .int k n, v => v = .int k n
  | .bool b, v => v = .bool b
  | .str s, v => ∃ t, v = .string t ∧ bytesOf t = s
  | .unit, _ => True
  | .lst sz xs own, v => ∃ A cap, v = .slice A xs.length cap ∧ xs.length ≤ cap ∧ cap ≤ maxLen ∧
      (xs = [] ∨ ∃ b off vs, A = some ⟨b, off, none⟩ ∧ Readable w g b off (xs.length * sz) vs ∧ VRe w g sz xs vs) ∧
      (o = true → own = true → xs.length < cap → TailOk w g A xs.length cap sz)
  | .agg cs, v => cs.all PV.isCell = true ∧ ∃ vs, v = .agg vs ∧ VRl o w g cs vs.toList
  | .tup cs, v => ∃ vs, v = .tuple vs ∧ VRl o w g cs vs.toList
  | .ptr a, v => v = .pointer (a.map fun p => ⟨p.1, p.2, none⟩)
  | .ip sz xs i off, v => ∃ b base vs, v = .pointer (some ⟨b, base + i * sz + off, none⟩) ∧ i < xs.length ∧ Readable w g b base (xs.length * sz) vs ∧ VRe w g sz xs vs
  | .row b off len cap, v => v = .slice (some ⟨b, off, none⟩) len cap
  | .map b, v => v = .map (some b)
  | .fn f first cap, v => ∃ fs cs, v = .func f fs cs ∧ VRl false w g first fs.toList ∧ VRl false w g cap cs.toList
  | .nilf, v => v = .nilFunc
  | .nlit sz xs, v => ∃ b vs, v = .slice (some ⟨b, 0, none⟩) xs.length xs.length ∧ xs.length ≤ maxLen ∧ Readable w g b 0 (xs.length * sz) vs ∧ VRe w g sz xs vs ∧
      (o = true → ∃ c e, w.heap[b]? = some (.cells c e (0, 0)) ∧ g b = .tail (xs.length * sz))
def VRl (o : Bool) (w : World) (g : Ghost) : List PV → List Value → Prop
  | [], vs => vs = []
  | x :: xs, vs => ∃ v vs', vs = v :: vs' ∧ VR o w g x v ∧ VRl o w g xs vs'
/-- Elements, cell by cell. -/
def VRe (w : World) (g : Ghost) (sz : Nat) : List PV → List Value → Prop
  | [], vs => vs = []
  | .agg cs :: xs, vs => cs.all PV.isCell = true ∧ cs.length = sz ∧ VRl false w g cs (vs.take sz) ∧ VRe w g sz xs (vs.drop sz)
  | x :: xs, vs => x.isCell = true ∧ sz = 1 ∧ ∃ v vs', vs = v :: vs' ∧ VR false w g x v ∧ VRe w g sz xs vs'
end
mutual
/-- The blocks that a value owns. -/
def toks : PV → Value → List Nat
  | .lst _ xs true, .slice (some a) _ cap => if xs.length < cap then [a.block] else []
  | .nlit _ _, .slice (some a) _ _ => [a.block]
  | .agg cs, .agg vs => toksL cs vs.toList
  | .tup cs, .tuple vs => toksL cs vs.toList
  | _, _ => []
def toksL : List PV → List Value → List Nat
  | x :: xs, v :: vs => toks x v ++ toksL xs vs
  | _, _ => []
end
mutual
/-- The same value without what it owns. -/
def lend : PV → PV
  | .lst sz xs _ => .lst sz xs false
  | .nlit sz xs => .lst sz xs false
  | .agg cs => .agg (lendL cs)
  | .tup cs => .tup (lendL cs)
  | v => v
def lendL : List PV → List PV
  | [] => []
  | x :: xs => lend x :: lendL xs
end
end Go.Proofs.Ytkjibelcaeanjaa.E
