/- A logic of plain values over the model's walk, part 1. -/
import Derived.Below
import Derived.Laws.AppendOwn
import Derived.Laws.BytesString
import Derived.Laws.Cells
import Derived.Laws.Strings
import Derived.Laws.StructEq
import Derived.Orders
/- A logic of plain values over the model's walk, part 1: values as data, how a value in memory reads as one, and what a step may turn. -/
namespace Go.Proofs.YtjcjbpbkakfjdaaDoor.E
open Go Go.RowKit
set_option linter.unusedVariables false
inductive PV where
  | int (k : IntKind) (n : Int)
  | bool (b : Bool)
  | str (s : List Int)
  | unit
  | lst (sz : Nat) (xs : List PV) (own : Bool)
  | agg (cs : List PV)
  | tup (vs : List PV)
  | ptr (a : Option (Nat × Nat))
  | ip (sz : Nat) (xs : List PV) (i off : Nat)
  | row (b off len cap : Nat)
  | map (b : Nat)
  | fn (f : Fn) (first cap : List PV)
  | nilf
  | nlit (sz : Nat) (xs : List PV)
  | xl (n : Nat) (cs : List PV) (z : PV)
  | sh (n : Nat)
  | mpI (ks vs : List PV)
  deriving Inhabited
def PV.isCell : PV → Bool
  | .unit | .agg _ | .tup _ => false
  | _ => true
inductive Mode where
  | imm
  | tail (f : Nat)
  | mut
  deriving DecidableEq
abbrev Ghost := Nat → Mode
def bytesOf (s : ByteArray) : List Int := s.data.toList.map fun c => (c.toNat : Int)
def Readable (w : World) (g : Ghost) (b off n : Nat) (vs : List Value) : Prop :=
  vs.length = n ∧ (n = 0 ∨ ∃ c e fz, w.heap[b]? = some (.cells c e fz) ∧ (c.toList.drop off).take n = vs ∧ (g b = .imm ∨ ∃ f, g b = .tail f ∧ off + n ≤ f))
def TailOk (w : World) (g : Ghost) (A : Option Addr) (len cap sz : Nat) : Prop :=
  0 < sz ∧ ∃ b c e, A = some ⟨b, 0, none⟩ ∧ w.heap[b]? = some (.cells c e (0, 0)) ∧ g b = .tail (len * sz) ∧ cap * sz ≤ c.size
mutual
def VR (o : Bool) (w : World) (g : Ghost) : PV → Value → Prop
  | .int k n, v => v = .int k n
  | .bool b, v => v = .bool b
  | .str s, v => ∃ t, v = .string t ∧ bytesOf t = s
  | .unit, _ => True
  | .lst sz xs own, v => ∃ A cap, v = .slice A xs.length cap ∧ xs.length ≤ cap ∧ cap ≤ maxLen ∧
      (xs = [] ∨ ∃ b off vs, A = some ⟨b, off, none⟩ ∧ Readable w g b off (xs.length * sz) vs ∧ VRe w g sz xs vs) ∧
      (o = true → own = true → xs.length < cap → TailOk w g A xs.length cap sz)
  | .agg cs, v => cs.all PV.isCell = true ∧ ∃ vs, v = .agg vs ∧ VRl o w g cs vs.toList
  | .tup cs, v => ∃ vs, v = .tuple vs ∧ VRl o w g cs vs.toList
  | .ptr a, v => v = .pointer (a.map fun p => ⟨p.1, p.2, none⟩)
  | .ip sz xs i off, v => ∃ b base vs, v = .pointer (some ⟨b, base + i * sz + off, none⟩) ∧ i < xs.length ∧ Readable w g b base (xs.length * sz) vs ∧ VRe w g sz xs vs
  | .row b off len cap, v => v = .slice (some ⟨b, off, none⟩) len cap
  | .map b, v => v = .map (some b)
  | .fn f first cap, v => ∃ fs cs, v = .func f fs cs ∧ VRl false w g first fs.toList ∧ VRl false w g cap cs.toList
  | .nilf, v => v = .nilFunc
  | .nlit sz xs, v => ∃ b vs, v = .slice (some ⟨b, 0, none⟩) xs.length xs.length ∧ xs.length ≤ maxLen ∧ Readable w g b 0 (xs.length * sz) vs ∧ VRe w g sz xs vs ∧
      (o = true → ∃ c e, w.heap[b]? = some (.cells c e (0, 0)) ∧ g b = .tail (xs.length * sz))
  | .xl n cs z, v => ∃ b cap, v = .slice (some ⟨b, 0, none⟩) n cap ∧ n ≤ cap ∧ cap ≤ maxLen ∧ (o = true → ∃ c e vs us, w.heap[b]? = some (.cells c e (0, 0)) ∧ g b = .tail 0 ∧ cs.all PV.isCell = true ∧ z.isCell = true ∧ c.toList = vs ++ us ∧ VRl false w g cs vs ∧ ∀ u ∈ us, VR false w g z u)
  | .sh n, v => ∃ A cap, v = .slice A n cap
  | .mpI ks vs, v => ∃ b es clock, v = .map (some b) ∧ w.heap[b]? = some (.map es clock) ∧ g b = .imm ∧ VRl false w g ks (es.toList.map (·.key)) ∧ VRl false w g vs (es.toList.map (·.val))
def VRl (o : Bool) (w : World) (g : Ghost) : List PV → List Value → Prop
  | [], vs => vs = []
  | x :: xs, vs => ∃ v vs', vs = v :: vs' ∧ VR o w g x v ∧ VRl o w g xs vs'
def VRe (w : World) (g : Ghost) (sz : Nat) : List PV → List Value → Prop
  | [], vs => vs = []
  | .agg cs :: xs, vs => cs.all PV.isCell = true ∧ cs.length = sz ∧ VRl false w g cs (vs.take sz) ∧ VRe w g sz xs (vs.drop sz)
  | x :: xs, vs => x.isCell = true ∧ sz = 1 ∧ ∃ v vs', vs = v :: vs' ∧ VR false w g x v ∧ VRe w g sz xs vs'
end
mutual
def toks : PV → Value → List Nat
  | .lst _ xs true, .slice (some a) _ cap => if xs.length < cap then [a.block] else []
  | .nlit _ _, .slice (some a) _ _ => [a.block]
  | .xl _ _ _, .slice (some a) _ _ => [a.block]
  | .agg cs, .agg vs => toksL cs vs.toList
  | .tup cs, .tuple vs => toksL cs vs.toList
  | _, _ => []
def toksL : List PV → List Value → List Nat
  | x :: xs, v :: vs => toks x v ++ toksL xs vs
  | _, _ => []
end
mutual
def lend : PV → PV
  | .lst sz xs _ => .lst sz xs false
  | .nlit sz xs => .lst sz xs false
  | .xl n _ _ => .sh n
  | .agg cs => .agg (lendL cs)
  | .tup cs => .tup (lendL cs)
  | v => v
def lendL : List PV → List PV
  | [] => []
  | x :: xs => lend x :: lendL xs
end
end Go.Proofs.YtjcjbpbkakfjdaaDoor.E
/- A logic of plain values, part 2: what a step may turn, and that values read on as they did. -/
namespace Go.Proofs.YtjcjbpbkakfjdaaDoor.E
open Go Go.RowKit
set_option linter.unusedVariables false
set_option linter.unusedSimpArgs false
structure Evol (out : List Nat) (w : World) (g : Ghost) (w' : World) (g' : Ghost) : Prop where
  os : w'.os = w.os
  tape : w'.tape = w.tape
  output : w'.output = w.output
  size : w.heap.size ≤ w'.heap.size
  imm : ∀ b, b < w.heap.size → g b = .imm → w'.heap[b]? = w.heap[b]? ∧ g' b = .imm
  tail : ∀ b f c e fz, 0 < f → g b = .tail f → w.heap[b]? = some (.cells c e fz) →
    ∃ c' fz', w'.heap[b]? = some (.cells c' e fz') ∧ c'.toList.take f = c.toList.take f ∧ (g' b = .imm ∨ ∃ f', f ≤ f' ∧ g' b = .tail f')
  out : ∀ b ∈ out, w'.heap[b]? = w.heap[b]? ∧ g' b = g b
theorem Evol.refl (out : List Nat) (w : World) (g : Ghost) : Evol out w g w g :=
  ⟨rfl, rfl, rfl, Nat.le_refl _, fun _ _ h => ⟨rfl, h⟩, fun b f c e fz _ h hc => ⟨c, fz, hc, rfl, .inr ⟨f, Nat.le_refl _, h⟩⟩, fun _ _ => ⟨rfl, rfl⟩⟩
theorem lt_of_heap {w : World} {b : Nat} {o : Obj} (h : w.heap[b]? = some o) : b < w.heap.size := (Array.getElem?_eq_some_iff.1 h).1
theorem take_of_take {α : Type} {l m : List α} {f f' : Nat} (h : f ≤ f') (e : l.take f' = m.take f') : l.take f = m.take f := by
  have := congrArg (List.take f) e
  rwa [List.take_take, List.take_take, Nat.min_eq_left h] at this
theorem Evol.trans {out : List Nat} {w w1 w2 : World} {g g1 g2 : Ghost} (h : Evol out w g w1 g1) (k : Evol out w1 g1 w2 g2) : Evol out w g w2 g2 := by
  refine ⟨k.os.trans h.os, k.tape.trans h.tape, k.output.trans h.output, Nat.le_trans h.size k.size, fun b hb hi => ?_, fun b f c e fz h0 hf hc => ?_, fun b hb => ?_⟩
  · obtain ⟨h1, h2⟩ := h.imm b hb hi
    obtain ⟨k1, k2⟩ := k.imm b (Nat.lt_of_lt_of_le hb h.size) h2
    exact ⟨k1.trans h1, k2⟩
  · obtain ⟨c1, fz1, h1, h2, h3⟩ := h.tail b f c e fz h0 hf hc
    rcases h3 with h3 | ⟨f', hle, h3⟩
    · obtain ⟨k1, k2⟩ := k.imm b (lt_of_heap h1) h3
      exact ⟨c1, fz1, k1.trans h1, h2, .inl k2⟩
    · obtain ⟨c2, fz2, k1, k2, k3⟩ := k.tail b f' c1 e fz1 (by omega) h3 h1
      refine ⟨c2, fz2, k1, (take_of_take hle k2).trans h2, ?_⟩
      rcases k3 with k3 | ⟨f2, hle2, k3⟩
      · exact .inl k3
      · exact .inr ⟨f2, Nat.le_trans hle hle2, k3⟩
  · obtain ⟨h1, h2⟩ := h.out b hb
    obtain ⟨k1, k2⟩ := k.out b hb
    exact ⟨k1.trans h1, k2.trans h2⟩
theorem Evol.sub {out out' : List Nat} {w w1 : World} {g g1 : Ghost} (h : Evol out w g w1 g1) (hs : ∀ b ∈ out', b ∈ out) : Evol out' w g w1 g1 :=
  ⟨h.os, h.tape, h.output, h.size, h.imm, h.tail, fun b hb => h.out b (hs b hb)⟩
theorem readable_mk {w : World} {g : Ghost} {b off n : Nat} {vs : List Value} (c : Array Value) (e : TypeId) (fz : Nat × Nat) (h1 : w.heap[b]? = some (.cells c e fz)) (h2 : (c.toList.drop off).take n = vs) (h3 : vs.length = n) (h4 : g b = .imm ∨ ∃ f, g b = .tail f ∧ off + n ≤ f) : Readable w g b off n vs :=
  ⟨h3, .inr ⟨c, e, fz, h1, h2, h4⟩⟩
theorem Readable.mono {out : List Nat} {w w' : World} {g g' : Ghost} (h : Evol out w g w' g') {b off n : Nat} {vs : List Value} (r : Readable w g b off n vs) : Readable w' g' b off n vs := by
  obtain ⟨h3, r⟩ := r
  refine ⟨h3, ?_⟩
  by_cases hn : n = 0
  · exact .inl hn
  obtain ⟨c, e, fz, h1, h2, h4⟩ := r.resolve_left hn
  right
  rcases h4 with h4 | ⟨f, h4, h5⟩
  · obtain ⟨k1, k2⟩ := h.imm b (lt_of_heap h1) h4
    exact ⟨c, e, fz, k1.trans h1, h2, .inl k2⟩
  · obtain ⟨c', fz', k1, k2, k3⟩ := h.tail b f c e fz (by omega) h4 h1
    refine ⟨c', e, fz', k1, ?_, ?_⟩
    · rw [← h2]
      have := congrArg (List.drop off) (take_of_take h5 k2)
      rw [List.drop_take, List.drop_take, Nat.add_sub_cancel_left] at this
      exact this
    · rcases k3 with k3 | ⟨f', hle, k3⟩
      · exact .inl k3
      · exact .inr ⟨f', k3, Nat.le_trans h5 hle⟩
mutual
theorem VR_mono {out : List Nat} {w w' : World} {g g' : Ghost} (h : Evol out w g w' g') (o : Bool) : ∀ (x : PV) (v : Value), (o = true → ∀ b ∈ toks x v, b ∈ out) → VR o w g x v → VR o w' g' x v
  | .int k n, v, _, r => r
  | .bool b, v, _, r => r
  | .str s, v, _, r => r
  | .unit, _, _, _ => trivial
  | .lst sz xs own, v, ht, r => by
    obtain ⟨A, cap, rfl, h1, h2, h3, h4⟩ := r
    refine ⟨A, cap, rfl, h1, h2, ?_, ?_⟩
    · rcases h3 with h3 | ⟨b, off, vs, h3, h5, h6⟩
      · exact .inl h3
      · exact .inr ⟨b, off, vs, h3, h5.mono h, VRe_mono h sz xs vs h6⟩
    · intro ho how hlt
      obtain ⟨h0, b, c, e, hA, hb, hg, hs⟩ := h4 ho how hlt
      have hm : b ∈ out := ht ho b (by subst hA how; simp [toks, hlt])
      obtain ⟨k1, k2⟩ := h.out b hm
      exact ⟨h0, b, c, e, hA, k1.trans hb, k2.trans hg, hs⟩
  | .agg cs, v, ht, r => by
    obtain ⟨h0, vs, rfl, h1⟩ := r
    exact ⟨h0, vs, rfl, VRl_mono h o cs vs.toList (fun ho b hb => ht ho b (by simpa [toks] using hb)) h1⟩
  | .tup cs, v, ht, r => by
    obtain ⟨vs, rfl, h1⟩ := r
    exact ⟨vs, rfl, VRl_mono h o cs vs.toList (fun ho b hb => ht ho b (by simpa [toks] using hb)) h1⟩
  | .ptr a, v, _, r => r
  | .ip sz xs i off, v, _, r => by
    obtain ⟨b, base, vs, h1, h2, h3, h4⟩ := r
    exact ⟨b, base, vs, h1, h2, h3.mono h, VRe_mono h sz xs vs h4⟩
  | .row .., v, _, r => r
  | .map b, v, _, r => r
  | .fn f first cap, v, _, r => by
    obtain ⟨fs, cs, rfl, h1, h2⟩ := r
    exact ⟨fs, cs, rfl, VRl_mono h false first fs.toList (fun ho => by cases ho) h1, VRl_mono h false cap cs.toList (fun ho => by cases ho) h2⟩
  | .nilf, v, _, r => r
  | .mpI ks xs, v, _, r => by
    obtain ⟨b, es, clock, rfl, h2, h3, h4, h5⟩ := r
    obtain ⟨k1, k2⟩ := h.imm b (lt_of_heap h2) h3
    exact ⟨b, es, clock, rfl, k1.trans h2, k2, VRl_mono h false ks _ (fun ho => by cases ho) h4, VRl_mono h false xs _ (fun ho => by cases ho) h5⟩
  | .nlit sz xs, v, ht, r => by
    obtain ⟨b, vs, rfl, h1, h2, h3, h4⟩ := r
    refine ⟨b, vs, rfl, h1, h2.mono h, VRe_mono h sz xs vs h3, fun ho => ?_⟩
    obtain ⟨c, e, hc, hg⟩ := h4 ho
    obtain ⟨k1, k2⟩ := h.out b (ht ho b (by simp [toks]))
    exact ⟨c, e, k1.trans hc, k2.trans hg⟩
  | .xl n cs z, v, ht, r => by
    obtain ⟨b, cap, rfl, h1, h2, h4⟩ := r
    refine ⟨b, cap, rfl, h1, h2, fun ho => ?_⟩
    obtain ⟨c, e, vs, us, hc, hg, ha, hz, hl, hv, hu⟩ := h4 ho
    obtain ⟨k1, k2⟩ := h.out b (ht ho b (by simp [toks]))
    exact ⟨c, e, vs, us, k1.trans hc, k2.trans hg, ha, hz, hl, VRl_mono h false cs vs (fun ho => by cases ho) hv, fun u hm => VR_mono h false z u (fun ho => by cases ho) (hu u hm)⟩
  | .sh n, v, _, r => r
theorem VRl_mono {out : List Nat} {w w' : World} {g g' : Ghost} (h : Evol out w g w' g') (o : Bool) : ∀ (xs : List PV) (vs : List Value), (o = true → ∀ b ∈ toksL xs vs, b ∈ out) → VRl o w g xs vs → VRl o w' g' xs vs
  | [], vs, _, r => r
  | x :: xs, vs, ht, r => by
    obtain ⟨v, vs', rfl, h1, h2⟩ := r
    exact ⟨v, vs', rfl, VR_mono h o x v (fun ho b hb => ht ho b (by simp [toksL, hb])) h1, VRl_mono h o xs vs' (fun ho b hb => ht ho b (by simp [toksL, hb])) h2⟩
theorem VRe_mono {out : List Nat} {w w' : World} {g g' : Ghost} (h : Evol out w g w' g') (sz : Nat) : ∀ (xs : List PV) (vs : List Value), VRe w g sz xs vs → VRe w' g' sz xs vs
  | [], vs, r => r
  | .agg cs :: xs, vs, r => ⟨r.1, r.2.1, VRl_mono h false cs _ (fun ho => by cases ho) r.2.2.1, VRe_mono h sz xs _ r.2.2.2⟩
  | .int k n :: xs, vs, r => by
    obtain ⟨h0, h1, v, vs', rfl, h2, h3⟩ := r
    exact ⟨h0, h1, v, vs', rfl, VR_mono h false _ v (fun ho => by cases ho) h2, VRe_mono h sz xs vs' h3⟩
  | .bool b :: xs, vs, r => by
    obtain ⟨h0, h1, v, vs', rfl, h2, h3⟩ := r
    exact ⟨h0, h1, v, vs', rfl, VR_mono h false _ v (fun ho => by cases ho) h2, VRe_mono h sz xs vs' h3⟩
  | .str s :: xs, vs, r => by
    obtain ⟨h0, h1, v, vs', rfl, h2, h3⟩ := r
    exact ⟨h0, h1, v, vs', rfl, VR_mono h false _ v (fun ho => by cases ho) h2, VRe_mono h sz xs vs' h3⟩
  | .unit :: xs, vs, r => by cases r.1
  | .lst s ys own :: xs, vs, r => by
    obtain ⟨h0, h1, v, vs', rfl, h2, h3⟩ := r
    exact ⟨h0, h1, v, vs', rfl, VR_mono h false _ v (fun ho => by cases ho) h2, VRe_mono h sz xs vs' h3⟩
  | .tup cs :: xs, vs, r => by cases r.1
  | .ptr a :: xs, vs, r => by
    obtain ⟨h0, h1, v, vs', rfl, h2, h3⟩ := r
    exact ⟨h0, h1, v, vs', rfl, VR_mono h false _ v (fun ho => by cases ho) h2, VRe_mono h sz xs vs' h3⟩
  | .ip s ys i off :: xs, vs, r => by
    obtain ⟨h0, h1, v, vs', rfl, h2, h3⟩ := r
    exact ⟨h0, h1, v, vs', rfl, VR_mono h false _ v (fun ho => by cases ho) h2, VRe_mono h sz xs vs' h3⟩
  | .row b off len cap :: xs, vs, r => by
    obtain ⟨h0, h1, v, vs', rfl, h2, h3⟩ := r
    exact ⟨h0, h1, v, vs', rfl, VR_mono h false _ v (fun ho => by cases ho) h2, VRe_mono h sz xs vs' h3⟩
  | .map b :: xs, vs, r => by
    obtain ⟨h0, h1, v, vs', rfl, h2, h3⟩ := r
    exact ⟨h0, h1, v, vs', rfl, VR_mono h false _ v (fun ho => by cases ho) h2, VRe_mono h sz xs vs' h3⟩
  | .fn f a c :: xs, vs, r => by
    obtain ⟨h0, h1, v, vs', rfl, h2, h3⟩ := r
    exact ⟨h0, h1, v, vs', rfl, VR_mono h false _ v (fun ho => by cases ho) h2, VRe_mono h sz xs vs' h3⟩
  | .nilf :: xs, vs, r => by
    obtain ⟨h0, h1, v, vs', rfl, h2, h3⟩ := r
    exact ⟨h0, h1, v, vs', rfl, VR_mono h false _ v (fun ho => by cases ho) h2, VRe_mono h sz xs vs' h3⟩
  | .mpI ks ys :: xs, vs, r => by
    obtain ⟨h0, h1, v, vs', rfl, h2, h3⟩ := r
    exact ⟨h0, h1, v, vs', rfl, VR_mono h false _ v (fun ho => by cases ho) h2, VRe_mono h sz xs vs' h3⟩
  | .nlit s ys :: xs, vs, r => by
    obtain ⟨h0, h1, v, vs', rfl, h2, h3⟩ := r
    exact ⟨h0, h1, v, vs', rfl, VR_mono h false _ v (fun ho => by cases ho) h2, VRe_mono h sz xs vs' h3⟩
  | .xl s ys z :: xs, vs, r => by
    obtain ⟨h0, h1, v, vs', rfl, h2, h3⟩ := r
    exact ⟨h0, h1, v, vs', rfl, VR_mono h false _ v (fun ho => by cases ho) h2, VRe_mono h sz xs vs' h3⟩
  | .sh s :: xs, vs, r => by
    obtain ⟨h0, h1, v, vs', rfl, h2, h3⟩ := r
    exact ⟨h0, h1, v, vs', rfl, VR_mono h false _ v (fun ho => by cases ho) h2, VRe_mono h sz xs vs' h3⟩
end
structure EvolC (out : List Nat) (w : World) (g : Ghost) (w' : World) (g' : Ghost) : Prop where
  imm : ∀ b c e fz, w.heap[b]? = some (.cells c e fz) → g b = .imm → w'.heap[b]? = w.heap[b]? ∧ g' b = .imm
  tail : ∀ b f c e fz, 0 < f → g b = .tail f → w.heap[b]? = some (.cells c e fz) →
    ∃ c' fz', w'.heap[b]? = some (.cells c' e fz') ∧ c'.toList.take f = c.toList.take f ∧ (g' b = .imm ∨ ∃ f', f ≤ f' ∧ g' b = .tail f')
  out : ∀ b ∈ out, w'.heap[b]? = w.heap[b]? ∧ g' b = g b
  mp : ∀ b es cl, w.heap[b]? = some (.map es cl) → g b = .imm → w'.heap[b]? = w.heap[b]? ∧ g' b = .imm
theorem Readable.monoC {out : List Nat} {w w' : World} {g g' : Ghost} (h : EvolC out w g w' g') {b off n : Nat} {vs : List Value} (r : Readable w g b off n vs) : Readable w' g' b off n vs := by
  obtain ⟨h3, r⟩ := r
  refine ⟨h3, ?_⟩
  by_cases hn : n = 0
  · exact .inl hn
  obtain ⟨c, e, fz, h1, h2, h4⟩ := r.resolve_left hn
  right
  rcases h4 with h4 | ⟨f, h4, h5⟩
  · obtain ⟨k1, k2⟩ := h.imm b c e fz h1 h4
    exact ⟨c, e, fz, k1.trans h1, h2, .inl k2⟩
  · obtain ⟨c', fz', k1, k2, k3⟩ := h.tail b f c e fz (by omega) h4 h1
    refine ⟨c', e, fz', k1, ?_, ?_⟩
    · rw [← h2]
      have := congrArg (List.drop off) (take_of_take h5 k2)
      rw [List.drop_take, List.drop_take, Nat.add_sub_cancel_left] at this
      exact this
    · rcases k3 with k3 | ⟨f', hle, k3⟩
      · exact .inl k3
      · exact .inr ⟨f', k3, Nat.le_trans h5 hle⟩
mutual
theorem VR_monoC {out : List Nat} {w w' : World} {g g' : Ghost} (h : EvolC out w g w' g') (o : Bool) : ∀ (x : PV) (v : Value), (o = true → ∀ b ∈ toks x v, b ∈ out) → VR o w g x v → VR o w' g' x v
  | .int k n, v, _, r => r
  | .bool b, v, _, r => r
  | .str s, v, _, r => r
  | .unit, _, _, _ => trivial
  | .lst sz xs own, v, ht, r => by
    obtain ⟨A, cap, rfl, h1, h2, h3, h4⟩ := r
    refine ⟨A, cap, rfl, h1, h2, ?_, ?_⟩
    · rcases h3 with h3 | ⟨b, off, vs, h3, h5, h6⟩
      · exact .inl h3
      · exact .inr ⟨b, off, vs, h3, h5.monoC h, VRe_monoC h sz xs vs h6⟩
    · intro ho how hlt
      obtain ⟨h0, b, c, e, hA, hb, hg, hs⟩ := h4 ho how hlt
      have hm : b ∈ out := ht ho b (by subst hA how; simp [toks, hlt])
      obtain ⟨k1, k2⟩ := h.out b hm
      exact ⟨h0, b, c, e, hA, k1.trans hb, k2.trans hg, hs⟩
  | .agg cs, v, ht, r => by
    obtain ⟨h0, vs, rfl, h1⟩ := r
    exact ⟨h0, vs, rfl, VRl_monoC h o cs vs.toList (fun ho b hb => ht ho b (by simpa [toks] using hb)) h1⟩
  | .tup cs, v, ht, r => by
    obtain ⟨vs, rfl, h1⟩ := r
    exact ⟨vs, rfl, VRl_monoC h o cs vs.toList (fun ho b hb => ht ho b (by simpa [toks] using hb)) h1⟩
  | .ptr a, v, _, r => r
  | .ip sz xs i off, v, _, r => by
    obtain ⟨b, base, vs, h1, h2, h3, h4⟩ := r
    exact ⟨b, base, vs, h1, h2, h3.monoC h, VRe_monoC h sz xs vs h4⟩
  | .row .., v, _, r => r
  | .map b, v, _, r => r
  | .fn f first cap, v, _, r => by
    obtain ⟨fs, cs, rfl, h1, h2⟩ := r
    exact ⟨fs, cs, rfl, VRl_monoC h false first fs.toList (fun ho => by cases ho) h1, VRl_monoC h false cap cs.toList (fun ho => by cases ho) h2⟩
  | .nilf, v, _, r => r
  | .mpI ks xs, v, _, r => by
    obtain ⟨b, es, clock, rfl, h2, h3, h4, h5⟩ := r
    obtain ⟨k1, k2⟩ := h.mp b es clock h2 h3
    exact ⟨b, es, clock, rfl, k1.trans h2, k2, VRl_monoC h false ks _ (fun ho => by cases ho) h4, VRl_monoC h false xs _ (fun ho => by cases ho) h5⟩
  | .nlit sz xs, v, ht, r => by
    obtain ⟨b, vs, rfl, h1, h2, h3, h4⟩ := r
    refine ⟨b, vs, rfl, h1, h2.monoC h, VRe_monoC h sz xs vs h3, fun ho => ?_⟩
    obtain ⟨c, e, hc, hg⟩ := h4 ho
    obtain ⟨k1, k2⟩ := h.out b (ht ho b (by simp [toks]))
    exact ⟨c, e, k1.trans hc, k2.trans hg⟩
  | .xl n cs z, v, ht, r => by
    obtain ⟨b, cap, rfl, h1, h2, h4⟩ := r
    refine ⟨b, cap, rfl, h1, h2, fun ho => ?_⟩
    obtain ⟨c, e, vs, us, hc, hg, ha, hz, hl, hv, hu⟩ := h4 ho
    obtain ⟨k1, k2⟩ := h.out b (ht ho b (by simp [toks]))
    exact ⟨c, e, vs, us, k1.trans hc, k2.trans hg, ha, hz, hl, VRl_monoC h false cs vs (fun ho => by cases ho) hv, fun u hm => VR_monoC h false z u (fun ho => by cases ho) (hu u hm)⟩
  | .sh n, v, _, r => r
theorem VRl_monoC {out : List Nat} {w w' : World} {g g' : Ghost} (h : EvolC out w g w' g') (o : Bool) : ∀ (xs : List PV) (vs : List Value), (o = true → ∀ b ∈ toksL xs vs, b ∈ out) → VRl o w g xs vs → VRl o w' g' xs vs
  | [], vs, _, r => r
  | x :: xs, vs, ht, r => by
    obtain ⟨v, vs', rfl, h1, h2⟩ := r
    exact ⟨v, vs', rfl, VR_monoC h o x v (fun ho b hb => ht ho b (by simp [toksL, hb])) h1, VRl_monoC h o xs vs' (fun ho b hb => ht ho b (by simp [toksL, hb])) h2⟩
theorem VRe_monoC {out : List Nat} {w w' : World} {g g' : Ghost} (h : EvolC out w g w' g') (sz : Nat) : ∀ (xs : List PV) (vs : List Value), VRe w g sz xs vs → VRe w' g' sz xs vs
  | [], vs, r => r
  | .agg cs :: xs, vs, r => ⟨r.1, r.2.1, VRl_monoC h false cs _ (fun ho => by cases ho) r.2.2.1, VRe_monoC h sz xs _ r.2.2.2⟩
  | .int k n :: xs, vs, r => by
    obtain ⟨h0, h1, v, vs', rfl, h2, h3⟩ := r
    exact ⟨h0, h1, v, vs', rfl, VR_monoC h false _ v (fun ho => by cases ho) h2, VRe_monoC h sz xs vs' h3⟩
  | .bool b :: xs, vs, r => by
    obtain ⟨h0, h1, v, vs', rfl, h2, h3⟩ := r
    exact ⟨h0, h1, v, vs', rfl, VR_monoC h false _ v (fun ho => by cases ho) h2, VRe_monoC h sz xs vs' h3⟩
  | .str s :: xs, vs, r => by
    obtain ⟨h0, h1, v, vs', rfl, h2, h3⟩ := r
    exact ⟨h0, h1, v, vs', rfl, VR_monoC h false _ v (fun ho => by cases ho) h2, VRe_monoC h sz xs vs' h3⟩
  | .unit :: xs, vs, r => by cases r.1
  | .lst s ys own :: xs, vs, r => by
    obtain ⟨h0, h1, v, vs', rfl, h2, h3⟩ := r
    exact ⟨h0, h1, v, vs', rfl, VR_monoC h false _ v (fun ho => by cases ho) h2, VRe_monoC h sz xs vs' h3⟩
  | .tup cs :: xs, vs, r => by cases r.1
  | .ptr a :: xs, vs, r => by
    obtain ⟨h0, h1, v, vs', rfl, h2, h3⟩ := r
    exact ⟨h0, h1, v, vs', rfl, VR_monoC h false _ v (fun ho => by cases ho) h2, VRe_monoC h sz xs vs' h3⟩
  | .ip s ys i off :: xs, vs, r => by
    obtain ⟨h0, h1, v, vs', rfl, h2, h3⟩ := r
    exact ⟨h0, h1, v, vs', rfl, VR_monoC h false _ v (fun ho => by cases ho) h2, VRe_monoC h sz xs vs' h3⟩
  | .row b off len cap :: xs, vs, r => by
    obtain ⟨h0, h1, v, vs', rfl, h2, h3⟩ := r
    exact ⟨h0, h1, v, vs', rfl, VR_monoC h false _ v (fun ho => by cases ho) h2, VRe_monoC h sz xs vs' h3⟩
  | .map b :: xs, vs, r => by
    obtain ⟨h0, h1, v, vs', rfl, h2, h3⟩ := r
    exact ⟨h0, h1, v, vs', rfl, VR_monoC h false _ v (fun ho => by cases ho) h2, VRe_monoC h sz xs vs' h3⟩
  | .fn f a c :: xs, vs, r => by
    obtain ⟨h0, h1, v, vs', rfl, h2, h3⟩ := r
    exact ⟨h0, h1, v, vs', rfl, VR_monoC h false _ v (fun ho => by cases ho) h2, VRe_monoC h sz xs vs' h3⟩
  | .nilf :: xs, vs, r => by
    obtain ⟨h0, h1, v, vs', rfl, h2, h3⟩ := r
    exact ⟨h0, h1, v, vs', rfl, VR_monoC h false _ v (fun ho => by cases ho) h2, VRe_monoC h sz xs vs' h3⟩
  | .mpI ks ys :: xs, vs, r => by
    obtain ⟨h0, h1, v, vs', rfl, h2, h3⟩ := r
    exact ⟨h0, h1, v, vs', rfl, VR_monoC h false _ v (fun ho => by cases ho) h2, VRe_monoC h sz xs vs' h3⟩
  | .nlit s ys :: xs, vs, r => by
    obtain ⟨h0, h1, v, vs', rfl, h2, h3⟩ := r
    exact ⟨h0, h1, v, vs', rfl, VR_monoC h false _ v (fun ho => by cases ho) h2, VRe_monoC h sz xs vs' h3⟩
  | .xl s ys z :: xs, vs, r => by
    obtain ⟨h0, h1, v, vs', rfl, h2, h3⟩ := r
    exact ⟨h0, h1, v, vs', rfl, VR_monoC h false _ v (fun ho => by cases ho) h2, VRe_monoC h sz xs vs' h3⟩
  | .sh s :: xs, vs, r => by
    obtain ⟨h0, h1, v, vs', rfl, h2, h3⟩ := r
    exact ⟨h0, h1, v, vs', rfl, VR_monoC h false _ v (fun ho => by cases ho) h2, VRe_monoC h sz xs vs' h3⟩
end
end Go.Proofs.YtjcjbpbkakfjdaaDoor.E
/- A logic of plain values, part 3: lists of values, elements, and what is owned. -/
namespace Go.Proofs.YtjcjbpbkakfjdaaDoor.E
open Go Go.RowKit
set_option linter.unusedVariables false
set_option linter.unusedSimpArgs false
mutual
theorem VR_weak {w : World} {g : Ghost} {o : Bool} : ∀ (x : PV) (v : Value), VR o w g x v → VR false w g x v
  | .int k n, v, r => r
  | .bool b, v, r => r
  | .str s, v, r => r
  | .unit, _, _ => trivial
  | .lst sz xs own, v, r => by
    obtain ⟨A, cap, rfl, h1, h2, h3, h4⟩ := r
    exact ⟨A, cap, rfl, h1, h2, h3, fun h => by cases h⟩
  | .agg cs, v, r => by
    obtain ⟨h0, vs, rfl, h1⟩ := r
    exact ⟨h0, vs, rfl, VRl_weak cs _ h1⟩
  | .tup cs, v, r => by
    obtain ⟨vs, rfl, h1⟩ := r
    exact ⟨vs, rfl, VRl_weak cs _ h1⟩
  | .ptr a, v, r => r
  | .ip sz xs i off, v, r => r
  | .row .., v, r => r
  | .map b, v, r => r
  | .fn f first cap, v, r => r
  | .nilf, v, r => r
  | .mpI .., v, r => r
  | .nlit sz xs, v, r => by
    obtain ⟨b, vs, rfl, h1, h2, h3, h4⟩ := r
    exact ⟨b, vs, rfl, h1, h2, h3, fun h => by cases h⟩
  | .xl n cs z, v, r => by
    obtain ⟨b, cap, rfl, h1, h2, h3⟩ := r
    exact ⟨b, cap, rfl, h1, h2, fun h => by cases h⟩
  | .sh n, v, r => r
theorem VRl_weak {w : World} {g : Ghost} {o : Bool} : ∀ (xs : List PV) (vs : List Value), VRl o w g xs vs → VRl false w g xs vs
  | [], vs, r => r
  | x :: xs, vs, r => by
    obtain ⟨v, vs', rfl, h1, h2⟩ := r
    exact ⟨v, vs', rfl, VR_weak x v h1, VRl_weak xs vs' h2⟩
end
theorem isCell_lend (x : PV) : (lend x).isCell = x.isCell := by cases x <;> rfl
theorem lendL_eq_map : ∀ xs, lendL xs = xs.map lend
  | [] => rfl
  | x :: xs => by simp [lendL, lendL_eq_map xs]
theorem all_lendL (xs : List PV) : (lendL xs).all PV.isCell = xs.all PV.isCell := by
  rw [lendL_eq_map, List.all_map]
  exact congrArg (fun f => xs.all f) (funext fun x => isCell_lend x)
mutual
theorem VR_lend {w : World} {g : Ghost} {o : Bool} : ∀ (x : PV) (v : Value), VR false w g x v → VR o w g (lend x) v
  | .int k n, v, r => r
  | .bool b, v, r => r
  | .str s, v, r => r
  | .unit, _, _ => trivial
  | .lst sz xs own, v, r => by
    obtain ⟨A, cap, rfl, h1, h2, h3, h4⟩ := r
    exact ⟨A, cap, rfl, h1, h2, h3, fun _ h => by cases h⟩
  | .agg cs, v, r => by
    obtain ⟨h0, vs, rfl, h1⟩ := r
    exact ⟨by rw [all_lendL]; exact h0, vs, rfl, VRl_lend cs _ h1⟩
  | .tup cs, v, r => by
    obtain ⟨vs, rfl, h1⟩ := r
    exact ⟨vs, rfl, VRl_lend cs _ h1⟩
  | .ptr a, v, r => r
  | .ip sz xs i off, v, r => r
  | .row .., v, r => r
  | .map b, v, r => r
  | .fn f first cap, v, r => r
  | .nilf, v, r => r
  | .mpI .., v, r => r
  | .nlit sz xs, v, r => by
    obtain ⟨b, vs, rfl, h1, h2, h3, h4⟩ := r
    exact ⟨_, _, rfl, Nat.le_refl _, h1, .inr ⟨b, 0, vs, rfl, h2, h3⟩, fun _ h => by cases h⟩
  | .xl n cs z, v, r => by
    obtain ⟨b, cap, rfl, h1, h2, h3⟩ := r
    exact ⟨_, _, rfl⟩
  | .sh n, v, r => r
theorem VRl_lend {w : World} {g : Ghost} {o : Bool} : ∀ (xs : List PV) (vs : List Value), VRl false w g xs vs → VRl o w g (lendL xs) vs
  | [], vs, r => r
  | x :: xs, vs, r => by
    obtain ⟨v, vs', rfl, h1, h2⟩ := r
    exact ⟨v, vs', rfl, VR_lend x v h1, VRl_lend xs vs' h2⟩
end
mutual
theorem toks_lend : ∀ (x : PV) (v : Value), toks (lend x) v = []
  | .int k n, v => by simp [lend, toks]
  | .bool b, v => by simp [lend, toks]
  | .str s, v => by simp [lend, toks]
  | .unit, _ => by simp [lend, toks]
  | .lst sz xs own, v => by simp [lend, toks]
  | .agg cs, v => by cases v <;> simp [lend, toks, toksL_lend cs]
  | .tup cs, v => by cases v <;> simp [lend, toks, toksL_lend cs]
  | .ptr a, v => by simp [lend, toks]
  | .ip sz xs i off, v => by simp [lend, toks]
  | .row .., v => by simp [lend, toks]
  | .map b, v => by simp [lend, toks]
  | .fn f first cap, v => by simp [lend, toks]
  | .nilf, v => by simp [lend, toks]
  | .mpI .., v => by simp [lend, toks]
  | .nlit sz xs, v => by simp [lend, toks]
  | .xl n cs z, v => by simp [lend, toks]
  | .sh n, v => by simp [lend, toks]
theorem toksL_lend : ∀ (xs : List PV) (vs : List Value), toksL (lendL xs) vs = []
  | [], vs => by simp [lendL, toksL]
  | x :: xs, [] => by simp [lendL, toksL]
  | x :: xs, v :: vs => by simp [lendL, toksL, toks_lend x v, toksL_lend xs vs]
end
theorem VRl_length {o : Bool} {w : World} {g : Ghost} : ∀ {xs : List PV} {vs : List Value}, VRl o w g xs vs → vs.length = xs.length
  | [], vs, r => by cases r; rfl
  | x :: xs, vs, r => by
    obtain ⟨v, vs', rfl, _, h2⟩ := r
    simp [VRl_length h2]
theorem VRl_get {o : Bool} {w : World} {g : Ghost} : ∀ {xs : List PV} {vs : List Value} {i : Nat} {x : PV}, VRl o w g xs vs → xs[i]? = some x → ∃ v, vs[i]? = some v ∧ VR o w g x v
  | [], vs, i, x, r, h => by simp at h
  | y :: xs, vs, 0, x, r, h => by
    obtain ⟨v, vs', rfl, h1, h2⟩ := r
    simp at h
    subst h
    exact ⟨v, rfl, h1⟩
  | y :: xs, vs, i + 1, x, r, h => by
    obtain ⟨v, vs', rfl, h1, h2⟩ := r
    simp at h
    obtain ⟨u, hu, hr⟩ := VRl_get h2 h
    exact ⟨u, by simpa using hu, hr⟩
theorem VRl_set {o : Bool} {w : World} {g : Ghost} : ∀ {xs : List PV} {vs : List Value} (i : Nat) {x : PV} {v : Value}, VRl o w g xs vs → VR o w g x v → VRl o w g (xs.set i x) (vs.set i v)
  | [], vs, i, x, v, r, h => by cases r; simp [VRl]
  | y :: xs, vs, 0, x, v, r, h => by
    obtain ⟨u, vs', rfl, h1, h2⟩ := r
    exact ⟨v, vs', rfl, h, h2⟩
  | y :: xs, vs, i + 1, x, v, r, h => by
    obtain ⟨u, vs', rfl, h1, h2⟩ := r
    exact ⟨u, vs'.set i v, rfl, h1, VRl_set i h2 h⟩
theorem VRl_append {o : Bool} {w : World} {g : Ghost} : ∀ {xs ys : List PV} {vs us : List Value}, VRl o w g xs vs → VRl o w g ys us → VRl o w g (xs ++ ys) (vs ++ us)
  | [], ys, vs, us, r, s => by cases r; exact s
  | x :: xs, ys, vs, us, r, s => by
    obtain ⟨v, vs', rfl, h1, h2⟩ := r
    exact ⟨v, vs' ++ us, rfl, h1, VRl_append h2 s⟩
theorem VRl_split {o : Bool} {w : World} {g : Ghost} : ∀ {xs ys : List PV} {vs : List Value}, VRl o w g (xs ++ ys) vs → ∃ a b, vs = a ++ b ∧ VRl o w g xs a ∧ VRl o w g ys b
  | [], ys, vs, r => ⟨[], vs, rfl, rfl, r⟩
  | x :: xs, ys, vs, r => by
    obtain ⟨v, vs', rfl, h1, h2⟩ := r
    obtain ⟨a, b, rfl, h3, h4⟩ := VRl_split h2
    exact ⟨v :: a, b, rfl, ⟨v, a, rfl, h1, h3⟩, h4⟩
theorem VRl_take {o : Bool} {w : World} {g : Ghost} {xs : List PV} {vs : List Value} (n : Nat) (r : VRl o w g xs vs) : VRl o w g (xs.take n) (vs.take n) ∧ VRl o w g (xs.drop n) (vs.drop n) := by
  rw [← List.take_append_drop n xs] at r
  obtain ⟨a, b, rfl, h1, h2⟩ := VRl_split r
  have hl := VRl_length h1
  by_cases hn : n ≤ xs.length
  · have e : a.length = n := by rw [hl, List.length_take, Nat.min_eq_left hn]
    rw [List.take_left' e, List.drop_left' e]
    exact ⟨h1, h2⟩
  · have hd : xs.drop n = [] := List.drop_of_length_le (by omega)
    rw [hd] at h2 ⊢
    cases h2
    have : a.length ≤ n := by rw [hl, List.length_take]; omega
    rw [List.append_nil, List.take_of_length_le this, List.drop_of_length_le this]
    exact ⟨h1, rfl⟩
theorem VRl_unit {o : Bool} {w : World} {g : Ghost} : ∀ (n : Nat) (vs : List Value), vs.length = n → VRl o w g (List.replicate n .unit) vs
  | 0, vs, h => by simpa [VRl] using h
  | n + 1, [], h => by simp at h
  | n + 1, v :: vs, h => ⟨v, vs, rfl, trivial, VRl_unit n vs (by simpa using h)⟩
theorem count_toksL_set (b : Nat) : ∀ (xs : List PV) (vs : List Value) (i : Nat) (x y : PV) (v u : Value), xs[i]? = some y → vs[i]? = some u →
    (toksL (xs.set i x) (vs.set i v)).count b + (toks y u).count b = (toksL xs vs).count b + (toks x v).count b
  | [], _, i, x, y, v, u, h, _ => by simp at h
  | _ :: _, [], i, x, y, v, u, _, h => by simp at h
  | z :: xs, t :: vs, 0, x, y, v, u, h1, h2 => by
    simp at h1 h2
    subst h1 h2
    simp [toksL]
    omega
  | z :: xs, t :: vs, i + 1, x, y, v, u, h1, h2 => by
    simp at h1 h2
    have := count_toksL_set b xs vs i x y v u h1 h2
    simp [toksL]
    omega
theorem toksL_append : ∀ (xs ys : List PV) (vs us : List Value), vs.length = xs.length → toksL (xs ++ ys) (vs ++ us) = toksL xs vs ++ toksL ys us
  | [], ys, [], us, _ => by simp [toksL]
  | [], ys, v :: vs, us, h => by simp at h
  | x :: xs, ys, [], us, h => by simp at h
  | x :: xs, ys, v :: vs, us, h => by
    simp only [List.cons_append, toksL, List.append_assoc]
    rw [toksL_append xs ys vs us (by simpa using h)]
theorem toksL_unit : ∀ (n : Nat) (vs : List Value), toksL (List.replicate n .unit) vs = []
  | 0, vs => by simp [toksL]
  | n + 1, [] => by simp [List.replicate, toksL]
  | n + 1, v :: vs => by simp [List.replicate, toksL, toks, toksL_unit n vs]
theorem VR_oneCell {o : Bool} {w : World} {g : Ghost} {x : PV} {v : Value} (hx : x.isCell = true) (r : VR o w g x v) : v.oneCell' = true := by
  cases x with
  | int k n => cases r; rfl
  | bool b => cases r; rfl
  | str s => obtain ⟨t, rfl, _⟩ := r; rfl
  | unit => cases hx
  | lst sz xs own => obtain ⟨A, cap, rfl, _⟩ := r; rfl
  | agg cs => cases hx
  | tup cs => cases hx
  | ptr a => cases r; rfl
  | ip sz xs i off => obtain ⟨b, base, vs, rfl, _⟩ := r; rfl
  | row b off len cap => cases r; rfl
  | map b => cases r; rfl
  | fn f a c => obtain ⟨fs, cs, rfl, _⟩ := r; rfl
  | nilf => cases r; rfl
  | nlit sz xs => obtain ⟨b, vs, rfl, _⟩ := r; rfl
  | xl n cs z => obtain ⟨b, cap, rfl, _⟩ := r; rfl
  | sh n => obtain ⟨A, cap, rfl⟩ := r; rfl
  | mpI ks xs => obtain ⟨b, es, clock, rfl, _⟩ := r; rfl
theorem VRl_oneCell {o : Bool} {w : World} {g : Ghost} : ∀ {xs : List PV} {vs : List Value}, xs.all PV.isCell = true → VRl o w g xs vs → ∀ u ∈ vs, u.oneCell' = true
  | [], vs, _, r, u, hu => by cases r; cases hu
  | x :: xs, vs, h, r, u, hu => by
    obtain ⟨v, vs', rfl, h1, h2⟩ := r
    simp only [List.all_cons, Bool.and_eq_true] at h
    rcases List.mem_cons.1 hu with rfl | hu
    · exact VR_oneCell h.1 h1
    · exact VRl_oneCell h.2 h2 u hu
def VRc (w : World) (g : Ghost) (sz : Nat) (x : PV) (us : List Value) : Prop :=
  us.length = sz ∧ ((∃ cs, x = .agg cs ∧ cs.all PV.isCell = true ∧ VRl false w g cs us) ∨ (x.isCell = true ∧ ∃ v, us = [v] ∧ VR false w g x v))
theorem VRe_cons {w : World} {g : Ghost} {sz : Nat} {x : PV} {xs : List PV} {vs : List Value} : VRe w g sz (x :: xs) vs ↔ ∃ us vs', vs = us ++ vs' ∧ VRc w g sz x us ∧ VRe w g sz xs vs' := by
  have hcell : x.isCell = true → (VRe w g sz (x :: xs) vs ↔ (x.isCell = true ∧ sz = 1 ∧ ∃ v vs', vs = v :: vs' ∧ VR false w g x v ∧ VRe w g sz xs vs')) := by
    intro hx
    cases x <;> first | exact Iff.rfl | cases hx
  have hother : x.isCell = true → ((x.isCell = true ∧ sz = 1 ∧ ∃ v vs', vs = v :: vs' ∧ VR false w g x v ∧ VRe w g sz xs vs') ↔ ∃ us vs', vs = us ++ vs' ∧ VRc w g sz x us ∧ VRe w g sz xs vs') := by
    intro hx
    constructor
    · rintro ⟨_, rfl, v, vs', rfl, h1, h2⟩
      exact ⟨[v], vs', rfl, ⟨rfl, .inr ⟨hx, v, rfl, h1⟩⟩, h2⟩
    · rintro ⟨us, vs', rfl, ⟨hl, h1⟩, h2⟩
      rcases h1 with ⟨cs, rfl, _⟩ | ⟨_, v, rfl, h1⟩
      · cases hx
      · exact ⟨hx, hl.symm, v, vs', rfl, h1, h2⟩
  by_cases hx : x.isCell = true
  · exact (hcell hx).trans (hother hx)
  · cases x with
    | agg cs =>
      constructor
      · rintro ⟨h0, h1, h2, h3⟩
        have hl := VRl_length h2
        have hl2 : (vs.take sz).length = sz := by rw [hl, h1]
        exact ⟨vs.take sz, vs.drop sz, (List.take_append_drop _ _).symm, ⟨hl2, .inl ⟨cs, rfl, h0, h2⟩⟩, h3⟩
      · rintro ⟨us, vs', rfl, ⟨hl, h1⟩, h2⟩
        rcases h1 with ⟨cs', e, h0, h1⟩ | ⟨hc, _⟩
        · cases e
          refine ⟨h0, ?_, ?_, ?_⟩
          · rw [← VRl_length h1, hl]
          · rw [List.take_left' hl]; exact h1
          · rw [List.drop_left' hl]; exact h2
        · exact absurd hc hx
    | unit =>
      constructor
      · rintro ⟨h0, _⟩; cases h0
      · rintro ⟨us, vs', rfl, ⟨hl, h1⟩, h2⟩
        rcases h1 with ⟨cs', e, _⟩ | ⟨hc, _⟩
        · cases e
        · exact absurd hc hx
    | tup cs =>
      constructor
      · rintro ⟨h0, _⟩; cases h0
      · rintro ⟨us, vs', rfl, ⟨hl, h1⟩, h2⟩
        rcases h1 with ⟨cs', e, _⟩ | ⟨hc, _⟩
        · cases e
        · exact absurd hc hx
    | _ => exact absurd rfl hx
theorem VRe_length {w : World} {g : Ghost} {sz : Nat} : ∀ {xs : List PV} {vs : List Value}, VRe w g sz xs vs → vs.length = xs.length * sz
  | [], vs, r => by cases r; simp
  | x :: xs, vs, r => by
    obtain ⟨us, vs', rfl, h1, h2⟩ := VRe_cons.1 r
    rw [List.length_append, h1.1, VRe_length h2, List.length_cons, Nat.succ_mul, Nat.add_comm]
theorem VRe_append {w : World} {g : Ghost} {sz : Nat} : ∀ {xs ys : List PV} {vs us : List Value}, VRe w g sz xs vs → VRe w g sz ys us → VRe w g sz (xs ++ ys) (vs ++ us)
  | [], ys, vs, us, r, s => by cases r; exact s
  | x :: xs, ys, vs, us, r, s => by
    obtain ⟨a, b, rfl, h1, h2⟩ := VRe_cons.1 r
    exact VRe_cons.2 ⟨a, b ++ us, by rw [List.append_assoc], h1, VRe_append h2 s⟩
theorem VRe_split {w : World} {g : Ghost} {sz : Nat} : ∀ {xs ys : List PV} {vs : List Value}, VRe w g sz (xs ++ ys) vs → ∃ a b, vs = a ++ b ∧ VRe w g sz xs a ∧ VRe w g sz ys b
  | [], ys, vs, r => ⟨[], vs, rfl, rfl, r⟩
  | x :: xs, ys, vs, r => by
    obtain ⟨a, b, rfl, h1, h2⟩ := VRe_cons.1 r
    obtain ⟨c, d, rfl, h3, h4⟩ := VRe_split h2
    exact ⟨a ++ c, d, by rw [List.append_assoc], VRe_cons.2 ⟨a, c, rfl, h1, h3⟩, h4⟩
theorem VRe_take {w : World} {g : Ghost} {sz : Nat} {xs : List PV} {vs : List Value} {n : Nat} (hn : n ≤ xs.length) (r : VRe w g sz xs vs) : VRe w g sz (xs.take n) (vs.take (n * sz)) ∧ VRe w g sz (xs.drop n) (vs.drop (n * sz)) := by
  rw [← List.take_append_drop n xs] at r
  obtain ⟨a, b, rfl, h1, h2⟩ := VRe_split r
  have e : a.length = n * sz := by rw [VRe_length h1, List.length_take, Nat.min_eq_left hn]
  rw [List.take_left' e, List.drop_left' e]
  exact ⟨h1, h2⟩
theorem VRe_get {w : World} {g : Ghost} {sz : Nat} {xs : List PV} {vs : List Value} {i : Nat} {x : PV} (h : xs[i]? = some x) (r : VRe w g sz xs vs) : VRc w g sz x ((vs.drop (i * sz)).take sz) := by
  obtain ⟨hi, hx⟩ := List.getElem?_eq_some_iff.1 h
  have h1 := (VRe_take (n := i) (by omega) r).2
  rw [List.drop_eq_getElem_cons hi, hx] at h1
  obtain ⟨us, vs', e, h2, _⟩ := VRe_cons.1 h1
  rw [e, List.take_left' h2.1]
  exact h2
theorem VRe_oneCell {w : World} {g : Ghost} {sz : Nat} : ∀ {xs : List PV} {vs : List Value}, VRe w g sz xs vs → ∀ u ∈ vs, u.oneCell' = true
  | [], vs, r, u, hu => by cases r; cases hu
  | x :: xs, vs, r, u, hu => by
    obtain ⟨us, vs', rfl, ⟨_, h1⟩, h2⟩ := VRe_cons.1 r
    rcases List.mem_append.1 hu with hu | hu
    · rcases h1 with ⟨cs, rfl, h0, h1⟩ | ⟨h0, v, rfl, h1⟩
      · exact VRl_oneCell h0 h1 u hu
      · rw [List.mem_singleton.1 hu]
        exact VR_oneCell h0 h1
    · exact VRe_oneCell h2 u hu
end Go.Proofs.YtjcjbpbkakfjdaaDoor.E
/- A logic of plain values, part 4: the state of a frame, and what a step that makes a value does to it. -/
namespace Go.Proofs.YtjcjbpbkakfjdaaDoor.E
open Go Go.RowKit
set_option linter.unusedVariables false
set_option linter.unusedSimpArgs false
variable {dq : List Deferred}
mutual
theorem toks_tail {w : World} {g : Ghost} : ∀ (x : PV) (v : Value), VR true w g x v → ∀ b ∈ toks x v, ∃ f, g b = .tail f
  | .lst sz xs own, v, r, b, hb => by
    obtain ⟨A, cap, rfl, h1, h2, h3, h4⟩ := r
    cases own with
    | false => simp [toks] at hb
    | true =>
      cases A with
      | none => simp [toks] at hb
      | some a =>
        by_cases hlt : xs.length < cap
        · obtain ⟨_, b', c, e, hA, _, hg, _⟩ := h4 rfl rfl hlt
          cases hA
          simp [toks, hlt] at hb
          subst hb
          exact ⟨_, hg⟩
        · simp [toks, hlt] at hb
  | .agg cs, v, r, b, hb => by
    obtain ⟨h0, vs, rfl, h1⟩ := r
    exact toksL_tail cs vs.toList h1 b (by simpa [toks] using hb)
  | .tup cs, v, r, b, hb => by
    obtain ⟨vs, rfl, h1⟩ := r
    exact toksL_tail cs vs.toList h1 b (by simpa [toks] using hb)
  | .int .., v, r, b, hb => by simp [toks] at hb
  | .bool .., v, r, b, hb => by simp [toks] at hb
  | .str .., v, r, b, hb => by simp [toks] at hb
  | .unit, v, r, b, hb => by simp [toks] at hb
  | .ptr .., v, r, b, hb => by simp [toks] at hb
  | .ip .., v, r, b, hb => by simp [toks] at hb
  | .row .., v, r, b, hb => by simp [toks] at hb
  | .map .., v, r, b, hb => by simp [toks] at hb
  | .fn .., v, r, b, hb => by simp [toks] at hb
  | .nilf, v, r, b, hb => by simp [toks] at hb
  | .mpI .., v, r, b, hb => by simp [toks] at hb
  | .nlit sz xs, v, r, b, hb => by
    obtain ⟨b', vs, rfl, _, _, _, h4⟩ := r
    obtain ⟨c, e, _, hg⟩ := h4 rfl
    simp [toks] at hb
    subst hb
    exact ⟨_, hg⟩
  | .xl n cs z, v, r, b, hb => by
    obtain ⟨b', cap, rfl, _, _, h4⟩ := r
    obtain ⟨c, e, vs, us, _, hg, _⟩ := h4 rfl
    simp [toks] at hb
    subst hb
    exact ⟨_, hg⟩
  | .sh n, v, r, b, hb => by simp [toks] at hb
theorem toksL_tail {w : World} {g : Ghost} : ∀ (xs : List PV) (vs : List Value), VRl true w g xs vs → ∀ b ∈ toksL xs vs, ∃ f, g b = .tail f
  | [], vs, r, b, hb => by simp [toksL] at hb
  | x :: xs, vs, r, b, hb => by
    obtain ⟨v, vs', rfl, h1, h2⟩ := r
    simp only [toksL, List.mem_append] at hb
    rcases hb with hb | hb
    · exact toks_tail x v h1 b hb
    · exact toksL_tail xs vs' h2 b hb
end
abbrev Heap := List (Nat × List PV)
def hget : Heap → Nat → Option (List PV)
  | [], _ => none
  | (c, cs) :: H, b => if c = b then some cs else hget H b
def hset : Heap → Nat → List PV → Heap
  | [], _, _ => []
  | (c, cs) :: H, b, ds => if c = b then (c, ds) :: H else (c, cs) :: hset H b ds
def globTab : List Nat := [0]
def GL (w : World) (g : Ghost) : Prop := ∀ n ∈ globTab, g n = .imm ∧ ∃ m e fz, w.heap[n]? = some (.cells #[.int .i64 m] e fz)
theorem GL.evol {out : List Nat} {w w' : World} {g g' : Ghost} (hE : Evol out w g w' g') (h : GL w g) : GL w' g' := fun n hn => by
  obtain ⟨h1, m, e, fz, h2⟩ := h n hn
  obtain ⟨k1, k2⟩ := hE.imm n (lt_of_heap h2) h1
  exact ⟨k2, m, e, fz, k1.trans h2⟩
def HRel (w : World) (g : Ghost) : Heap → Prop
  | [] => GL w g
  | (b, cs) :: H => hget H b = none ∧ g b = .mut ∧ cs.all PV.isCell = true ∧ (∃ c e, w.heap[b]? = some (.cells c e (0, 0)) ∧ VRl true w g cs c.toList) ∧ HRel w g H
def toksB (w : World) (b : Nat) (cs : List PV) : List Nat :=
  match w.heap[b]? with
  | some (.cells c _ _) => toksL cs c.toList
  | _ => []
def toksH (w : World) : Heap → List Nat
  | [] => []
  | (b, cs) :: H => toksB w b cs ++ toksH w H
structure WRel (out : List Nat) (w : World) (g : Ghost) : Prop where
  fresh : ∀ b, w.heap.size ≤ b → g b = .imm
  tl : ∀ b f, g b = .tail f → ∃ c e, w.heap[b]? = some (.cells c e (0, 0)) ∧ f ≤ c.size
  outT : ∀ b ∈ out, ∃ f, g b = .tail f
theorem WRel.lt {out : List Nat} {w : World} {g : Ghost} (h : WRel out w g) {b : Nat} (hb : g b ≠ .imm) : b < w.heap.size :=
  Nat.lt_of_not_le fun hle => hb (h.fresh b hle)
structure Rel (dq : List Deferred) (out : List Nat) (st : List PV) (H : Heap) (a : Act) (w : World) (g : Ghost) : Prop where
  wr : WRel out w g
  hp : HRel w g H
  tm : VRl true w g st a.tmps.toList
  un : ∀ b, (toksL st a.tmps.toList).count b + (toksH w H).count b + out.count b ≤ 1
  df : a.defers = dq
theorem toksH_tail {w : World} {g : Ghost} : ∀ {H : Heap}, HRel w g H → ∀ b ∈ toksH w H, ∃ f, g b = .tail f
  | [], _, b, hb => by simp [toksH] at hb
  | (c, cs) :: H, h, b, hb => by
    obtain ⟨_, _, _, ⟨cc, e, hc, hv⟩, hH⟩ := h
    simp only [toksH, List.mem_append] at hb
    rcases hb with hb | hb
    · simp only [toksB, hc] at hb
      exact toksL_tail cs _ hv b hb
    · exact toksH_tail hH b hb
theorem HRel.gl {w : World} {g : Ghost} : ∀ {H : Heap}, HRel w g H → GL w g
  | [], h => h
  | (_, _) :: H, h => HRel.gl (H := H) h.2.2.2.2
theorem HRel.mut_of_get {w : World} {g : Ghost} : ∀ {H : Heap} {b : Nat} {cs : List PV}, HRel w g H → hget H b = some cs →
    g b = .mut ∧ cs.all PV.isCell = true ∧ ∃ c e, w.heap[b]? = some (.cells c e (0, 0)) ∧ VRl true w g cs c.toList
  | [], b, cs, _, h => by simp [hget] at h
  | (c, ds) :: H, b, cs, r, h => by
    obtain ⟨_, h1, h2, h3, h4⟩ := r
    simp only [hget] at h
    split at h
    · rename_i e
      subst e
      cases h
      exact ⟨h1, h2, h3⟩
    · exact HRel.mut_of_get h4 h
theorem HRel.keep {out : List Nat} {w w' : World} {g g' : Ghost} (hE : Evol out w g w' g') (hm : ∀ b, g b = .mut → w'.heap[b]? = w.heap[b]? ∧ g' b = .mut) :
    ∀ {H : Heap}, HRel w g H → (∀ b ∈ toksH w H, b ∈ out) → HRel w' g' H ∧ toksH w' H = toksH w H
  | [], h, _ => ⟨GL.evol hE h, rfl⟩
  | (b, cs) :: H, h, ho => by
    obtain ⟨h0, h1, h2, ⟨c, e, hc, hv⟩, hH⟩ := h
    obtain ⟨k1, k2⟩ := hm b h1
    obtain ⟨i1, i2⟩ := HRel.keep hE hm hH (fun x hx => ho x (by simp [toksH, hx]))
    have ht : toksB w' b cs = toksB w b cs := by simp only [toksB, k1]
    refine ⟨⟨h0, k2, h2, ⟨c, e, k1.trans hc, VRl_mono hE true cs _ (fun _ x hx => ho x (by simp [toksH, toksB, hc, hx])) hv⟩, i1⟩, by simp only [toksH, ht, i2]⟩
structure Step0 (tk : List Nat) (w : World) (g : Ghost) (w' : World) (g' : Ghost) : Prop where
  os : w'.os = w.os
  tape : w'.tape = w.tape
  output : w'.output = w.output
  size : w.heap.size ≤ w'.heap.size
  old : ∀ b, b < w.heap.size → b ∉ tk → w'.heap[b]? = w.heap[b]? ∧ g' b = g b
  tail : ∀ b ∈ tk, ∀ f c e fz, g b = .tail f → w.heap[b]? = some (.cells c e fz) → ∃ c' fz', w'.heap[b]? = some (.cells c' e fz') ∧ c'.toList.take f = c.toList.take f ∧ (g' b = .imm ∨ ∃ f', f ≤ f' ∧ g' b = .tail f')
  fresh : ∀ b, w'.heap.size ≤ b → g' b = .imm
  tl : ∀ b f, g' b = .tail f → b ∈ tk ∨ w.heap.size ≤ b → ∃ c e, w'.heap[b]? = some (.cells c e (0, 0)) ∧ f ≤ c.size
structure Step (tk : List Nat) (w : World) (g : Ghost) (w' : World) (g' : Ghost) (r : PV) (v : Value) : Prop extends Step0 tk w g w' g' where
  rv : VR true w' g' r v
  rt : ∀ b, (toks r v).count b ≤ 1
  rs : ∀ b ∈ toks r v, b ∈ tk ∨ w.heap.size ≤ b
theorem Step.same {out : List Nat} {w : World} {g : Ghost} {r : PV} {v : Value} (hw : WRel out w g) (h : VR true w g r v) (ht : toks r v = []) : Step [] w g w g r v :=
  ⟨⟨rfl, rfl, rfl, Nat.le_refl _, fun _ _ _ => ⟨rfl, rfl⟩, (fun _ h => by cases h), hw.fresh, fun b f hf _ => hw.tl b f hf⟩, h, by simp [ht], by simp [ht]⟩
theorem Step.move {out : List Nat} {w : World} {g : Ghost} {r : PV} {v : Value} (hw : WRel out w g) (h : VR true w g r v) (hu : ∀ b, (toks r v).count b ≤ 1) : Step (toks r v) w g w g r v :=
  ⟨⟨rfl, rfl, rfl, Nat.le_refl _, fun _ _ _ => ⟨rfl, rfl⟩, fun b hb f c e fz hf hc => ⟨c, fz, hc, rfl, .inr ⟨f, Nat.le_refl _, hf⟩⟩, hw.fresh, fun b f hf _ => hw.tl b f hf⟩, h, hu, fun b hb => .inl hb⟩
section
variable {tk out : List Nat} {w w' : World} {g g' : Ghost} {r : PV} {v : Value}
theorem Step0.evol (h : Step0 tk w g w' g') (htk : ∀ b ∈ tk, ∃ f, g b = .tail f) (hout : ∀ b ∈ out, b < w.heap.size ∧ b ∉ tk) : Evol out w g w' g' := by
  refine ⟨h.os, h.tape, h.output, h.size, fun b hb hi => ?_, fun b f c e fz _ hf hc => ?_, fun b hb => ?_⟩
  · have hn : b ∉ tk := fun hm => by obtain ⟨f, hf⟩ := htk b hm; rw [hf] at hi; cases hi
    obtain ⟨h1, h2⟩ := h.old b hb hn
    exact ⟨h1, h2.trans hi⟩
  · by_cases hm : b ∈ tk
    · exact h.tail b hm f c e fz hf hc
    · obtain ⟨h1, h2⟩ := h.old b (lt_of_heap hc) hm
      exact ⟨c, fz, h1.trans hc, rfl, .inr ⟨f, Nat.le_refl _, h2.trans hf⟩⟩
  · obtain ⟨h1, h2⟩ := hout b hb
    obtain ⟨h3, h4⟩ := h.old b h1 h2
    exact ⟨h3, h4⟩
theorem Step0.wrel (h : Step0 tk w g w' g') (hw : WRel out w g) (hout : ∀ b ∈ out, b ∉ tk) : WRel out w' g' := by
  refine ⟨h.fresh, fun b f hf => ?_, fun b hb => ?_⟩
  · by_cases hm : b ∈ tk
    · exact h.tl b f hf (.inl hm)
    · by_cases hl : b < w.heap.size
      · obtain ⟨h1, h2⟩ := h.old b hl hm
        obtain ⟨c, e, h3, h4⟩ := hw.tl b f (h2 ▸ hf)
        exact ⟨c, e, h1.trans h3, h4⟩
      · exact h.tl b f hf (.inr (by omega))
  · obtain ⟨f, hf⟩ := hw.outT b hb
    have hl := hw.lt (b := b) (by rw [hf]; simp)
    exact ⟨f, (h.old b hl (hout b hb)).2.trans hf⟩
end
def putSt (st : List PV) (d : Option Nat) (x : PV) : List PV :=
  match d with
  | some i => st.set i x
  | none => st
theorem count_mem_zero {l : List Nat} {b : Nat} (h : b ∉ l) : l.count b = 0 := List.count_eq_zero.2 h
theorem count_put_le (b : Nat) {o : Bool} {w : World} {g : Ghost} {st : List PV} {a : Act} {d : Option Nat} {x : PV} {v : Value} (h : VRl o w g st a.tmps.toList) :
    (toksL (putSt st d x) (a.put d v).tmps.toList).count b ≤ (toksL st a.tmps.toList).count b + (toks x v).count b := by
  cases d with
  | none => simp [putSt, Act.put]
  | some i =>
    simp only [putSt, Act.put, Array.toList_setIfInBounds]
    by_cases hi : i < st.length
    · have hl := VRl_length h
      have := count_toksL_set b st a.tmps.toList i x st[i] v (a.tmps.toList[i]'(by omega)) (List.getElem?_eq_getElem hi) (List.getElem?_eq_getElem (by omega))
      omega
    · rw [List.set_eq_of_length_le (by omega), List.set_eq_of_length_le (by rw [VRl_length h]; omega)]
      omega
theorem VRl_put {o : Bool} {w : World} {g : Ghost} {st : List PV} {a : Act} {d : Option Nat} {x : PV} {v : Value} (h : VRl o w g st a.tmps.toList) (hx : VR o w g x v) :
    VRl o w g (putSt st d x) (a.put d v).tmps.toList := by
  cases d with
  | none => exact h
  | some i =>
    simp only [putSt, Act.put, Array.toList_setIfInBounds]
    exact VRl_set i h hx
theorem step_rel {out tk : List Nat} {st st1 : List PV} {H : Heap} {a : Act} {w w' : World} {g g' : Ghost} {r : PV} {v : Value} {d : Option Nat}
    (h : Rel dq out st H a w g) (h1 : VRl true w g st1 a.tmps.toList) (hc : ∀ b, (toksL st1 a.tmps.toList).count b + tk.count b ≤ (toksL st a.tmps.toList).count b)
    (hs : Step tk w g w' g' r v) : Rel dq out (putSt st1 d r) H (a.put d v) w' g' ∧ Evol out w g w' g' := by
  have htk : ∀ b ∈ tk, ∃ f, g b = .tail f := fun b hb => by
    have h2 := hc b
    have h3 := List.count_pos_iff.2 hb
    exact toksL_tail st _ h.tm b (List.count_pos_iff.1 (by omega))
  have hno : ∀ (l : List Nat) b, (toksH w H).count b + out.count b = (toksH w H).count b + out.count b → b ∈ tk → (toksL st1 a.tmps.toList).count b = 0 ∧ (toksH w H).count b = 0 ∧ out.count b = 0 := fun _ b _ hb => by
    have h2 := hc b
    have h3 := List.count_pos_iff.2 hb
    have h4 := h.un b
    omega
  have hlt : ∀ b f, g b = .tail f → b < w.heap.size := fun b f hf => h.wr.lt (by rw [hf]; simp)
  have hno' : ∀ b ∈ tk, (toksL st1 a.tmps.toList).count b = 0 ∧ (toksH w H).count b = 0 ∧ out.count b = 0 := fun b hb => hno [] b rfl hb
  -- all that others own, and what this frame goes on to own
  have hE : Evol (out ++ toksL st1 a.tmps.toList ++ toksH w H) w g w' g' := hs.toStep0.evol htk fun b hb => by
    simp only [List.mem_append] at hb
    refine ⟨?_, fun hm => ?_⟩
    · rcases hb with (hb | hb) | hb
      · obtain ⟨f, hf⟩ := h.wr.outT b hb; exact hlt b f hf
      · obtain ⟨f, hf⟩ := toksL_tail st1 _ h1 b hb; exact hlt b f hf
      · obtain ⟨f, hf⟩ := toksH_tail h.hp b hb; exact hlt b f hf
    · obtain ⟨z1, z2, z3⟩ := hno' b hm
      rcases hb with (hb | hb) | hb
      · exact absurd (List.count_pos_iff.2 hb) (by omega)
      · exact absurd (List.count_pos_iff.2 hb) (by omega)
      · exact absurd (List.count_pos_iff.2 hb) (by omega)
  have hm : ∀ b, g b = .mut → w'.heap[b]? = w.heap[b]? ∧ g' b = .mut := fun b hb => by
    obtain ⟨k1, k2⟩ := hs.old b (h.wr.lt (by rw [hb]; simp)) (fun hm => by obtain ⟨f, hf⟩ := htk b hm; rw [hf] at hb; cases hb)
    exact ⟨k1, k2.trans hb⟩
  obtain ⟨hH, hT⟩ := HRel.keep hE hm h.hp (fun b hb => by simp [hb])
  refine ⟨⟨hs.toStep0.wrel h.wr (fun b hb hm => ?_), hH, ?_, fun b => ?_, ?_⟩, hE.sub (fun b hb => by simp [hb])⟩
  · have := (hno' b hm).2.2
    exact absurd (List.count_pos_iff.2 hb) (by omega)
  · exact VRl_put (VRl_mono hE true st1 _ (fun _ b hb => by simp [hb]) h1) hs.rv
  · rw [hT]
    have h2 := count_put_le b (d := d) (x := r) (v := v) h1
    have h3 := h.un b
    have h4 := hc b
    have h5 := hs.rt b
    by_cases hb : b ∈ toks r v
    · rcases hs.rs b hb with hm | hm
      · obtain ⟨z1, z2, z3⟩ := hno' b hm
        omega
      · have z1 : (toksL st1 a.tmps.toList).count b = 0 := count_mem_zero fun hh => by obtain ⟨f, hf⟩ := toksL_tail st1 _ h1 b hh; have := hlt b f hf; omega
        have z2 : (toksH w H).count b = 0 := count_mem_zero fun hh => by obtain ⟨f, hf⟩ := toksH_tail h.hp b hh; have := hlt b f hf; omega
        have z3 : out.count b = 0 := count_mem_zero fun hh => by obtain ⟨f, hf⟩ := h.wr.outT b hh; have := hlt b f hf; omega
        omega
    · have := count_mem_zero hb
      omega
  · have : (a.put d v).defers = a.defers := by cases d <;> rfl
    rw [this]
    exact h.df
end Go.Proofs.YtjcjbpbkakfjdaaDoor.E
/- A logic of plain values, part 5: operations on data, and that the model's operations come to the same. -/
namespace Go.Proofs.YtjcjbpbkakfjdaaDoor.E
open Go Go.RowKit
set_option linter.unusedVariables false
set_option linter.unusedSimpArgs false
inductive Arg where
  | t (i : Nat)
  | c (v : PV)
  deriving Inhabited
inductive PK where
  | mv (tk : Bool) (x : Arg)
  | pick (c a b : Arg)
  | bin (op : BinOp) (x y : Arg)
  | binB (ne : Bool) (x y : Arg)
  | eqS (ne : Bool) (ks : List Nat) (x y : Arg)
  | eqN (ne : Bool) (x : Arg)
  | cvM (x : Arg)
  | bad
  | un (op : UnOp) (x : Arg)
  | cvI (k : IntKind) (x : Arg)
  | cvS (x : Arg)
  | cvB (x : Arg)
  | idc (x : Arg)
  | fld (off sz : Nat) (ag : Bool) (x : Arg)
  | build (zero : List PV) (parts : List (Nat × Nat × Arg))
  | bsl (sz len : Nat) (ag : Bool) (zero : List PV) (parts : List (Nat × Arg)) (mu : Bool)
  | nl (sz len : Nat) (ag : Bool) (zero : List PV) (parts : List (Nat × Arg))
  | idx (x i : Arg)
  | iad (sz : Nat) (x i : Arg)
  | fad (off : Nat) (x : Arg)
  | ld (sz : Nat) (ag tk : Bool) (x : Arg)
  | sto (sz : Nat) (x v : Arg)
  | sli (sz : Nat) (x : Arg) (lo hi mx : Option Arg)
  | sls (x : Arg) (lo hi : Option Arg)
  | app (sz bytes : Nat) (x y : Arg)
  | len (s : Bool) (x : Arg)
  | mm (mx : Bool) (x y : Arg)
  | mk (sz bytes : Nat) (ag : Bool) (zero : List PV) (l c : Arg) (mu : Bool)
  | al (zero : List PV)
  | bx (sz : Nat) (x : Arg)
  | mkf (f : Fn) (first cap : List Arg)
  | callF (f : Nat) (args : List Arg) (tk : List Bool)
  | callV (f : Arg) (args : List Arg)
  | ext (tk : Bool) (x : Arg) (i : Nat)
  | nck (x : Arg)
  | bxI (sz : Nat) (x : Arg)
  | appR (sz bytes : Nat) (zero : List PV) (x y : Arg)
  | cpy (sz : Nat) (x y : Arg)
  | clr (sz : Nat) (zero : List PV) (x : Arg)
  | cap (x : Arg)
  | mvc (n : Nat) (x : Arg)
  | bldT (zero : List PV) (parts : List (Nat × Nat × Arg))
  deriving Inhabited
def argT (st : List PV) : Arg → PV
  | .t i => st.getD i .unit
  | .c v => v
def arg (st : List PV) (x : Arg) : PV := lend (argT st x)
def takeAt (st : List PV) : Arg → List PV
  | .t i => st.set i (lend (st.getD i .unit))
  | .c _ => st
def bitsP (op : BinOp) (k : IntKind) (a b : Int) : Option Int :=
  match op with
  | .and => some (k.wrap (BitVec.ofInt k.bits a &&& BitVec.ofInt k.bits b).toNat)
  | .or => some (k.wrap (BitVec.ofInt k.bits a ||| BitVec.ofInt k.bits b).toNat)
  | .xor => some (k.wrap (BitVec.ofInt k.bits a ^^^ BitVec.ofInt k.bits b).toNat)
  | .andNot => some (k.wrap (BitVec.ofInt k.bits a &&& ~~~(BitVec.ofInt k.bits b)).toNat)
  | _ => none
def lexLt : List Int → List Int → Bool
  | _, [] => false
  | [], _ :: _ => true
  | a :: x, b :: y => decide (a < b) || (decide (a = b) && lexLt x y)
def intP (op : BinOp) (k : IntKind) (a b : Int) : Option PV :=
  match op with
  | .add => some (.int k (k.wrap (a + b)))
  | .sub => some (.int k (k.wrap (a - b)))
  | .mul => some (.int k (k.wrap (a * b)))
  | .quo => if b = 0 then none else some (.int k (k.wrap (a.tdiv b)))
  | .rem => if b = 0 then none else some (.int k (a.tmod b))
  | .eql => some (.bool (decide (a = b)))
  | .neq => some (.bool (!decide (a = b)))
  | .lss => some (.bool (decide (a < b)))
  | .leq => some (.bool (decide (a ≤ b)))
  | .gtr => some (.bool (decide (b < a)))
  | .geq => some (.bool (decide (b ≤ a)))
  | op => (bitsP op k a b).map (.int k)
def strP (op : BinOp) (a b : List Int) : Option PV :=
  match op with
  | .add => if a.length + b.length ≤ 9223372036854775807 then some (.str (a ++ b)) else none
  | .eql => some (.bool (decide (a = b)))
  | .neq => some (.bool (!decide (a = b)))
  | .lss => some (.bool (lexLt a b))
  | .leq => some (.bool (lexLt a b || decide (a = b)))
  | .gtr => some (.bool (!(lexLt a b || decide (a = b))))
  | .geq => some (.bool (!lexLt a b))
  | _ => none
def binP (op : BinOp) : PV → PV → Option PV
  | .int k a, .int k' b =>
    match op with
    | .shl => if b < 0 then none else some (.int k (k.wrap (a * 2 ^ min b.toNat k.bits)))
    | .shr => if b < 0 then none else some (.int k (a.fdiv (2 ^ min b.toNat k.bits)))
    | op => if k = k' then intP op k a b else none
  | .str a, .str b => strP op a b
  | _, _ => none
theorem bytesOf_length (s : ByteArray) : (bytesOf s).length = s.size := by
  unfold bytesOf
  rw [List.length_map]
  rfl
theorem bytesOf_append (s t : ByteArray) : bytesOf (s ++ t) = bytesOf s ++ bytesOf t := by simp [bytesOf]
theorem u8_inj {a b : UInt8} : (a.toNat : Int) = (b.toNat : Int) ↔ a = b := by
  constructor
  · intro h
    exact UInt8.toNat_inj.1 (by omega)
  · rintro rfl; rfl
theorem bytesOf_inj {s t : ByteArray} : bytesOf s = bytesOf t ↔ s.data.toList = t.data.toList := by
  unfold bytesOf
  constructor
  · intro h
    exact List.map_inj_right (fun a b h => u8_inj.1 h) |>.1 h
  · intro h; rw [h]
theorem lexLt_eq : ∀ (a b : List UInt8), Op.bytesLess a b = lexLt (a.map fun c => (c.toNat : Int)) (b.map fun c => (c.toNat : Int))
  | _, [] => by simp [Op.bytesLess, lexLt]
  | [], _ :: _ => by simp [Op.bytesLess, lexLt]
  | a :: x, b :: y => by
    simp only [Op.bytesLess, lexLt, List.map_cons, lexLt_eq x y]
    congr 1
    · exact decide_eq_decide.2 (by rw [UInt8.lt_iff_toNat_lt]; omega)
    · congr 1
      rw [Bool.eq_iff_iff]
      simp
      constructor
      · rintro rfl; rfl
      · intro h; exact UInt8.toNat_inj.1 (by omega)
theorem strEq (s t : ByteArray) : (s.toList == t.toList) = decide (bytesOf s = bytesOf t) := by
  rw [Bool.eq_iff_iff, Go.ByteArray.toList_eq, Go.ByteArray.toList_eq]
  simp [bytesOf_inj]
theorem eqGuard_int (P : Program) (op : BinOp) (t : TypeId) (X Y : Operand) (k k' : IntKind) (a b : Int) (w : World) : (eqGuard op t X Y (.int k a) (.int k' b)).run P w = .ok () w := by
  unfold eqGuard
  split <;> rfl
theorem eqGuard_str (P : Program) (op : BinOp) (t : TypeId) (X Y : Operand) (a b : ByteArray) (w : World) : (eqGuard op t X Y (.string a) (.string b)).run P w = .ok () w := by
  unfold eqGuard
  split <;> rfl
theorem eqGuard_bool (P : Program) (op : BinOp) (t : TypeId) (X Y : Operand) (a b : Bool) (w : World) : (eqGuard op t X Y (.bool a) (.bool b)).run P w = .ok () w := by
  unfold eqGuard
  split <;> rfl
theorem intP_run {P : Program} {op : BinOp} {t : TypeId} {k : IntKind} {a b : Int} {r : PV} {w : World} {g : Ghost} (h : intP op k a b = some r) (hs : op ≠ .shl ∧ op ≠ .shr) :
    ∃ v, (binOp op t (.int k a) (.int k b)).run P w = .ok v w ∧ VR true w g r v ∧ toks r v = [] := by
  obtain ⟨h1, h2⟩ := hs
  cases op <;> simp only [intP, bitsP, Option.map_some, Option.map_none, Option.some.injEq, reduceCtorEq] at h
  case quo =>
    split at h
    · cases h
    · rename_i hb
      cases h
      exact ⟨_, by simp [binOp, Op.intDiv, hb], rfl, rfl⟩
  case rem =>
    split at h
    · cases h
    · rename_i hb
      cases h
      exact ⟨_, by simp [binOp, Op.intDiv, hb], rfl, rfl⟩
  all_goals first
    | (subst h; exact ⟨_, by simp [binOp, Op.intArith, Op.intBits, Op.intCmp] <;> rfl, rfl, rfl⟩)
    | (subst h; refine ⟨_, by simp [binOp, Op.intArith, Op.intBits, Op.intCmp]; rfl, ?_, rfl⟩; simp [VR] <;> rfl)
theorem strP_run {P : Program} {op : BinOp} {a b : ByteArray} {r : PV} {w : World} {g : Ghost} (h : strP op (bytesOf a) (bytesOf b) = some r) :
    ∃ v, (Op.stringOp op a b).run P w = .ok v w ∧ VR true w g r v ∧ toks r v = [] := by
  have e1 := strEq a b
  have e2 : Op.bytesLess a.toList b.toList = lexLt (bytesOf a) (bytesOf b) := by
    rw [Go.ByteArray.toList_eq, Go.ByteArray.toList_eq]
    exact lexLt_eq _ _
  cases op <;> simp only [strP, Option.some.injEq, reduceCtorEq] at h
  case add =>
    split at h
    · rename_i hl
      cases h
      rw [bytesOf_length, bytesOf_length] at hl
      refine ⟨.string (a ++ b), ?_, ⟨_, rfl, bytesOf_append a b⟩, by simp [toks]⟩
      have : ¬ ((a.size + b.size : Nat) : Int) > IntKind.i64.max := by simp [IntKind.max, IntKind.signed, IntKind.bits]; omega
      unfold Op.stringOp
      simp only [if_neg this]
      rfl
    · cases h
  all_goals
    subst h
    refine ⟨_, rfl, ?_, rfl⟩
    simp only [VR, e1, e2]
theorem binP_run {P : Program} {op : BinOp} {t : TypeId} {x y r : PV} {v u : Value} {X Y : Operand} {w : World} {g : Ghost} {o o' : Bool} (h : binP op x y = some r) (hx : VR o w g x v) (hy : VR o' w g y u) :
    ∃ z, (do eqGuard op t X Y v u; binOp op t v u : Sem Value).run P w = .ok z w ∧ VR true w g r z ∧ toks r z = [] := by
  unfold binP at h
  split at h
  · rename_i k a k' b
    cases hx
    cases hy
    split at h
    · split at h
      · cases h
      · rename_i hb
        cases h
        exact ⟨_, by simp [eqGuard_int, binOp, Op.shift, hb], rfl, rfl⟩
    · split at h
      · cases h
      · rename_i hb
        cases h
        exact ⟨_, by simp [eqGuard_int, binOp, Op.shift, hb], rfl, rfl⟩
    · rename_i h1 h2
      split at h
      · rename_i hk
        subst hk
        obtain ⟨z, h3, h4⟩ := intP_run (P := P) (t := t) (w := w) (g := g) h ⟨h1, h2⟩
        exact ⟨z, by simp [eqGuard_int, h3], h4⟩
      · cases h
  · obtain ⟨s, rfl, rfl⟩ := hx
    obtain ⟨s', rfl, rfl⟩ := hy
    obtain ⟨z, h3, h4⟩ := strP_run (P := P) (w := w) (g := g) h
    refine ⟨z, ?_, h4⟩
    have : (binOp op t (.string s) (.string s') : Sem Value) = Op.stringOp op s s' := by
      cases op <;> rfl
    simp [eqGuard_str, this, h3]
  · cases h
theorem equal_bool {P : Program} {t : TypeId} (ht : P.underlying t = some .bool) (a b : Bool) (w : World) : (Op.equal t (.bool a) (.bool b)).run P w = .ok (a == b) w := by
  show (Op.equalIn (9999 + 1) t (.bool a) (.bool b)).run P w = _
  rw [Op.equalIn]
  simp only [Sem.run_bind, run_underlying ht, Result.andThen_ok]
  rfl
def binBP (ne : Bool) : PV → PV → Option PV
  | .bool a, .bool b => some (.bool (if ne then a != b else a == b))
  | _, _ => none
theorem binBP_run {P : Program} {ne : Bool} {t : TypeId} {x y r : PV} {v u : Value} {X Y : Operand} {w : World} {g : Ghost} {o o' : Bool} (ht : P.underlying t = some .bool) (h : binBP ne x y = some r) (hx : VR o w g x v) (hy : VR o' w g y u) :
    ∃ z, (do eqGuard (if ne then .neq else .eql) t X Y v u; binOp (if ne then .neq else .eql) t v u : Sem Value).run P w = .ok z w ∧ VR true w g r z ∧ toks r z = [] := by
  unfold binBP at h
  split at h
  · rename_i a b
    cases hx
    cases hy
    cases h
    cases ne
    · exact ⟨.bool (a == b), by simp only [Sem.run_bind, eqGuard_bool, Result.andThen_ok, Bool.false_eq_true, if_false, binOp, equal_bool ht, Sem.run_pure], rfl, rfl⟩
    · exact ⟨.bool (a != b), by simp only [Sem.run_bind, eqGuard_bool, Result.andThen_ok, if_true, binOp, equal_bool ht, Sem.run_pure]; rfl, rfl, rfl⟩
  · cases h
def unP (op : UnOp) : PV → Option PV
  | .int k n => match op with
    | .neg => some (.int k (k.wrap (0 - n)))
    | .xor => (bitsP .xor k (if k.signed then -1 else k.max) n).map (.int k)
    | _ => none
  | .bool b => match op with
    | .not => some (.bool (!b))
    | _ => none
  | _ => none
theorem unP_run {P : Program} {op : UnOp} {x r : PV} {v : Value} {w : World} {g : Ghost} {o : Bool} (h : unP op x = some r) (hx : VR o w g x v) :
    ∃ z, (Op.unary op v).run P w = .ok z w ∧ VR true w g r z ∧ toks r z = [] := by
  unfold unP at h
  split at h
  · cases hx
    split at h
    · cases h
      exact ⟨_, rfl, rfl, rfl⟩
    · cases h
      exact ⟨_, rfl, rfl, rfl⟩
    · cases h
  · cases hx
    split at h
    · cases h
      exact ⟨_, rfl, rfl, rfl⟩
    · cases h
  · cases h
end Go.Proofs.YtjcjbpbkakfjdaaDoor.E
/- A logic of plain values, part 6: operations that read memory. -/
namespace Go.Proofs.YtjcjbpbkakfjdaaDoor.E
open Go Go.RowKit
set_option linter.unusedVariables false
set_option linter.unusedSimpArgs false
def isAggD : TypeDesc → Bool
  | .struct _ | .array _ _ => true
  | _ => false
theorem run_isAgg {P : Program} {t : TypeId} {d : TypeDesc} (h : P.underlying t = some d) (w : World) : (isAgg t).run P w = .ok (isAggD d) w := by
  unfold isAgg
  simp only [Sem.run_bind, run_underlying h, Result.andThen_ok]
  cases d <;> rfl
theorem run_sizeOf {P : Program} {t : TypeId} {i : TypeInfo} (h : P.info? t = some i) (w : World) : (sizeOf t).run P w = .ok i.size w := by
  simp [sizeOf, typeInfo, h]
theorem addr_add (b o n : Nat) : (⟨b, o, none⟩ : Addr).add n = ⟨b, o + n, none⟩ := by
  unfold Addr.add
  split
  · subst_vars; rfl
  · rfl
theorem Readable.cell {w : World} {g : Ghost} {b off n : Nat} {vs : List Value} (h : Readable w g b off n vs) {j : Nat} {v : Value} (hj : vs[j]? = some v) : w.cell? ⟨b, off + j, none⟩ = some v := by
  obtain ⟨h3, h⟩ := h
  have hlt := (List.getElem?_eq_some_iff.1 hj).1
  obtain ⟨c, e, fz, h1, h2, _⟩ := h.resolve_left (by omega)
  unfold World.cell?
  simp only [h1, Option.isSome_none, Bool.false_eq_true, if_false]
  rw [← h2, List.getElem?_take] at hj
  split at hj
  · rw [List.getElem?_drop] at hj
    simpa using hj
  · cases hj
theorem Readable.part {w : World} {g : Ghost} {b off n : Nat} {vs : List Value} (h : Readable w g b off n vs) (lo m : Nat) (hm : lo + m ≤ n) : Readable w g b (off + lo) m ((vs.drop lo).take m) := by
  obtain ⟨h3, h⟩ := h
  refine ⟨by rw [List.length_take, List.length_drop, h3]; omega, ?_⟩
  by_cases hm0 : m = 0
  · exact .inl hm0
  obtain ⟨c, e, fz, h1, h2, h4⟩ := h.resolve_left (by omega)
  refine .inr ⟨c, e, fz, h1, ?_, ?_⟩
  · rw [← h2, List.drop_take, List.take_take, List.drop_drop, Nat.min_eq_left (by omega)]
  · rcases h4 with h4 | ⟨f, h4, h5⟩
    · exact .inl h4
    · exact .inr ⟨f, h4, by omega⟩
theorem run_loadVar {P : Program} {t : TypeId} {d : TypeDesc} {i : TypeInfo} (ht : P.underlying t = some d) (hi : P.info? t = some i) {w : World} {b o : Nat} {us : List Value}
    (hl : us.length = i.size) (hc : ∀ j v, us[j]? = some v → w.cell? ⟨b, o + j, none⟩ = some v) :
    (isAggD d = true → (loadVar t ⟨b, o, none⟩).run P w = .ok (.agg us.toArray) w) ∧ (isAggD d = false → ∀ v, us[0]? = some v → (loadVar t ⟨b, o, none⟩).run P w = .ok v w) := by
  constructor
  · intro ha
    have := run_loadCells_list (P := P) w ⟨b, o, none⟩ us (fun j v hv => by rw [addr_add]; exact hc j v hv)
    rw [hl] at this
    simp [loadVar, run_isAgg ht, ha, run_sizeOf hi, this]
  · intro ha v hv
    have := hc 0 v hv
    rw [Nat.add_zero] at this
    simp [loadVar, run_isAgg ht, ha, run_load, this]
def cellsOf : PV → List PV
  | .agg cs => cs
  | x => [x]
def partP (sz : Nat) (ag : Bool) (cs : List PV) (off : Nat) : Option PV :=
  if off + sz ≤ cs.length then (if ag then some (.agg ((cs.drop off).take sz)) else cs[off]?) else none
theorem VRc_cells {w : World} {g : Ghost} {sz : Nat} {x : PV} {us : List Value} (h : VRc w g sz x us) : (cellsOf x).all PV.isCell = true ∧ (cellsOf x).length = sz ∧ VRl false w g (cellsOf x) us := by
  obtain ⟨hl, h⟩ := h
  rcases h with ⟨cs, rfl, h1, h2⟩ | ⟨h1, v, rfl, h2⟩
  · exact ⟨h1, by show cs.length = sz; rw [← VRl_length h2, hl], h2⟩
  · have e : cellsOf x = [x] := by cases x <;> first | rfl | cases h1
    rw [e]
    exact ⟨by simp [h1], by simpa using hl, v, [], rfl, h2, rfl⟩
theorem all_drop_take {cs : List PV} (h : cs.all PV.isCell = true) (a b : Nat) : ((cs.drop a).take b).all PV.isCell = true := by
  rw [List.all_eq_true] at h ⊢
  intro x hx
  exact h x (List.mem_of_mem_drop (List.mem_of_mem_take hx))
theorem partP_spec {w : World} {g : Ghost} {sz : Nat} {ag : Bool} {cs : List PV} {off : Nat} {r : PV} {us : List Value} (h : partP sz ag cs off = some r) (hc : cs.all PV.isCell = true) (hr : VRl false w g cs us) (hsz : ag = false → sz = 1) :
    off + sz ≤ us.length ∧ ((us.drop off).take sz).length = sz ∧ (ag = true → VR true w g (lend r) (.agg ((us.drop off).take sz).toArray)) ∧ (ag = false → ∃ v, ((us.drop off).take sz)[0]? = some v ∧ VR true w g (lend r) v) := by
  unfold partP at h
  split at h
  · rename_i hle
    have hl := VRl_length hr
    refine ⟨by omega, by rw [List.length_take, List.length_drop]; omega, fun ha => ?_, fun ha => ?_⟩
    · subst ha
      simp only [if_true, Option.some.injEq] at h
      subst h
      refine VR_lend _ _ ⟨all_drop_take hc _ _, _, rfl, ?_⟩
      exact (VRl_take sz (VRl_take off hr).2).1
    · subst ha
      simp only [Bool.false_eq_true, if_false] at h
      obtain ⟨v, h1, h2⟩ := VRl_get hr h
      refine ⟨v, ?_, VR_lend _ _ h2⟩
      rw [List.getElem?_take, if_pos (by have := hsz rfl; omega), List.getElem?_drop]
      simpa using h1
  · cases h
def ldP (sz : Nat) (ag : Bool) (H : Heap) : PV → Option PV
  | .ip s xs i off => (xs[i]?).bind fun x => (partP sz ag (cellsOf x) off).map lend
  | .ptr (some (b, off)) => (hget H b).bind fun cs => (partP sz ag cs off).map lend
  | _ => none
theorem toks_of_lend {x : PV} {v : Value} : toks (lend x) v = [] := toks_lend x v
theorem ldP_run {P : Program} {t : TypeId} {d : TypeDesc} {i : TypeInfo} (ht : P.underlying t = some d) (hi : P.info? t = some i) (h1 : isAggD d = false → i.size = 1)
    {w : World} {g : Ghost} {H : Heap} (hH : HRel w g H) {x r : PV} {v : Value} {o : Bool} (h : ldP i.size (isAggD d) H x = some r) (hx : VR o w g x v) :
    ∃ z, (Instr.loadAt t v).run P w = .ok z w ∧ VR true w g r z ∧ toks r z = [] := by
  unfold ldP at h
  split at h
  · rename_i s xs ix off
    obtain ⟨b, base, vs, rfl, hlt, hr, he⟩ := hx
    obtain ⟨e, h2, h⟩ := Option.bind_eq_some_iff.mp h
    obtain ⟨q, h3, rfl⟩ := Option.map_eq_some_iff.mp h
    have hc := VRc_cells (VRe_get h2 he)
    have hvl := VRe_length he
    obtain ⟨p1, p2, p3, p4⟩ := partP_spec h3 hc.1 hc.2.2 h1
    have hus : ((vs.drop (ix * s)).take s).length = s := by rw [VRl_length hc.2.2, hc.2.1]
    have hcell : ∀ j v, ((((vs.drop (ix * s)).take s).drop off).take i.size)[j]? = some v → w.cell? ⟨b, base + ix * s + off + j, none⟩ = some v := by
      intro j v hj
      have hj2 : vs[ix * s + off + j]? = some v := by
        rw [List.getElem?_take] at hj
        split at hj
        · rw [List.getElem?_drop, List.getElem?_take] at hj
          split at hj
          · rw [List.getElem?_drop] at hj
            rw [← hj]; congr 1; omega
          · cases hj
        · cases hj
      have := hr.cell hj2
      rw [← this]; congr 2; omega
    obtain ⟨l1, l2⟩ := run_loadVar ht hi p2 hcell
    cases hd : isAggD d with
    | true => exact ⟨_, by simp [Instr.loadAt, Instr.sureAddr, l1 hd], p3 hd, toks_of_lend⟩
    | false =>
      obtain ⟨v, p5, p6⟩ := p4 hd
      exact ⟨v, by simp [Instr.loadAt, Instr.sureAddr, l2 hd v p5], p6, toks_of_lend⟩
  · rename_i b off
    cases hx
    obtain ⟨cs, h2, h⟩ := Option.bind_eq_some_iff.mp h
    obtain ⟨q, h3, rfl⟩ := Option.map_eq_some_iff.mp h
    obtain ⟨_, hc, c, e, hb, hv⟩ := hH.mut_of_get h2
    obtain ⟨p1, p2, p3, p4⟩ := partP_spec h3 hc (VRl_weak _ _ hv) h1
    have hcell : ∀ j v, ((c.toList.drop off).take i.size)[j]? = some v → w.cell? ⟨b, off + j, none⟩ = some v := by
      intro j v hj
      rw [List.getElem?_take] at hj
      split at hj
      · rw [List.getElem?_drop] at hj
        unfold World.cell?
        simp only [hb, Option.isSome_none, Bool.false_eq_true, if_false]
        simpa using hj
      · cases hj
    obtain ⟨l1, l2⟩ := run_loadVar ht hi p2 hcell
    cases hd : isAggD d with
    | true => exact ⟨_, by simp [Instr.loadAt, Instr.sureAddr, l1 hd], p3 hd, toks_of_lend⟩
    | false =>
      obtain ⟨v, p5, p6⟩ := p4 hd
      exact ⟨v, by simp [Instr.loadAt, Instr.sureAddr, l2 hd v p5], p6, toks_of_lend⟩
  · cases h
end Go.Proofs.YtjcjbpbkakfjdaaDoor.E
/- A logic of plain values, part 7: addresses, cuts, fields, conversions. -/
namespace Go.Proofs.YtjcjbpbkakfjdaaDoor.E
open Go Go.RowKit
set_option linter.unusedVariables false
set_option linter.unusedSimpArgs false
def iadP (sz : Nat) : PV → PV → Option PV
  | .lst s xs _, .int _ n => if 0 ≤ n ∧ n < xs.length ∧ s = sz then some (.ip s xs n.toNat 0) else none
  | .row b off len _, .int _ n => if 0 ≤ n ∧ n < len then some (.ptr (some (b, off + n.toNat * sz))) else none
  | _, _ => none
theorem iadP_run {P : Program} {t e : TypeId} {i : TypeInfo} (ht : P.underlying t = some (.slice e)) (hi : P.info? e = some i) {w : World} {g : Ghost} {x y r : PV} {v u : Value} {o o' : Bool}
    (h : iadP i.size x y = some r) (hx : VR o w g x v) (hy : VR o' w g y u) : ∃ z, (Instr.indexAt t v u).run P w = .ok z w ∧ VR true w g r z ∧ toks r z = [] := by
  unfold iadP at h
  split at h
  · rename_i s xs own k n
    split at h
    · rename_i hb
      obtain ⟨h1, h2, h3⟩ := hb
      cases h
      obtain ⟨A, cap, rfl, _, _, hr, _⟩ := hx
      cases hy
      rcases hr with hr | ⟨b, off, vs, rfl, hr, he⟩
      · subst hr; simp at h2; omega
      · refine ⟨.pointer (some ⟨b, off + n.toNat * i.size, none⟩), ?_, ⟨b, off, vs, by rw [h3]; rfl, by omega, hr, he⟩, by simp [toks]⟩
        simp [Instr.indexAt, asIntOf, run_underlying ht, run_sizeOf hi, h1, h2, addr_add]
    · cases h
  · rename_i b off len cap k n
    split at h
    · rename_i hb
      obtain ⟨h1, h2⟩ := hb
      cases h
      cases hx
      cases hy
      refine ⟨.pointer (some ⟨b, off + n.toNat * i.size, none⟩), ?_, rfl, by simp [toks]⟩
      simp [Instr.indexAt, asIntOf, run_underlying ht, run_sizeOf hi, h1, h2, addr_add]
    · cases h
  · cases h
def fadP (off : Nat) : PV → Option PV
  | .ip s xs i o => some (.ip s xs i (o + off))
  | .ptr (some (b, o)) => some (.ptr (some (b, o + off)))
  | _ => none
theorem fadP_run {P : Program} {s : TypeId} {fields : Array Field} {f : Field} {fi : Nat} {i : TypeInfo} (hs : P.underlying s = some (.struct fields)) (hf : fields[fi]? = some f) (hi : P.info? f.type = some i) (h0 : i.size ≠ 0)
    {w : World} {g : Ghost} {x r : PV} {v : Value} {o : Bool} (h : fadP f.offset x = some r) (hx : VR o w g x v) : ∃ z, (Instr.fieldAt s v fi).run P w = .ok z w ∧ VR true w g r z ∧ toks r z = [] := by
  unfold fadP at h
  split at h
  · cases h
    obtain ⟨b, base, vs, rfl, h1, h2, h3⟩ := hx
    refine ⟨_, ?_, ⟨b, base, vs, rfl, h1, h2, h3⟩, by simp [toks]⟩
    simp [Instr.fieldAt, run_underlying hs, hf, Instr.sureAddr, fieldPlace, run_sizeOf hi, h0, addr_add, Nat.add_assoc]
  · cases h
    cases hx
    refine ⟨_, ?_, rfl, by simp [toks]⟩
    simp [Instr.fieldAt, run_underlying hs, hf, Instr.sureAddr, fieldPlace, run_sizeOf hi, h0, addr_add]
  · cases h
def fldP (off sz : Nat) (ag : Bool) : PV → Option PV
  | .agg cs => (partP sz ag cs off).map lend
  | _ => none
theorem toList_extract' {α : Type} (a : Array α) (i j : Nat) : (a.extract i j).toList = (a.toList.drop i).take (j - i) := by simp
theorem fldP_run {P : Program} {s : TypeId} {fields : Array Field} {f : Field} {fi : Nat} {i : TypeInfo} {d : TypeDesc} (hs : P.underlying s = some (.struct fields)) (hf : fields[fi]? = some f) (hi : P.info? f.type = some i) (hd : P.underlying f.type = some d) (h0 : isAggD d = false → i.size = 1)
    {w : World} {g : Ghost} {x r : PV} {v : Value} {o : Bool} (h : fldP f.offset i.size (isAggD d) x = some r) (hx : VR o w g x v) : ∃ z, (Instr.field s v fi).run P w = .ok z w ∧ VR true w g r z ∧ toks r z = [] := by
  unfold fldP at h
  split at h
  · rename_i cs
    obtain ⟨q, h3, rfl⟩ := Option.map_eq_some_iff.mp h
    obtain ⟨hc, us, rfl, hv⟩ := hx
    obtain ⟨p1, p2, p3, p4⟩ := partP_spec h3 hc (VRl_weak _ _ hv) h0
    cases ha : isAggD d with
    | true =>
      refine ⟨_, ?_, p3 ha, toks_of_lend⟩
      have e : us.extract f.offset (f.offset + i.size) = ((us.toList.drop f.offset).take i.size).toArray := by
        apply Array.toList_inj.1
        rw [toList_extract', Nat.add_sub_cancel_left]
      simp only [Instr.field, part, asAgg, Sem.run_bind, run_underlying hs, Result.andThen_ok, hf, Sem.run_pure, run_isAgg hd, ha, if_true, run_sizeOf hi, e]
    | false =>
      obtain ⟨v, p5, p6⟩ := p4 ha
      refine ⟨v, ?_, p6, toks_of_lend⟩
      have e : us[f.offset]? = some v := by
        rw [List.getElem?_take, if_pos (by have := h0 ha; omega), List.getElem?_drop] at p5
        simpa using p5
      simp only [Instr.field, part, asAgg, Sem.run_bind, run_underlying hs, Result.andThen_ok, hf, Sem.run_pure, run_isAgg hd, ha, Bool.false_eq_true, if_false, e]
  · cases h
def idxP : PV → PV → Option PV
  | .str s, .int _ n => if 0 ≤ n then (s[n.toNat]?).map (.int .u8) else none
  | _, _ => none
theorem idxP_run {P : Program} {t : TypeId} (ht : P.underlying t = some .string) {w : World} {g : Ghost} {x y r : PV} {v u : Value} {o o' : Bool}
    (h : idxP x y = some r) (hx : VR o w g x v) (hy : VR o' w g y u) : ∃ z, (Instr.index t v u).run P w = .ok z w ∧ VR true w g r z ∧ toks r z = [] := by
  unfold idxP at h
  split at h
  · rename_i s k n
    split at h
    · rename_i h0
      obtain ⟨c, h1, rfl⟩ := Option.map_eq_some_iff.mp h
      obtain ⟨b, rfl, rfl⟩ := hx
      cases hy
      unfold bytesOf at h1
      rw [List.getElem?_map] at h1
      obtain ⟨q, h2, rfl⟩ := Option.map_eq_some_iff.mp h1
      have h3 : b[n.toNat]? = some q := by
        obtain ⟨hl, hq⟩ := List.getElem?_eq_some_iff.1 h2
        have hl2 : n.toNat < b.size := by rw [Array.length_toList] at hl; exact hl
        rw [getElem?_pos b n.toNat hl2]
        congr 1
      refine ⟨_, ?_, rfl, by simp [toks]⟩
      simp only [Instr.index, Sem.run_bind, asIntOf, Sem.run_pure, Result.andThen_ok, run_underlying ht, if_pos h0, h3]
    · cases h
  · cases h
def optN (d : Nat) : Option PV → Option Nat
  | none => some d
  | some (.int _ n) => if 0 ≤ n then some n.toNat else none
  | _ => none
def OptR (w : World) (g : Ghost) : Option PV → Option Value → Prop
  | none, none => True
  | some x, some v => ∃ o, VR o w g x v
  | _, _ => False
theorem run_bound {P : Program} {w : World} {g : Ghost} {x : PV} {v : Value} {o : Bool} {l y : Nat} {code : BoundsCode} (hx : VR o w g x v) (h : optN 0 (some x) = some l) (hy : l ≤ y) : (Instr.sliceBound v y code).run P w = .ok l w := by
  unfold optN at h
  cases x <;> try (simp at h)
  obtain ⟨h0, rfl⟩ := h
  cases hx
  simp only [Instr.sliceBound, asIntOf, Sem.run_bind, Sem.run_pure, Result.andThen_ok, Sem.run_ite]
  rw [if_pos ⟨h0, by omega⟩]
theorem optN_some (d : Nat) (x : PV) : optN d (some x) = optN 0 (some x) := by cases x <;> rfl
theorem run_bounds {P : Program} {w : World} {g : Ghost} {isS : Bool} {len cap l h m : Nat} {lo hi mx : Option PV} {vl vh vm : Option Value} (hl : OptR w g lo vl) (hh : OptR w g hi vh) (hm : OptR w g mx vm)
    (e1 : optN 0 lo = some l) (e2 : optN len hi = some h) (e3 : optN cap mx = some m) (hlh : l ≤ h) (hhm : h ≤ m) (hmc : m ≤ cap) (hmx : mx ≠ none → hi ≠ none) :
    (Instr.sliceBounds isS len cap vl vh vm).run P w = .ok (l, h, m) w := by
  have b1 : (match vm with | some v => Instr.sliceBound v cap (if isS = true then .slice3Acap else .slice3Alen) | none => pure cap : Sem Nat).run P w = .ok m w := by
    cases mx <;> cases vm <;> simp only [OptR] at hm
    · simp only [optN, Option.some.injEq] at e3; subst e3; rfl
    · obtain ⟨o, hm⟩ := hm
      rw [optN_some] at e3
      exact run_bound hm e3 hmc
  have b3 : ∀ v, vl = some v → ∀ code, (Instr.sliceBound v h code).run P w = .ok l w := by
    intro v hv code
    subst hv
    cases lo <;> simp only [OptR] at hl
    obtain ⟨o, hl⟩ := hl
    exact run_bound hl e1 hlh
  have b4 : vl = none → l = 0 := by
    intro hv
    subst hv
    cases lo <;> simp only [OptR] at hl
    simp only [optN, Option.some.injEq] at e1; exact e1.symm
  have b5 : ∀ v, vh = some v → ∀ code, (Instr.sliceBound v m code).run P w = .ok h w := by
    intro v hv code
    subst hv
    cases hi <;> simp only [OptR] at hh
    obtain ⟨o, hh⟩ := hh
    rw [optN_some] at e2
    exact run_bound hh e2 hhm
  have b6 : vh = none → h = len ∧ vm = none := by
    intro hv
    subst hv
    cases hi <;> simp only [OptR] at hh
    simp only [optN, Option.some.injEq] at e2
    refine ⟨e2.symm, ?_⟩
    cases mx with
    | none => cases vm <;> simp only [OptR] at hm; rfl
    | some q => exact absurd rfl (hmx (by simp))
  cases vh with
  | none =>
    obtain ⟨rfl, rfl⟩ := b6 rfl
    cases vl with
    | none => rw [b4 rfl]; simp only [Instr.sliceBounds, Sem.run_bind, b1, Result.andThen_ok, Sem.run_pure]
    | some v => simp only [Instr.sliceBounds, Sem.run_bind, b1, Result.andThen_ok, Sem.run_pure, b3 v rfl]
  | some u =>
    cases vm with
    | none =>
      cases vl with
      | none => rw [b4 rfl]; simp only [Instr.sliceBounds, Sem.run_bind, b1, Result.andThen_ok, Sem.run_pure, b5 u rfl]
      | some v => simp only [Instr.sliceBounds, Sem.run_bind, b1, Result.andThen_ok, Sem.run_pure, b3 v rfl, b5 u rfl]
    | some q =>
      cases vl with
      | none => rw [b4 rfl]; simp only [Instr.sliceBounds, Sem.run_bind, b1, Result.andThen_ok, Sem.run_pure, b5 u rfl]
      | some v => simp only [Instr.sliceBounds, Sem.run_bind, b1, Result.andThen_ok, Sem.run_pure, b3 v rfl, b5 u rfl]
def sliP (sz : Nat) (x : PV) (lo hi mx : Option PV) : Option PV :=
  match x with
  | .lst s xs _ => (optN 0 lo).bind fun l => (optN xs.length hi).bind fun h =>
    if l ≤ h ∧ h ≤ xs.length ∧ (s = sz ∨ xs.isEmpty = true) then
      match mx with
      | none => some (.lst s ((xs.take h).drop l) false)
      | some m => if optN 0 (some m) = some h ∧ hi.isSome = true then some (.lst s ((xs.take h).drop l) true) else none
    else none
  | .row b off len cap => (optN 0 lo).bind fun l => (optN len hi).bind fun h => (optN cap mx).bind fun m =>
    if l ≤ h ∧ h ≤ m ∧ m ≤ cap ∧ (mx.isSome = true → hi.isSome = true) then some (if m = l then .row b off 0 0 else .row b (off + l * sz) (h - l) (m - l)) else none
  | _ => none
theorem toks_full {sz : Nat} {xs : List PV} {A : Option Addr} {own : Bool} {n cap : Nat} (h : own = true → cap ≤ xs.length) : toks (.lst sz xs own) (.slice A n cap) = [] := by
  cases own with
  | false => simp [toks]
  | true =>
    cases A with
    | none => simp [toks]
    | some a => simp [toks, h rfl]
theorem sliP_run {P : Program} {t e : TypeId} {i : TypeInfo} (ht : P.underlying t = some (.slice e)) (hi : P.info? e = some i) {w : World} {g : Ghost} {x r : PV} {lo hh mx : Option PV} {v : Value} {vl vh vm : Option Value} {o : Bool}
    (h : sliP i.size x lo hh mx = some r) (hx : VR o w g x v) (hl : OptR w g lo vl) (hhr : OptR w g hh vh) (hm : OptR w g mx vm) :
    ∃ z, (Instr.sliceAt t v vl vh vm).run P w = .ok z w ∧ VR true w g r z ∧ toks r z = [] := by
  unfold sliP at h
  split at h
  · rename_i s xs own
    obtain ⟨l, e1, h⟩ := Option.bind_eq_some_iff.mp h
    obtain ⟨u, e2, h⟩ := Option.bind_eq_some_iff.mp h
    split at h
    · rename_i hb
      obtain ⟨b1, b2, b3⟩ := hb
      obtain ⟨A, cap, rfl, c1, c2, c3, _⟩ := hx
      have main : ∀ m own', (if own' = true then m = u else True) → u ≤ m → m ≤ cap → r = .lst s ((xs.take u).drop l) own' →
          VR true w g r (.slice (if m = l then A else A.map (fun a => a.add (l * i.size))) (u - l) (m - l)) ∧ toks r (.slice (if m = l then A else A.map (fun a => a.add (l * i.size))) (u - l) (m - l)) = [] := by
        intro m own' hown hum hmc hr
        subst hr
        have hlen : ((xs.take u).drop l).length = u - l := by rw [List.length_drop, List.length_take]; omega
        have hfull : own' = true → m - l ≤ ((xs.take u).drop l).length := fun ho => by rw [if_pos ho] at hown; omega
        refine ⟨⟨_, m - l, by rw [hlen], by omega, by omega, ?_, fun _ ho hlt => by have := hfull ho; omega⟩, toks_full hfull⟩
        by_cases hul : l = u
        · left
          apply List.eq_nil_of_length_eq_zero
          omega
        · have hne : xs ≠ [] := fun hn => by subst hn; simp at b2; omega
          rcases c3 with c3 | ⟨b, off, vs, rfl, hR, he⟩
          · exact absurd c3 hne
          · have hs : s = i.size := by
              rcases b3 with b3 | b3
              · exact b3
              · exact absurd (List.isEmpty_iff.1 b3) hne
            right
            have hml : m ≠ l := by omega
            refine ⟨b, off + l * i.size, (vs.drop (l * i.size)).take ((u - l) * i.size), ?_, ?_, ?_⟩
            · rw [if_neg hml]; simp [addr_add]
            · rw [hlen, hs]
              rw [hs] at hR
              exact hR.part _ _ (by rw [← Nat.add_mul]; exact Nat.mul_le_mul_right _ (by omega))
            · have q1 := (VRe_take (n := u) b2 he).1
              have q2 := (VRe_take (n := l) (by rw [List.length_take]; omega) q1).2
              have e : (vs.take (u * s)).drop (l * s) = (vs.drop (l * s)).take ((u - l) * s) := by rw [List.drop_take, ← Nat.sub_mul]
              rw [e, hs] at q2
              rw [hs]
              exact q2
      have run : ∀ m, (optN cap mx = some m) → u ≤ m → m ≤ cap → (mx ≠ none → hh ≠ none) → (Instr.sliceAt t (.slice A xs.length cap) vl vh vm).run P w = .ok (.slice (if m = l then A else A.map (fun a => a.add (l * i.size))) (u - l) (m - l)) w := by
        intro m e3 hum hmc hmx
        have hbs := run_bounds (P := P) (isS := true) (len := xs.length) (cap := cap) (m := m) hl hhr hm e1 e2 e3 b1 hum hmc hmx
        simp only [Instr.sliceAt, Instr.slice, Sem.run_bind, run_underlying ht, Result.andThen_ok, hbs, run_sizeOf hi, Sem.run_pure]
      cases mx with
      | none =>
        cases h
        obtain ⟨m1, m2⟩ := main cap false (by simp) (by omega) (by omega) rfl
        exact ⟨_, run cap rfl (by omega) (by omega) (fun h => absurd rfl h), m1, m2⟩
      | some q =>
        simp only at h
        split at h
        · rename_i hq
          cases h
          obtain ⟨m1, m2⟩ := main u true (by simp) (by omega) (by omega) rfl
          exact ⟨_, run u (by rw [optN_some]; exact hq.1) (by omega) (by omega) (fun _ hn => by have := hq.2; simp [hn] at this), m1, m2⟩
        · cases h
    · cases h
  · rename_i b off len cap
    obtain ⟨l, e1, h⟩ := Option.bind_eq_some_iff.mp h
    obtain ⟨u, e2, h⟩ := Option.bind_eq_some_iff.mp h
    obtain ⟨m, e3, h⟩ := Option.bind_eq_some_iff.mp h
    split at h
    · rename_i hb
      obtain ⟨b1, b2, b3, b4⟩ := hb
      simp only [VR] at hx
      subst hx
      have hbs := run_bounds (P := P) (isS := true) (len := len) (cap := cap) (m := m) hl hhr hm e1 e2 e3 b1 b2 b3 (fun h1 h2 => by
        subst h2
        cases mx with
        | none => exact h1 rfl
        | some q => exact absurd (b4 rfl) (by simp))
      refine ⟨.slice (if m = l then some ⟨b, off, none⟩ else (some ⟨b, off, none⟩ : Option Addr).map (fun a => a.add (l * i.size))) (u - l) (m - l), ?_, ?_, ?_⟩
      · simp only [Instr.sliceAt, Instr.slice, Sem.run_bind, run_underlying ht, Result.andThen_ok, hbs, run_sizeOf hi, Sem.run_pure]
      · cases h
        by_cases hml : m = l
        · rw [if_pos hml, if_pos hml]
          have h1 : u - l = 0 := by omega
          have h2 : m - l = 0 := by omega
          rw [h1, h2]
          rfl
        · rw [if_neg hml, if_neg hml]
          simp [VR, addr_add]
      · cases h
        split <;> simp [toks]
    · cases h
  · cases h
def slsP (x : PV) (lo hi : Option PV) : Option PV :=
  match x with
  | .str s => (optN 0 lo).bind fun l => (optN s.length hi).bind fun h => if l ≤ h ∧ h ≤ s.length then some (.str ((s.take h).drop l)) else none
  | _ => none
theorem bytesOf_extract (s : ByteArray) (l h : Nat) : bytesOf (s.extract l h) = ((bytesOf s).take h).drop l := by
  unfold bytesOf
  rw [← List.map_take, ← List.map_drop, List.drop_take]
  congr 1
  rw [ByteArray.data_extract]
  simp
theorem slsP_run {P : Program} {t : TypeId} (ht : P.underlying t = some .string) {w : World} {g : Ghost} {x r : PV} {lo hh : Option PV} {v : Value} {vl vh : Option Value} {o : Bool}
    (h : slsP x lo hh = some r) (hx : VR o w g x v) (hl : OptR w g lo vl) (hhr : OptR w g hh vh) :
    ∃ z, (Instr.sliceAt t v vl vh none).run P w = .ok z w ∧ VR true w g r z ∧ toks r z = [] := by
  unfold slsP at h
  split at h
  · obtain ⟨l, e1, h⟩ := Option.bind_eq_some_iff.mp h
    obtain ⟨u, e2, h⟩ := Option.bind_eq_some_iff.mp h
    split at h
    · rename_i hb
      cases h
      obtain ⟨s, rfl, rfl⟩ := hx
      rw [bytesOf_length] at e2 hb
      have hbs := run_bounds (P := P) (w := w) (g := g) (isS := false) (len := s.size) (cap := s.size) (m := s.size) (mx := none) (vm := none) hl hhr trivial e1 e2 rfl hb.1 hb.2 (Nat.le_refl _) (fun h => absurd rfl h)
      exact ⟨.string (s.extract l u), by simp [Instr.sliceAt, Instr.slice, run_underlying ht, hbs], ⟨_, rfl, bytesOf_extract s l u⟩, by simp [toks]⟩
    · cases h
  · cases h
def lenP (s : Bool) : PV → Option PV
  | .str l => if s then some (.int .i64 l.length) else none
  | .lst _ xs _ => if s then none else some (.int .i64 xs.length)
  | .row _ _ len _ => if s then none else some (.int .i64 len)
  | _ => none
theorem lenS_run {P : Program} {t ty : TypeId} (ht : P.underlying t = some .string) {w : World} {g : Ghost} {x r : PV} {v : Value} {o : Bool} (h : lenP true x = some r) (hx : VR o w g x v) :
    ∃ z, (Builtin.len_ #[t] ty #[v]).run P w = .ok z w ∧ VR true w g r z ∧ toks r z = [] := by
  unfold lenP at h
  split at h <;> simp at h
  subst h
  obtain ⟨s, rfl, rfl⟩ := hx
  exact ⟨.int .i64 s.size, by simp [Builtin.len_, run_underlying ht, goInt], by rw [bytesOf_length]; rfl, by simp [toks]⟩
theorem lenL_run {P : Program} {t ty e : TypeId} (ht : P.underlying t = some (.slice e)) {w : World} {g : Ghost} {x r : PV} {v : Value} {o : Bool} (h : lenP false x = some r) (hx : VR o w g x v) :
    ∃ z, (Builtin.len_ #[t] ty #[v]).run P w = .ok z w ∧ VR true w g r z ∧ toks r z = [] := by
  unfold lenP at h
  split at h <;> simp at h
  · rename_i xs _
    subst h
    obtain ⟨A, cap, rfl, _⟩ := hx
    exact ⟨.int .i64 xs.length, by simp [Builtin.len_, run_underlying ht, goInt], rfl, by simp [toks]⟩
  · rename_i len _
    subst h
    cases hx
    exact ⟨.int .i64 len, by simp [Builtin.len_, run_underlying ht, goInt], rfl, by simp [toks]⟩
def mmP (mx : Bool) : PV → PV → Option PV
  | .int k a, .int _ b => some (.int k (if mx then (if b > a then b else a) else (if b < a then b else a)))
  | _, _ => none
theorem mmP_run {P : Program} {ts : Array TypeId} {ty : TypeId} {mx : Bool} {w : World} {g : Ghost} {x y r : PV} {v u : Value} {o o' : Bool} (h : mmP mx x y = some r) (hx : VR o w g x v) (hy : VR o' w g y u) :
    ∃ z, ((if mx then Builtin.max_ else Builtin.min_) ts ty #[v, u]).run P w = .ok z w ∧ VR true w g r z ∧ toks r z = [] := by
  unfold mmP at h
  split at h
  · cases h
    cases hx
    cases hy
    cases mx
    · exact ⟨_, rfl, rfl, rfl⟩
    · exact ⟨_, rfl, rfl, rfl⟩
  · cases h
def extP (i : Nat) : PV → Option PV
  | .tup vs => vs[i]?
  | _ => none
def nckP : PV → Option PV
  | .ptr (some a) => some (.ptr (some a))
  | .ip s xs i o => some (.ip s xs i o)
  | _ => none
theorem nckP_run {P : Program} {a : Act} {x : Operand} {dst : Option Tmp} {ty : TypeId} {pos : String} {after : Array Edge} {gd : Option (Nat × Bool)} {w : World} {g : Ghost} {p r : PV} {o : Bool} (h : nckP p = some r) (hx : VR o w g p (a.eval x)) :
    (execOp a.eval ⟨dst, .nilCheck x, ty, pos, after, gd⟩).run P w = .ok (.value (a.eval x)) w ∧ VR true w g r (a.eval x) ∧ toks r (a.eval x) = [] := by
  unfold nckP at h
  split at h
  · cases h
    have hx' := hx
    simp only [VR] at hx
    exact ⟨by simp only [execOp, hx]; rfl, hx', by simp [toks]⟩
  · cases h
    have hx' := hx
    obtain ⟨b, base, vs, hx, _⟩ := hx
    exact ⟨by simp only [execOp, hx]; rfl, hx', by simp [toks]⟩
  · cases h
end Go.Proofs.YtjcjbpbkakfjdaaDoor.E
/- A logic of plain values, part 8: append, and what is made anew. -/
namespace Go.Proofs.YtjcjbpbkakfjdaaDoor.E
open Go Go.RowKit
set_option linter.unusedVariables false
set_option linter.unusedSimpArgs false
variable {dq : List Deferred}
theorem append_ways {P : Program} {t tx ty e : TypeId} {dx : TypeDesc} {i : TypeInfo} {z : Value} (ht : P.underlying t = some (.slice e)) (hx : P.underlying tx = some dx) (hdx : dx = .string ∨ ∃ e2, dx = .slice e2) (hi : P.info? e = some i) (hz : i.zero = some z)
    (hzs : z.cells.size = i.size) (w : World) (A : Option Addr) (n cap m : Nat) (x : Value) (olds news : List Value) (hl : news.length = m * i.size) (hlo : olds.length = n * i.size)
    (hlen : ∀ w' : World, (Builtin.lenOf x).run P w' = .ok m w') (hnew : ∀ w' : World, w'.heap = w.heap → (Builtin.firstCells i.size m x).run P w' = .ok news.toArray w')
    (hold : ∀ w' : World, w'.heap = w.heap → (Builtin.firstCells i.size n (.slice A n cap)).run P w' = .ok olds.toArray w') (h1 : ∀ u ∈ news, u.oneCell' = true)
    (hcap : n ≤ cap) (hcm : cap ≤ maxLen) (h63 : n + m ≤ maxLen) (hb : (n + m) * i.bytes ≤ 140737488355328)
    (htail : n < cap → ∃ b c e', A = some ⟨b, 0, none⟩ ∧ w.heap[b]? = some (.cells c e' (0, 0)) ∧ cap * i.size ≤ c.size) :
    ∃ v' w', (Builtin.append_ #[t, tx] ty #[.slice A n cap, x]).run P w = .ok v' w' ∧
      ((m = 0 ∧ v' = .slice A n cap ∧ w' = w) ∨
       (0 < m ∧ n + m ≤ cap ∧ ∃ b c e', A = some ⟨b, 0, none⟩ ∧ w.heap[b]? = some (.cells c e' (0, 0)) ∧ cap * i.size ≤ c.size ∧ v' = .slice A (n + m) cap ∧ w' = w.setRow b (c.toList.take (n * i.size) ++ news ++ c.toList.drop (n * i.size + news.length)).toArray) ∨
       (∃ cap' rest, n + m ≤ cap' ∧ cap' ≤ maxLen ∧ rest.size = (cap' - (n + m)) * i.size ∧ v' = .slice (some ⟨w.heap.size, 0, none⟩) (n + m) cap' ∧ w' = w.drew.alloc (.cells (olds.toArray ++ news.toArray ++ rest) e) ∧ cap < n + m ∧ rest = Builtin.zeroCells z.cells (cap' - (n + m)))) := by
  rcases hdx with rfl | ⟨e2, rfl⟩
  all_goals
    by_cases hroom : n + m ≤ cap
    · by_cases hm : m = 0
      · subst hm
        have hn : news = [] := List.eq_nil_of_length_eq_zero (by simpa using hl)
        subst hn
        refine ⟨.slice A n cap, w, ?_, .inl ⟨rfl, rfl, rfl⟩⟩
        cases A with
        | none => simp [Builtin.append_, run_underlying ht, run_underlying hx, sizeOf, typeInfo, hi, hlen, hcap, hnew w rfl]
        | some a => simp [Builtin.append_, run_underlying ht, run_underlying hx, sizeOf, typeInfo, hi, hlen, hcap, hnew w rfl, storeCells]
      · obtain ⟨b, c, e', rfl, hc, hs⟩ := htail (by omega)
        have hfit : n * i.size + 0 + news.length ≤ c.size := by
          have : (n + m) * i.size ≤ cap * i.size := Nat.mul_le_mul_right _ hroom
          rw [Nat.add_mul] at this
          omega
        have hst := run_storeCells_at P b (n * i.size) e' news 0 c w hc hfit h1
        simp only [Nat.add_zero] at hst
        refine ⟨.slice (some ⟨b, 0, none⟩) (n + m) cap, _, ?_, .inr (.inl ⟨by omega, hroom, b, c, e', rfl, hc, hs, rfl, rfl⟩)⟩
        simp [Builtin.append_, run_underlying ht, run_underlying hx, sizeOf, typeInfo, hi, hlen, hroom, hnew w rfl, addr_add, hst]
    · have h63' : ¬ (9223372036854775807 < ((n : Int) + (m : Int))) := by simp only [maxLen] at h63; omega
      have h48' : ¬ (281474976710656 < Builtin.nextslicecap (n + m) cap * i.bytes) := by have := growslice_fits (need := n + m) (old := cap) (bytes := i.bytes) (by omega) hb; omega
      refine ⟨_, _, ?_, .inr (.inr ⟨grownCap w (n + m) cap e, Builtin.zeroCells z.cells (grownCap w (n + m) cap e - (n + m)), grownCap_ge _ _ _ _, grownCap_le_maxLen _ _ _ _ h63, by rw [size_zeroCells, hzs], rfl, rfl, by omega, rfl⟩)⟩
      simp [Builtin.append_, run_underlying ht, run_underlying hx, sizeOf, typeInfo, zeroValue, hi, hz, hlen, hroom, h63', h48', Question.forced, hnew w.drew rfl, hold w.drew rfl, newRow, grownCap]
      rw [show (olds ++ news).toArray = olds.toArray ++ news.toArray by simp, Array.append_assoc]
def upd (g : Ghost) (b : Nat) (m : Mode) : Ghost := fun c => if c = b then m else g c
theorem upd_same (g : Ghost) (b : Nat) (m : Mode) : upd g b m b = m := by simp [upd]
theorem upd_ne (g : Ghost) {b c : Nat} (m : Mode) (h : c ≠ b) : upd g b m c = g c := by simp [upd, h]
theorem push_new (w : World) (o : Obj) : (w.alloc o).heap[w.heap.size]? = some o := heap_alloc_new w o
theorem push_old (w : World) (o : Obj) {k : Nat} (h : k < w.heap.size) : (w.alloc o).heap[k]? = w.heap[k]? := heap_alloc_old w o k h
theorem size_alloc (w : World) (o : Obj) : (w.alloc o).heap.size = w.heap.size + 1 := by
  show (w.heap.push o).size = _
  exact Array.size_push _
theorem Step0.alloc {out tk : List Nat} {w w1 : World} {g : Ghost} {c : Array Value} {e : TypeId} {fz : Nat × Nat} {m : Mode} (hw : WRel out w g) (hw1 : w1.heap = (w.alloc (.cells c e fz)).heap) (ho : w1.os = w.os) (ht : w1.tape = w.tape) (hu : w1.output = w.output)
    (htk : ∀ b ∈ tk, b < w.heap.size) (hm : ∀ f, m = .tail f → fz = (0, 0) ∧ f ≤ c.size) : Step0 tk w g w1 (upd g w.heap.size m) := by
  have hs : w1.heap.size = w.heap.size + 1 := by rw [hw1, size_alloc]
  have hold : ∀ k, k < w.heap.size → w1.heap[k]? = w.heap[k]? := fun k hk => by rw [hw1]; exact push_old w _ hk
  refine ⟨ho, ht, hu, by omega, fun b hb _ => ⟨hold b hb, upd_ne _ _ (by omega)⟩, fun b hb f c e fz hf hc => ⟨c, fz, (hold b (htk b hb)).trans hc, rfl, .inr ⟨f, Nat.le_refl _, ?_⟩⟩, fun b hb => ?_, fun b f hf hd => ?_⟩
  · rw [upd_ne _ _ (by have := htk b hb; omega)]; exact hf
  · rw [upd_ne _ _ (by omega)]; exact hw.fresh b (by omega)
  · by_cases hb : b = w.heap.size
    · subst hb
      rw [upd_same] at hf
      obtain ⟨h1, h2⟩ := hm f hf
      subst h1
      exact ⟨c, e, by rw [hw1]; exact push_new w _, h2⟩
    · rw [upd_ne _ _ hb] at hf
      obtain ⟨c', e', h1, h2⟩ := hw.tl b f hf
      exact ⟨c', e', (hold b (lt_of_heap h1)).trans h1, h2⟩
def emptyOr (s sz : Nat) (xs : List PV) : Prop := s = sz ∨ (s = 0 ∧ xs.isEmpty = true)
instance (s sz : Nat) (xs : List PV) : Decidable (emptyOr s sz xs) := by unfold emptyOr; infer_instance
def appP (sz bytes : Nat) : PV → PV → Option PV
  | .lst s xs true, .lst s2 ys _ => if emptyOr s sz xs ∧ (s2 = sz ∨ ys.isEmpty = true) ∧ (xs.length + ys.length) * bytes ≤ 140737488355328 then some (.lst sz (xs ++ ys) true) else none
  | .lst s xs true, .str t => if emptyOr s sz xs ∧ sz = 1 ∧ (xs.length + t.length) * bytes ≤ 140737488355328 then some (.lst sz (xs ++ t.map (.int .u8)) true) else none
  | _, _ => none
theorem VRe_map_int {w : World} {g : Ghost} : ∀ (t : List UInt8), VRe w g 1 ((t.map fun c => (c.toNat : Int)).map (PV.int .u8)) (t.map fun b => Value.int .u8 b.toNat)
  | [] => rfl
  | c :: t => ⟨rfl, rfl, _, _, rfl, rfl, VRe_map_int t⟩
theorem VR_lst_cells {P : Program} {w : World} {g : Ghost} {o own : Bool} {s sz cap : Nat} {xs : List PV} {A : Option Addr} (h : VR o w g (.lst s xs own) (.slice A xs.length cap)) (hs : s = sz ∨ xs.isEmpty = true) :
    ∃ vs, vs.length = xs.length * sz ∧ VRe w g sz xs vs ∧ (∀ u ∈ vs, u.oneCell' = true) ∧ (∀ w' : World, w'.heap = w.heap → ∀ cap', (Builtin.firstCells sz xs.length (.slice A xs.length cap')).run P w' = .ok vs.toArray w') ∧
      (xs = [] ∨ ∃ b off, A = some ⟨b, off, none⟩ ∧ Readable w g b off (xs.length * sz) vs) := by
  obtain ⟨A', cap', e, _, _, hr, _⟩ := h
  cases e
  by_cases hn : xs = []
  · subst hn
    refine ⟨[], by simp, rfl, by simp, fun w' hw' cap' => ?_, .inl rfl⟩
    cases A with
    | none => simp [Builtin.firstCells]
    | some a => simp [Builtin.firstCells, loadCells, loadCellsFrom]
  · have hs' : s = sz := by
      rcases hs with hs | hs
      · exact hs
      · exact absurd (List.isEmpty_iff.1 hs) hn
    subst hs'
    rcases hr with hr | ⟨b, off, vs, rfl, hR, he⟩
    · exact absurd hr hn
    · refine ⟨vs, VRe_length he, he, VRe_oneCell he, fun w' hw' cap' => ?_, .inr ⟨b, off, rfl, hR⟩⟩
      refine run_firstCells_some w' s xs.length _ _ _ vs (VRe_length he) (fun j v hj => ?_)
      rw [addr_add]
      have := hR.cell hj
      unfold World.cell? at this ⊢
      rw [hw']
      exact this
theorem toks_lst {sz : Nat} {xs : List PV} {n cap b off : Nat} (hn : n = xs.length) : toks (.lst sz xs true) (.slice (some ⟨b, off, none⟩) n cap) = if n < cap then [b] else [] := by
  subst hn
  simp [toks]
theorem count_one (b c : Nat) (p : Prop) [Decidable p] : (if p then [b] else []).count c ≤ 1 := by
  split
  · by_cases h : b = c
    · subst h; simp
    · simp [h]
  · simp
theorem app_step {P : Program} {out : List Nat} {t tx ty e : TypeId} {dx : TypeDesc} {i : TypeInfo} {z : Value} (ht : P.underlying t = some (.slice e)) (hx : P.underlying tx = some dx) (hdx : dx = .string ∨ ∃ e2, dx = .slice e2)
    (hi : P.info? e = some i) (hz : i.zero = some z) (hzs : z.cells.size = i.size) (h0 : 0 < i.size) (hby : 1 ≤ i.bytes) {w : World} {g : Ghost} (hw : WRel out w g)
    {s : Nat} {xs ys : List PV} {v x : Value} {news : List Value} {m : Nat} (hv : VR true w g (.lst s xs true) v) (hs : emptyOr s i.size xs) (hm : m = ys.length) (hl : news.length = m * i.size)
    (hlen : ∀ w' : World, (Builtin.lenOf x).run P w' = .ok m w') (hnew : ∀ w' : World, w'.heap = w.heap → (Builtin.firstCells i.size m x).run P w' = .ok news.toArray w') (h1 : ∀ u ∈ news, u.oneCell' = true)
    (hys : ∀ w' g', Evol [] w g w' g' → VRe w' g' i.size ys news) (hb : (xs.length + m) * i.bytes ≤ 140737488355328) :
    ∃ v' w' g', (Builtin.append_ #[t, tx] ty #[v, x]).run P w = .ok v' w' ∧ Step (toks (.lst s xs true) v) w g w' g' (.lst i.size (xs ++ ys) true) v' := by
  have hv0 := hv
  obtain ⟨A, cap, rfl, c1, c2, c3, c4⟩ := hv
  have hs' : s = i.size ∨ xs.isEmpty = true := hs.imp id (fun h => h.2)
  obtain ⟨olds, o1, o2, o3, o4, o5⟩ := VR_lst_cells (P := P) hv0 hs'
  have h63 : xs.length + m ≤ maxLen := by
    have : (xs.length + m) * 1 ≤ (xs.length + m) * i.bytes := Nat.mul_le_mul_left _ hby
    simp only [maxLen]
    omega
  have htail : xs.length < cap → s = i.size ∧ ∃ b c e', A = some ⟨b, 0, none⟩ ∧ w.heap[b]? = some (.cells c e' (0, 0)) ∧ g b = .tail (xs.length * i.size) ∧ cap * i.size ≤ c.size := by
    intro hlt
    obtain ⟨q0, b, c, e', q1, q2, q3, q4⟩ := c4 rfl rfl hlt
    have : s = i.size := by
      rcases hs with hs | hs
      · exact hs
      · omega
    subst this
    exact ⟨rfl, b, c, e', q1, q2, q3, q4⟩
  obtain ⟨v', w', hrun, hways⟩ := append_ways (ty := ty) ht hx hdx hi hz hzs w A xs.length cap m x olds news hl o1 hlen hnew (fun w' hw' => o4 w' hw' cap) h1 c1 c2 h63 hb
    (fun hlt => by obtain ⟨_, b, c, e', q1, q2, _, q4⟩ := htail hlt; exact ⟨b, c, e', q1, q2, q4⟩)
  have hlen2 : (xs ++ ys).length = xs.length + m := by rw [List.length_append, hm]
  rcases hways with ⟨m0, rfl, rfl⟩ | ⟨m0, hroom, b, c, e', rfl, hc, hcs, rfl, rfl⟩ | ⟨cap', rest, k1, k2, k3, rfl, rfl, _, _⟩
  · -- nothing is appended
    have hy0 : ys = [] := List.eq_nil_of_length_eq_zero (by omega)
    subst hy0
    rw [List.append_nil]
    refine ⟨_, _, g, hrun, ?_⟩
    have hVR : VR true w' g (.lst i.size xs true) (.slice A xs.length cap) := by
      refine ⟨A, cap, rfl, c1, c2, ?_, fun _ _ hlt => ?_⟩
      · rcases o5 with o5 | ⟨b, off, o5, o6⟩
        · exact .inl o5
        · exact .inr ⟨b, off, olds, o5, o6, o2⟩
      · obtain ⟨_, b, c, e', q1, q2, q3, q4⟩ := htail hlt
        exact ⟨h0, b, c, e', q1, q2, q3, q4⟩
    have ht : toks (.lst i.size xs true) (.slice A xs.length cap) = toks (.lst s xs true) (.slice A xs.length cap) := by cases A <;> simp [toks]
    rw [← ht]
    refine Step.move hw hVR fun b => ?_
    cases A with
    | none => simp [toks]
    | some a => simp only [toks]; exact count_one _ _ _
  · -- in place
    have hlt : xs.length < cap := by omega
    obtain ⟨hsz, b', c', e'', q1, q2, q3, q4⟩ := htail hlt
    cases q1
    rw [hc] at q2
    cases q2
    have hbl : b < w.heap.size := lt_of_heap hc
    have hcap : (xs.length + m) * i.size ≤ c.size := Nat.le_trans (Nat.mul_le_mul_right _ hroom) hcs
    rw [Nat.add_mul] at hcap
    generalize hcc : (c.toList.take (xs.length * i.size) ++ news ++ c.toList.drop (xs.length * i.size + news.length)).toArray = cc at hrun
    have hccs : cc.size = c.size := by
      rw [← hcc]
      simp only [List.size_toArray, List.length_append, List.length_take, List.length_drop, Array.length_toList]
      omega
    have hnewb : (w.setRow b cc).heap[b]? = some (.cells cc e' (0, 0)) := setRow_heap w b c cc e' _ hc
    have hoth : ∀ k, k ≠ b → (w.setRow b cc).heap[k]? = w.heap[k]? := fun k hk => setRow_other w b k cc hk
    have hsize : (w.setRow b cc).heap.size = w.heap.size := by simp [World.setRow]
    have htk : toks (.lst s xs true) (.slice (some ⟨b, 0, none⟩) xs.length cap) = [b] := by rw [toks_lst rfl, if_pos hlt]
    rw [htk]
    have hccl : cc.toList.take (xs.length * i.size) = c.toList.take (xs.length * i.size) := by
      rw [← hcc]
      simp only [List.append_assoc]
      exact List.take_left' (by have hq : c.toList.length = c.size := rfl; rw [List.length_take]; omega)
    have hS : Step0 [b] w g (w.setRow b cc) (upd g b (.tail ((xs.length + m) * i.size))) := by
      refine ⟨rfl, rfl, rfl, by omega, fun k hk hkb => ?_, fun k hk f c2 e2 fz hf hc2 => ?_, fun k hk => ?_, fun k f hf hd => ?_⟩
      · simp only [List.mem_singleton] at hkb
        exact ⟨hoth k hkb, upd_ne _ _ hkb⟩
      · simp only [List.mem_singleton] at hk
        subst hk
        rw [hc] at hc2
        cases hc2
        rw [q3] at hf
        cases hf
        exact ⟨cc, _, hnewb, hccl, .inr ⟨(xs.length + m) * i.size, by rw [Nat.add_mul]; omega, upd_same _ _ _⟩⟩
      · rw [hsize] at hk
        rw [upd_ne _ _ (by omega)]
        exact hw.fresh k hk
      · by_cases hkb : k = b
        · subst hkb
          rw [upd_same] at hf
          cases hf
          exact ⟨cc, e', hnewb, by rw [Nat.add_mul]; omega⟩
        · rw [upd_ne _ _ hkb] at hf
          obtain ⟨c2, e2, h2, h3⟩ := hw.tl k f hf
          exact ⟨c2, e2, (hoth k hkb).trans h2, h3⟩
    have hE : Evol [] w g (w.setRow b cc) (upd g b (.tail ((xs.length + m) * i.size))) := hS.evol (fun k hk => by simp only [List.mem_singleton] at hk; subst hk; exact ⟨_, q3⟩) (by simp)
    refine ⟨_, _, _, hrun, { hS with rv := ?_, rt := ?_, rs := ?_ }⟩
    · refine ⟨some ⟨b, 0, none⟩, cap, by rw [hlen2], by omega, c2, .inr ⟨b, 0, olds ++ news, rfl, readable_mk cc e' _ hnewb ?_ ?_ (.inr ⟨_, upd_same _ _ _, by rw [hlen2]; omega⟩), ?_⟩, fun _ _ _ => ⟨h0, b, cc, e', rfl, hnewb, by rw [hlen2]; exact upd_same _ _ _, by omega⟩⟩
      · rw [List.drop_zero, ← hcc, hlen2]
        have e1 : c.toList.take (xs.length * i.size) = olds := by
          rcases o5 with o5 | ⟨b2, off, o5, oln, oR⟩
          · subst o5
            simp only [List.length_nil, Nat.zero_mul] at o1 ⊢
            rw [List.eq_nil_of_length_eq_zero o1, List.take_zero]
          · cases o5
            by_cases hz0 : xs.length * i.size = 0
            · rw [hz0] at o1 ⊢
              rw [List.eq_nil_of_length_eq_zero o1, List.take_zero]
            obtain ⟨c2, e2, fz, o6, o7, _⟩ := oR.resolve_left hz0
            rw [hc] at o6
            cases o6
            rw [List.drop_zero] at o7
            exact o7
        rw [e1]
        exact List.take_left' (by rw [List.length_append, o1, hl, Nat.add_mul])
      · rw [List.length_append, o1, hl, hlen2, Nat.add_mul]
      · exact VRe_append (VRe_mono hE _ _ _ o2) (hys _ _ hE)
    · intro k
      rw [toks_lst hlen2.symm]
      exact count_one _ _ _
    · intro k hk
      rw [toks_lst hlen2.symm] at hk
      split at hk
      · exact .inl hk
      · cases hk
  · -- a new row
    have htl : ∀ b ∈ toks (.lst s xs true) (.slice A xs.length cap), ∃ f, g b = .tail f := toks_tail _ _ hv0
    have hsz : (olds.toArray ++ news.toArray ++ rest).size = cap' * i.size := by
      simp only [Array.size_append, List.size_toArray, o1, hl, k3, ← Nat.add_mul]
      congr 1
      omega
    have hfit : (xs.length + m) * i.size ≤ (olds.toArray ++ news.toArray ++ rest).size := by rw [hsz]; exact Nat.mul_le_mul_right _ k1
    have hS : Step0 (toks (.lst s xs true) (.slice A xs.length cap)) w g (w.drew.alloc (.cells (olds.toArray ++ news.toArray ++ rest) e)) (upd g w.heap.size (.tail ((xs.length + m) * i.size))) :=
      Step0.alloc hw rfl rfl rfl rfl (fun b hb => by obtain ⟨f, hf⟩ := htl b hb; exact hw.lt (by rw [hf]; simp)) (fun f hf => by cases hf; exact ⟨rfl, hfit⟩)
    have hE : Evol [] w g _ _ := hS.evol htl (by simp)
    have hnewb : (w.drew.alloc (.cells (olds.toArray ++ news.toArray ++ rest) e)).heap[w.heap.size]? = some (.cells (olds.toArray ++ news.toArray ++ rest) e (0, 0)) := push_new w.drew _
    refine ⟨_, _, _, hrun, { hS with rv := ?_, rt := ?_, rs := ?_ }⟩
    · refine ⟨_, cap', by rw [hlen2], by omega, k2, .inr ⟨w.heap.size, 0, olds ++ news, rfl, readable_mk _ e _ hnewb ?_ ?_ (.inr ⟨_, upd_same _ _ _, by rw [hlen2]; omega⟩), ?_⟩, fun _ _ _ => ⟨h0, w.heap.size, _, e, rfl, hnewb, by rw [hlen2]; exact upd_same _ _ _, by omega⟩⟩
      · rw [List.drop_zero, hlen2]
        simp only [Array.toList_append]
        exact List.take_left' (by rw [List.length_append, o1, hl, Nat.add_mul])
      · rw [List.length_append, o1, hl, hlen2, Nat.add_mul]
      · exact VRe_append (VRe_mono hE _ _ _ o2) (hys _ _ hE)
    · intro k
      rw [toks_lst hlen2.symm]
      exact count_one _ _ _
    · intro k hk
      rw [toks_lst hlen2.symm] at hk
      split at hk
      · simp only [List.mem_singleton] at hk
        exact .inr (by omega)
      · cases hk
theorem appP_run {P : Program} {out : List Nat} {t tx ty e : TypeId} {dx : TypeDesc} {i : TypeInfo} {z : Value} (ht : P.underlying t = some (.slice e)) (hx : P.underlying tx = some dx) (hdx : dx = .string ∨ ∃ e2, dx = .slice e2)
    (hi : P.info? e = some i) (hz : i.zero = some z) (hzs : z.cells.size = i.size) (h0 : 0 < i.size) (hby : 1 ≤ i.bytes) {w : World} {g : Ghost} (hw : WRel out w g)
    {p q r : PV} {v x : Value} (h : appP i.size i.bytes p q = some r) (hv : VR true w g p v) (hxv : VR false w g q x) :
    ∃ v' w' g', (Builtin.append_ #[t, tx] ty #[v, x]).run P w = .ok v' w' ∧ Step (toks p v) w g w' g' r v' := by
  unfold appP at h
  split at h
  · rename_i s xs s2 ys own
    split at h
    · rename_i hc
      obtain ⟨hc1, hc2, hc3⟩ := hc
      cases h
      have hxv0 := hxv
      obtain ⟨A, cap, rfl, _⟩ := hxv
      obtain ⟨news, o1, o2, o3, o4, o5⟩ := VR_lst_cells (P := P) hxv0 hc2
      exact app_step ht hx hdx hi hz hzs h0 hby hw hv hc1 rfl o1 (fun w' => rfl) (fun w' hw' => o4 w' hw' cap) o3 (fun w' g' hE => VRe_mono hE _ _ _ o2) hc3
    · cases h
  · rename_i s xs t
    split at h
    · rename_i hc
      obtain ⟨hc1, hc2, hc3⟩ := hc
      cases h
      obtain ⟨b, rfl, rfl⟩ := hxv
      have hlen : (bytesOf b).length = b.size := bytesOf_length b
      refine app_step ht hx hdx hi hz hzs h0 hby hw hv hc1 (m := b.size) (news := b.data.toList.map fun c => .int .u8 c.toNat) (by simp [hlen]) (by rw [hc2]; simp) (fun w' => rfl) (fun w' hw' => ?_) (fun u hu => ?_) (fun w' g' hE => ?_) (by rw [← hlen]; exact hc3)
      · simp only [Builtin.firstCells, Sem.run_pure]
        congr 1
        have : b.extract 0 b.size = b := by simp
        rw [this]
        apply Array.toList_inj.1
        simp
      · obtain ⟨c, _, rfl⟩ := List.mem_map.1 hu
        rfl
      · rw [hc2]
        exact VRe_map_int b.data.toList
    · cases h
  · cases h
end Go.Proofs.YtjcjbpbkakfjdaaDoor.E
/- A logic of plain values, part 9: conversions, structs and slices that are built, rows that are made. -/
namespace Go.Proofs.YtjcjbpbkakfjdaaDoor.E
open Go Go.RowKit
set_option linter.unusedVariables false
set_option linter.unusedSimpArgs false
def toInts : List PV → Option (List Int)
  | [] => some []
  | .int .u8 n :: xs => (toInts xs).map (n :: ·)
  | _ :: _ => none
def norm8 (n : Int) : Int := ((UInt8.ofNat n.toNat).toNat : Int)
theorem norm8_of {n : Int} (h : 0 ≤ n ∧ n < 256) : norm8 n = n := by
  unfold norm8
  rw [UInt8.toNat_ofNat']
  omega
def cvSP : PV → Option PV
  | .lst s xs _ => if s = 1 ∨ xs.isEmpty = true then (toInts xs).map fun l => .str (l.map norm8) else none
  | _ => none
theorem VRe_ints {w : World} {g : Ghost} : ∀ {xs : List PV} {l : List Int} {vs : List Value}, toInts xs = some l → VRe w g 1 xs vs → vs = l.map (Value.int .u8)
  | [], l, vs, h, r => by
    simp only [toInts, Option.some.injEq] at h
    subst h
    cases r
    rfl
  | x :: xs, l, vs, h, r => by
    unfold toInts at h
    split at h
    · rename_i h'; cases h'
    · rename_i n xs' h'
      cases h'
      obtain ⟨l', h1, rfl⟩ := Option.map_eq_some_iff.mp h
      obtain ⟨_, _, v, vs', rfl, h2, h3⟩ := r
      cases h2
      rw [VRe_ints h1 h3]
      rfl
    · cases h
theorem push_fold : ∀ (l : List Int) (s : ByteArray), bytesOf (l.foldl (fun r n => r.push (UInt8.ofNat n.toNat)) s) = bytesOf s ++ l.map norm8
  | [], s => by simp
  | n :: l, s => by
    rw [List.foldl_cons, push_fold l]
    simp [bytesOf, ByteArray.push, norm8]
theorem cvSP_run {P : Program} {w : World} {g : Ghost} {x r : PV} {v : Value} (h : cvSP x = some r) (hx : VR false w g x v) :
    ∃ z, (Conv.bytesToString v).run P w = .ok z w ∧ VR true w g r z ∧ toks r z = [] := by
  unfold cvSP at h
  split at h
  · rename_i s xs own
    split at h
    · rename_i hs
      obtain ⟨l, h1, rfl⟩ := Option.map_eq_some_iff.mp h
      have hx0 := hx
      obtain ⟨A, cap, rfl, _⟩ := hx
      obtain ⟨vs, o1, o2, o3, o4, o5⟩ := VR_lst_cells (P := P) hx0 hs
      have e := VRe_ints h1 o2
      cases A with
      | none =>
        have hn : xs = [] := by
          rcases o5 with o5 | ⟨b, off, o5, _⟩
          · exact o5
          · cases o5
        subst hn
        simp only [toInts, Option.some.injEq] at h1
        subst h1
        exact ⟨.string .empty, by simp [Conv.bytesToString], ⟨_, rfl, rfl⟩, by simp [toks]⟩
      | some a =>
        have hc := o4 w rfl cap
        simp only [Builtin.firstCells, Nat.mul_one] at hc
        rw [e] at hc
        refine ⟨_, run_bytesToString w a xs.length cap l hc, ⟨_, rfl, ?_⟩, by simp [toks]⟩
        rw [push_fold]
        rfl
    · cases h
  · cases h
def fillP (cs : List PV) : List (Nat × Nat × PV) → Option (List PV)
  | [] => some cs
  | (off, sz, v) :: rest => if (cellsOf v).length = sz ∧ off + sz ≤ cs.length ∧ (cellsOf v).all PV.isCell = true then fillP (cs.take off ++ cellsOf v ++ cs.drop (off + sz)) rest else none
theorem foldl_set (off : Nat) : ∀ (us : List Value) (j : Nat) (cells : Array Value), off + j + us.length ≤ cells.size →
    ((us.zipIdx j).foldl (fun cs (p : Value × Nat) => cs.setIfInBounds (off + p.2) p.1) cells).toList = cells.toList.take (off + j) ++ us ++ cells.toList.drop (off + j + us.length)
  | [], j, cells, h => by simp
  | u :: us, j, cells, h => by
    simp only [List.zipIdx_cons, List.foldl_cons]
    simp only [List.length_cons] at h
    rw [foldl_set off us (j + 1) (cells.setIfInBounds (off + j) u) (by rw [Array.size_setIfInBounds]; omega)]
    have hlt : off + j < cells.toList.length := by show off + j < cells.size; omega
    simp only [Array.toList_setIfInBounds, List.length_cons]
    rw [show off + (j + 1) = off + j + 1 by omega, show off + j + 1 + us.length = off + j + (us.length + 1) by omega]
    rw [List.take_succ_eq_append_getElem (by rw [List.length_set]; exact hlt), List.take_set_of_le (by omega), List.getElem_set_self, List.drop_set_of_lt (by omega)]
    simp
theorem VR_cells {o : Bool} {w : World} {g : Ghost} {x : PV} {v : Value} (hc : (cellsOf x).all PV.isCell = true) (h : VR o w g x v) : VRl o w g (cellsOf x) v.cells.toList ∧ toksL (cellsOf x) v.cells.toList = toks x v := by
  have one : x.isCell = true → VRl o w g (cellsOf x) v.cells.toList ∧ toksL (cellsOf x) v.cells.toList = toks x v := by
    intro hx
    have e : cellsOf x = [x] := by cases x <;> first | rfl | cases hx
    have ho := VR_oneCell hx h
    have e2 : v.cells = #[v] := by cases v <;> first | rfl | cases ho
    rw [e, e2]
    exact ⟨⟨v, [], rfl, h, rfl⟩, by simp [toksL]⟩
  cases x with
  | agg cs =>
    obtain ⟨_, vs, rfl, h1⟩ := h
    exact ⟨h1, by simp [cellsOf, toks, Value.cells]⟩
  | unit => simp [cellsOf, PV.isCell] at hc
  | tup cs => simp [cellsOf, PV.isCell] at hc
  | _ => exact one rfl
def PartsR (o : Bool) (w : World) (g : Ghost) (place : Nat → Option (Nat × Nat)) : List (Nat × Nat × PV) → List (Nat × Value) → Prop
  | [], qs => qs = []
  | p :: ps, qs => ∃ q qs', qs = q :: qs' ∧ place q.1 = some (p.1, p.2.1) ∧ VR o w g p.2.2 q.2 ∧ toks p.2.2 q.2 = [] ∧ PartsR o w g place ps qs'
theorem fillP_run {o : Bool} {w : World} {g : Ghost} {place : Nat → Option (Nat × Nat)} : ∀ {parts : List (Nat × Nat × PV)} {ps : List (Nat × Value)} {cs rs : List PV} {us : Array Value}, fillP cs parts = some rs → cs.all PV.isCell = true → VRl o w g cs us.toList → toksL cs us.toList = [] →
    PartsR o w g place parts ps →
    ∃ us', Instr.fill place us ps = some us' ∧ rs.all PV.isCell = true ∧ VRl o w g rs us'.toList ∧ toksL rs us'.toList = []
  | [], _, cs, rs, us, h, hc, hv, ht, hp => by
    cases hp
    cases h
    exact ⟨us, rfl, hc, hv, ht⟩
  | (off, sz, v) :: rest, _, cs, rs, us, h, hc, hv, ht, hp => by
      obtain ⟨⟨i, u⟩, ps, rfl, q1, q2, q3, hp⟩ := hp
      simp only at q1 q2 q3
      unfold fillP at h
      split at h
      · rename_i hb
        obtain ⟨b1, b2, b3⟩ := hb
        have hl := VRl_length hv
        obtain ⟨hcv, hct⟩ := VR_cells b3 q2
        have hcl := VRl_length hcv
        have hus : us.toList.length = us.size := rfl
        have hul : u.cells.toList.length = u.cells.size := rfl
        have key : (u.cells.zipIdx.foldl (fun cs (p : Value × Nat) => cs.setIfInBounds (off + p.2) p.1) us).toList = us.toList.take off ++ u.cells.toList ++ us.toList.drop (off + sz) := by
          rw [← Array.foldl_toList, Array.toList_zipIdx]
          have := foldl_set off u.cells.toList 0 us (by omega)
          rw [this]
          simp only [Nat.add_zero]
          congr 2
          omega
        have t1 : toksL (cs.take off) (us.toList.take off) = [] ∧ toksL (cs.drop (off + sz)) (us.toList.drop (off + sz)) = [] := by
          constructor
          · have := toksL_append (cs.take off) (cs.drop off) (us.toList.take off) (us.toList.drop off) (by rw [List.length_take, List.length_take]; omega)
            rw [List.take_append_drop, List.take_append_drop, ht] at this
            exact (List.append_eq_nil_iff.1 this.symm).1
          · have := toksL_append (cs.take (off + sz)) (cs.drop (off + sz)) (us.toList.take (off + sz)) (us.toList.drop (off + sz)) (by rw [List.length_take, List.length_take]; omega)
            rw [List.take_append_drop, List.take_append_drop, ht] at this
            exact (List.append_eq_nil_iff.1 this.symm).2
        obtain ⟨us', r1, r2, r3, r4⟩ := fillP_run (us := u.cells.zipIdx.foldl (fun cs (p : Value × Nat) => cs.setIfInBounds (off + p.2) p.1) us) h (by
            rw [List.all_append, List.all_append, b3]
            have := all_drop_take hc 0 off
            rw [List.drop_zero] at this
            rw [this]
            have := all_drop_take hc (off + sz) cs.length
            rw [List.take_of_length_le (by rw [List.length_drop]; omega)] at this
            rw [this]
            rfl) (by
            rw [key]
            exact VRl_append (VRl_append (VRl_take off hv).1 hcv) (VRl_take (off + sz) hv).2) (by
            rw [key, toksL_append _ _ _ _ (by simp only [List.length_append, List.length_take]; omega), toksL_append _ _ _ _ (by simp only [List.length_take]; omega), t1.1, t1.2, hct, q3]
            rfl) hp
        refine ⟨us', ?_, r2, r3, r4⟩
        unfold Instr.fill
        rw [q1]
        simp only
        rw [if_neg (by simp only [Bool.or_eq_true, decide_eq_true_eq, not_or]; omega)]
        exact r1
      · cases h
def PartsT (o : Bool) (w : World) (g : Ghost) (place : Nat → Option (Nat × Nat)) : List (Nat × Nat × PV) → List (Nat × Value) → Prop
  | [], qs => qs = []
  | p :: ps, qs => ∃ q qs', qs = q :: qs' ∧ place q.1 = some (p.1, p.2.1) ∧ VR o w g p.2.2 q.2 ∧ PartsT o w g place ps qs'
theorem fillP_runT {o : Bool} {w : World} {g : Ghost} {place : Nat → Option (Nat × Nat)} : ∀ {parts : List (Nat × Nat × PV)} {ps : List (Nat × Value)} {cs rs : List PV} {us : Array Value}, fillP cs parts = some rs → cs.all PV.isCell = true → VRl o w g cs us.toList →
    PartsT o w g place parts ps →
    ∃ us', Instr.fill place us ps = some us' ∧ rs.all PV.isCell = true ∧ VRl o w g rs us'.toList ∧ ∀ b, (toksL rs us'.toList).count b ≤ (toksL cs us.toList).count b + (toksL (parts.map (·.2.2)) (ps.map (·.2))).count b
  | [], _, cs, rs, us, h, hc, hv, hp => by
    cases hp
    cases h
    exact ⟨us, rfl, hc, hv, fun b => by omega⟩
  | (off, sz, v) :: rest, _, cs, rs, us, h, hc, hv, hp => by
      obtain ⟨⟨i, u⟩, ps, rfl, q1, q2, hp⟩ := hp
      simp only at q1 q2
      unfold fillP at h
      split at h
      · rename_i hb
        obtain ⟨b1, b2, b3⟩ := hb
        have hl := VRl_length hv
        obtain ⟨hcv, hct⟩ := VR_cells b3 q2
        have hcl := VRl_length hcv
        have hus : us.toList.length = us.size := rfl
        have hul : u.cells.toList.length = u.cells.size := rfl
        have key : (u.cells.zipIdx.foldl (fun cs (p : Value × Nat) => cs.setIfInBounds (off + p.2) p.1) us).toList = us.toList.take off ++ u.cells.toList ++ us.toList.drop (off + sz) := by
          rw [← Array.foldl_toList, Array.toList_zipIdx]
          have := foldl_set off u.cells.toList 0 us (by omega)
          rw [this]
          simp only [Nat.add_zero]
          congr 2
          omega
        have t1 : ∀ b, (toksL (cs.take off) (us.toList.take off)).count b + (toksL (cs.drop (off + sz)) (us.toList.drop (off + sz))).count b ≤ (toksL cs us.toList).count b := by
          intro b
          have e1 := toksL_append (cs.take off) (cs.drop off) (us.toList.take off) (us.toList.drop off) (by rw [List.length_take, List.length_take]; omega)
          rw [List.take_append_drop, List.take_append_drop] at e1
          have e2 := toksL_append ((cs.drop off).take sz) ((cs.drop off).drop sz) ((us.toList.drop off).take sz) ((us.toList.drop off).drop sz) (by rw [List.length_take, List.length_take, List.length_drop, List.length_drop]; omega)
          rw [List.take_append_drop, List.take_append_drop, List.drop_drop, List.drop_drop] at e2
          rw [e1, e2]
          simp only [List.count_append]
          omega
        obtain ⟨us', r1, r2, r3, r4⟩ := fillP_runT (us := u.cells.zipIdx.foldl (fun cs (p : Value × Nat) => cs.setIfInBounds (off + p.2) p.1) us) h (by
            rw [List.all_append, List.all_append, b3]
            have := all_drop_take hc 0 off
            rw [List.drop_zero] at this
            rw [this]
            have := all_drop_take hc (off + sz) cs.length
            rw [List.take_of_length_le (by rw [List.length_drop]; omega)] at this
            rw [this]
            rfl) (by
            rw [key]
            exact VRl_append (VRl_append (VRl_take off hv).1 hcv) (VRl_take (off + sz) hv).2) hp
        refine ⟨us', ?_, r2, r3, fun b => ?_⟩
        rotate_left
        · have := r4 b
          rw [key, toksL_append _ _ _ _ (by simp only [List.length_append, List.length_take]; omega), toksL_append _ _ _ _ (by simp only [List.length_take]; omega), hct] at this
          simp only [List.map_cons, toksL, List.count_append] at this ⊢
          have := t1 b
          omega
        unfold Instr.fill
        rw [q1]
        simp only
        rw [if_neg (by simp only [Bool.or_eq_true, decide_eq_true_eq, not_or]; omega)]
        exact r1
      · cases h
end Go.Proofs.YtjcjbpbkakfjdaaDoor.E
/- A logic of plain values, part 10: blocks that are written: made anew, stored into. -/
namespace Go.Proofs.YtjcjbpbkakfjdaaDoor.E
open Go Go.RowKit
set_option linter.unusedVariables false
set_option linter.unusedSimpArgs false
variable {dq : List Deferred}
theorem HRel.lt {out : List Nat} {w : World} {g : Ghost} (hw : WRel out w g) {H : Heap} (h : HRel w g H) {b : Nat} {cs : List PV} (hg : hget H b = some cs) : b < w.heap.size :=
  hw.lt (by rw [(h.mut_of_get hg).1]; simp)
theorem alloc_rel {out : List Nat} {st st1 : List PV} {H : Heap} {a : Act} {w w1 : World} {g : Ghost} {cs : List PV} {us : Array Value} {e : TypeId} {d : Option Nat} {r : PV} {v : Value}
    (h : Rel dq out st H a w g) (h1 : VRl true w g st1 a.tmps.toList) (hcs : VRl true w g cs us.toList) (hall : cs.all PV.isCell = true)
    (hc : ∀ b, (toksL st1 a.tmps.toList).count b + (toksL cs us.toList).count b ≤ (toksL st a.tmps.toList).count b)
    (hw1 : w1.heap = (w.alloc (.cells us e)).heap) (ho : w1.os = w.os) (ht : w1.tape = w.tape) (hu : w1.output = w.output) (hr : ∀ w g, VR true w g r v) (hrt : toks r v = []) :
    Rel dq out (putSt st1 d r) ((w.heap.size, cs) :: H) (a.put d v) w1 (upd g w.heap.size .mut) ∧ Evol out w g w1 (upd g w.heap.size .mut) := by
  have hS : Step0 [] w g w1 (upd g w.heap.size .mut) := Step0.alloc (out := out) (tk := []) h.wr hw1 ho ht hu (by simp) (fun f hf => by cases hf)
  have htl : ∀ b, b ∈ out ++ toksL st1 a.tmps.toList ++ toksH w H ++ toksL cs us.toList → ∃ f, g b = .tail f := fun b hb => by
    simp only [List.mem_append] at hb
    rcases hb with ((hb | hb) | hb) | hb
    · exact h.wr.outT b hb
    · exact toksL_tail st1 _ h1 b hb
    · exact toksH_tail h.hp b hb
    · exact toksL_tail cs _ hcs b hb
  have hE : Evol (out ++ toksL st1 a.tmps.toList ++ toksH w H ++ toksL cs us.toList) w g w1 (upd g w.heap.size .mut) := hS.evol (by simp) fun b hb => by
    obtain ⟨f, hf⟩ := htl b hb
    exact ⟨h.wr.lt (by rw [hf]; simp), by simp⟩
  have hm : ∀ b, g b = .mut → w1.heap[b]? = w.heap[b]? ∧ upd g w.heap.size .mut b = .mut := fun b hb => by
    have hl := h.wr.lt (b := b) (by rw [hb]; simp)
    obtain ⟨k1, k2⟩ := hS.old b hl (by simp)
    exact ⟨k1, k2.trans hb⟩
  obtain ⟨hH, hT⟩ := HRel.keep hE hm h.hp (fun b hb => by simp [hb])
  have hnew : w1.heap[w.heap.size]? = some (.cells us e (0, 0)) := by rw [hw1]; exact push_new w _
  have hnone : hget H w.heap.size = none := by
    cases hh : hget H w.heap.size with
    | none => rfl
    | some q => exact absurd (HRel.lt h.wr h.hp hh) (Nat.lt_irrefl _)
  refine ⟨⟨hS.wrel h.wr (by simp), ⟨hnone, upd_same _ _ _, hall, ⟨us, e, hnew, VRl_mono hE true cs _ (fun _ b hb => by simp [hb]) hcs⟩, hH⟩, VRl_put (VRl_mono hE true st1 _ (fun _ b hb => by simp [hb]) h1) (hr _ _), fun b => ?_, ?_⟩, hE.sub (fun b hb => by simp [hb])⟩
  · simp only [toksH, toksB, hnew, List.count_append, hT]
    have h2 := count_put_le b (d := d) (x := r) (v := v) h1
    rw [hrt, List.count_nil] at h2
    have h3 := h.un b
    have h4 := hc b
    omega
  · have : (a.put d v).defers = a.defers := by cases d <;> rfl
    rw [this]
    exact h.df
theorem hget_hset_same : ∀ {H : Heap} {b : Nat} {cs ds : List PV}, hget H b = some cs → hget (hset H b ds) b = some ds
  | [], b, cs, ds, h => by simp [hget] at h
  | (c, x) :: H, b, cs, ds, h => by
    simp only [hget] at h
    by_cases e : c = b
    · simp [hset, hget, e]
    · simp only [if_neg e] at h
      simp only [hset, if_neg e, hget]
      exact hget_hset_same h
theorem hget_hset_ne {b c : Nat} (hne : c ≠ b) (ds : List PV) : ∀ (H : Heap), hget (hset H b ds) c = hget H c
  | [] => rfl
  | (x, y) :: H => by
    by_cases e : x = b
    · subst e
      simp only [hset, if_true, hget, if_neg (Ne.symm hne)]
    · simp only [hset, if_neg e, hget]
      rw [hget_hset_ne hne ds H]
theorem toksH_hset (x : Nat) {w w' : World} {g : Ghost} {b : Nat} (hoth : ∀ k, k ≠ b → w'.heap[k]? = w.heap[k]?) : ∀ {H : Heap} {cs ds : List PV}, HRel w g H → hget H b = some cs →
    (toksH w' (hset H b ds)).count x + (toksB w b cs).count x = (toksH w H).count x + (toksB w' b ds).count x
  | [], cs, ds, _, h => by simp [hget] at h
  | (c, y) :: H, cs, ds, r, h => by
    obtain ⟨h0, h1, h2, h3, h4⟩ := r
    simp only [hget] at h
    by_cases e : c = b
    · subst e
      simp only [if_true, Option.some.injEq] at h
      subst h
      simp only [hset, if_true, toksH, List.count_append]
      have hrest : toksH w' H = toksH w H := by
        have : ∀ (K : Heap), hget K c = none → toksH w' K = toksH w K := by
          intro K
          induction K with
          | nil => intro _; rfl
          | cons p K ih =>
            obtain ⟨k, z⟩ := p
            intro hk
            simp only [hget] at hk
            by_cases ek : k = c
            · simp [ek] at hk
            · simp only [if_neg ek] at hk
              simp only [toksH, toksB, hoth k ek, ih hk]
        exact this H h0
      rw [hrest]
      omega
    · simp only [if_neg e] at h
      have ih := toksH_hset (ds := ds) x hoth h4 h
      simp only [hset, if_neg e, toksH, List.count_append]
      have : toksB w' c y = toksB w c y := by simp only [toksB, hoth c e]
      rw [this]
      omega
theorem HRel_hset {out : List Nat} {w w' : World} {g : Ghost} {b : Nat} (hE : Evol out w g w' g) (hoth : ∀ k, k ≠ b → w'.heap[k]? = w.heap[k]?) {ds : List PV} (hall : ds.all PV.isCell = true)
    (hb : ∃ c e, w'.heap[b]? = some (.cells c e (0, 0)) ∧ VRl true w' g ds c.toList) : ∀ {H : Heap} {cs : List PV}, HRel w g H → hget H b = some cs → (∀ x ∈ toksH w H, x ∈ out) → HRel w' g (hset H b ds)
  | [], cs, _, h, _ => by simp [hget] at h
  | (c, y) :: H, cs, r, h, ho => by
    obtain ⟨h0, h1, h2, ⟨cc, e', hc, hv⟩, h4⟩ := r
    simp only [hget] at h
    by_cases e : c = b
    · subst e
      simp only [hset, if_true]
      refine ⟨h0, h1, hall, hb, ?_⟩
      have : ∀ (K : Heap), hget K c = none → HRel w g K → (∀ x ∈ toksH w K, x ∈ out) → HRel w' g K := by
        intro K
        induction K with
        | nil => intro _ hg _; exact GL.evol hE hg
        | cons p K ih =>
          obtain ⟨k, z⟩ := p
          intro hk hr hto
          simp only [hget] at hk
          by_cases ek : k = c
          · simp [ek] at hk
          · simp only [if_neg ek] at hk
            obtain ⟨r0, r1, r2, ⟨c2, e2, r3, r4⟩, r5⟩ := hr
            exact ⟨r0, r1, r2, ⟨c2, e2, (hoth k ek).trans r3, VRl_mono hE true z _ (fun _ x hx => hto x (by simp [toksH, toksB, r3, hx])) r4⟩, ih hk r5 (fun x hx => hto x (by simp [toksH, hx]))⟩
      exact this H h0 h4 (fun x hx => ho x (by simp [toksH, hx]))
    · simp only [if_neg e] at h
      simp only [hset, if_neg e]
      refine ⟨by rw [hget_hset_ne e]; exact h0, h1, h2, ⟨cc, e', (hoth c e).trans hc, VRl_mono hE true y _ (fun _ x hx => ho x (by simp [toksH, toksB, hc, hx])) hv⟩, HRel_hset hE hoth hall hb h4 h (fun x hx => ho x (by simp [toksH, hx]))⟩
theorem store_rel {out : List Nat} {st st1 : List PV} {H : Heap} {a : Act} {w w' : World} {g : Ghost} {b : Nat} {cs ds : List PV} {c c' : Array Value} {e : TypeId} {d : Option Nat} {v : Value}
    (h : Rel dq out st H a w g) (h1 : VRl true w g st1 a.tmps.toList) (hg : hget H b = some cs) (hc : w.heap[b]? = some (.cells c e (0, 0))) (hcv : VRl true w g cs c.toList)
    (hds : VRl true w g ds c'.toList) (hall : ds.all PV.isCell = true)
    (hcnt : ∀ x, (toksL st1 a.tmps.toList).count x + (toksL ds c'.toList).count x ≤ (toksL st a.tmps.toList).count x + (toksL cs c.toList).count x)
    (hw : w' = w.setRow b c') : Rel dq out (putSt st1 d .unit) (hset H b ds) (a.put d v) w' g ∧ Evol out w g w' g := by
  have hmut := (h.hp.mut_of_get hg).1
  have hnew : w'.heap[b]? = some (.cells c' e (0, 0)) := by rw [hw]; exact setRow_heap w b c c' e _ hc
  have hoth : ∀ k, k ≠ b → w'.heap[k]? = w.heap[k]? := fun k hk => by rw [hw]; exact setRow_other w b k c' hk
  have hsz : w'.heap.size = w.heap.size := by rw [hw]; simp [World.setRow]
  have hE : ∀ o : List Nat, (∀ x ∈ o, ∃ f, g x = .tail f) → Evol o w g w' g := fun o ho => by
    refine ⟨by rw [hw]; rfl, by rw [hw]; rfl, by rw [hw]; rfl, by omega, fun k hk hi => ⟨hoth k (fun e => by subst e; rw [hmut] at hi; cases hi), hi⟩, fun k f c2 e2 fz _ hf h2 => ⟨c2, fz, (hoth k (fun e => by subst e; rw [hmut] at hf; cases hf)).trans h2, rfl, .inr ⟨f, Nat.le_refl _, hf⟩⟩, fun k hk => ⟨hoth k (fun e => by subst e; obtain ⟨f, hf⟩ := ho k hk; rw [hmut] at hf; cases hf), rfl⟩⟩
  have hE1 := hE (out ++ toksL st1 a.tmps.toList ++ toksH w H ++ toksL ds c'.toList) (fun x hx => by
    simp only [List.mem_append] at hx
    rcases hx with ((hx | hx) | hx) | hx
    · exact h.wr.outT x hx
    · exact toksL_tail st1 _ h1 x hx
    · exact toksH_tail h.hp x hx
    · exact toksL_tail ds _ hds x hx)
  refine ⟨⟨⟨fun k hk => h.wr.fresh k (by omega), fun k f hf => ?_, h.wr.outT⟩, HRel_hset hE1 hoth hall ⟨c', e, hnew, VRl_mono hE1 true ds _ (fun _ x hx => by simp [hx]) hds⟩ h.hp hg (fun x hx => by simp [hx]), VRl_put (VRl_mono hE1 true st1 _ (fun _ x hx => by simp [hx]) h1) trivial, fun x => ?_, ?_⟩, hE1.sub (fun x hx => by simp [hx])⟩
  · obtain ⟨c2, e2, q1, q2⟩ := h.wr.tl k f hf
    exact ⟨c2, e2, (hoth k (fun e => by subst e; rw [hmut] at hf; cases hf)).trans q1, q2⟩
  · have h2 := count_put_le x (d := d) (x := .unit) (v := v) h1
    have h3 := h.un x
    have h4 := hcnt x
    have h5 := toksH_hset (ds := ds) x hoth h.hp hg
    have e1 : toksB w b cs = toksL cs c.toList := by simp [toksB, hc]
    have e2 : toksB w' b ds = toksL ds c'.toList := by simp [toksB, hnew]
    rw [e1, e2] at h5
    have e3 : toks .unit v = [] := by simp [toks]
    rw [e3, List.count_nil] at h2
    omega
  · have : (a.put d v).defers = a.defers := by cases d <;> rfl
    rw [this]
    exact h.df
end Go.Proofs.YtjcjbpbkakfjdaaDoor.E
/- A logic of plain values, part 11: the model's operations turned into operations on data. -/
namespace Go.Proofs.YtjcjbpbkakfjdaaDoor.E
open Go Go.RowKit
set_option linter.unusedVariables false
set_option linter.unusedSimpArgs false
structure Hint where
  rows : List Nat := []
  takes : List (Nat × List Bool) := []
  loads : List Nat := []
  mvs : List Nat := []
  lits : List Nat := []
  exts : List Nat := []
  ros : List Nat := []
  deriving Inhabited
def constCell : Value → Option PV
  | .bool b => some (.bool b)
  | .int k n => some (.int k n)
  | .string s => some (.str (bytesOf s))
  | .slice none 0 0 => some (.lst 0 [] true)
  | .pointer none => some (.ptr none)
  | .nilFunc => some .nilf
  | _ => none
def constCells : List Value → Option (List PV)
  | [] => some []
  | v :: vs => (constCell v).bind fun x => (constCells vs).map (x :: ·)
def constPV : Value → Option PV
  | .agg cs => (constCells cs.toList).map .agg
  | .tuple cs => if cs.isEmpty then some .unit else none
  | v => constCell v
theorem constCell_VR {v : Value} {x : PV} (h : constCell v = some x) (w : World) (g : Ghost) : VR true w g x v ∧ x.isCell = true ∧ toks x v = [] := by
  unfold constCell at h
  split at h <;> cases h
  · exact ⟨rfl, rfl, by simp [toks]⟩
  · exact ⟨rfl, rfl, by simp [toks]⟩
  · exact ⟨⟨_, rfl, rfl⟩, rfl, by simp [toks]⟩
  · exact ⟨⟨none, 0, rfl, Nat.le_refl _, Nat.zero_le _, .inl rfl, fun _ _ h => by simp at h⟩, rfl, by simp [toks]⟩
  · exact ⟨rfl, rfl, by simp [toks]⟩
  · exact ⟨rfl, rfl, by simp [toks]⟩
theorem constCells_VR (w : World) (g : Ghost) : ∀ {vs : List Value} {xs : List PV}, constCells vs = some xs → VRl true w g xs vs ∧ xs.all PV.isCell = true ∧ toksL xs vs = []
  | [], xs, h => by cases h; exact ⟨rfl, rfl, by simp [toksL]⟩
  | v :: vs, xs, h => by
    obtain ⟨x, h1, h⟩ := Option.bind_eq_some_iff.mp h
    obtain ⟨ys, h2, rfl⟩ := Option.map_eq_some_iff.mp h
    obtain ⟨a1, a2, a3⟩ := constCell_VR h1 w g
    obtain ⟨b1, b2, b3⟩ := constCells_VR w g h2
    exact ⟨⟨v, vs, rfl, a1, b1⟩, by simp [a2, b2], by simp [toksL, a3, b3]⟩
theorem constPV_VR {v : Value} {x : PV} (h : constPV v = some x) (w : World) (g : Ghost) : VR true w g x v ∧ toks x v = [] := by
  unfold constPV at h
  split at h
  · rename_i cs
    obtain ⟨xs, h1, rfl⟩ := Option.map_eq_some_iff.mp h
    obtain ⟨b1, b2, b3⟩ := constCells_VR w g h1
    exact ⟨⟨b2, _, rfl, b1⟩, by simp [toks, b3]⟩
  · split at h
    · cases h
      exact ⟨trivial, by simp [toks]⟩
    · cases h
  · obtain ⟨a1, a2, a3⟩ := constCell_VR h w g
    exact ⟨a1, a3⟩
def compArg : Operand → Option Arg
  | .tmp t => some (.t t)
  | .const v => (constPV v).map .c
  | .func f => some (.c (.fn (.func f) [] []))
  | .global _ => none
def compArgs : List Operand → Option (List Arg)
  | [] => some []
  | x :: xs => (compArg x).bind fun a => (compArgs xs).map (a :: ·)
def compOpt : Option Operand → Option (Option Arg)
  | none => some none
  | some x => (compArg x).map some
theorem argT_spec {w : World} {g : Ghost} {st : List PV} {a : Act} (h : VRl true w g st a.tmps.toList) {x : Operand} {p : Arg} (hp : compArg x = some p) : VR true w g (argT st p) (a.eval x) := by
  unfold compArg at hp
  split at hp
  · rename_i t
    cases hp
    simp only [argT, Act.eval]
    by_cases ht : t < st.length
    · obtain ⟨v, h1, h2⟩ := VRl_get h (List.getElem?_eq_getElem ht)
      have e1 : st.getD t .unit = st[t] := by simp [List.getD, List.getElem?_eq_getElem ht]
      have e2 : a.tmps.getD t undef = v := by
        simp only [Array.getD_eq_getD_getElem?, ← Array.getElem?_toList, h1, Option.getD_some]
      rw [e1, e2]
      exact h2
    · have e1 : st.getD t .unit = .unit := by rw [List.getD, List.getElem?_eq_none (Nat.le_of_not_lt ht)]; rfl
      rw [e1]
      trivial
  · obtain ⟨x, h1, rfl⟩ := Option.map_eq_some_iff.mp hp
    exact (constPV_VR h1 w g).1
  · cases hp
    exact ⟨_, _, rfl, rfl, rfl⟩
  · cases hp
theorem arg_spec {w : World} {g : Ghost} {st : List PV} {a : Act} (h : VRl true w g st a.tmps.toList) {x : Operand} {p : Arg} (hp : compArg x = some p) : VR true w g (arg st p) (a.eval x) :=
  VR_lend _ _ (VR_weak _ _ (argT_spec h hp))
theorem arg_toks {st : List PV} {p : Arg} {v : Value} : toks (arg st p) v = [] := toks_lend _ _
theorem opt_spec {w : World} {g : Ghost} {st : List PV} {a : Act} (h : VRl true w g st a.tmps.toList) {x : Option Operand} {p : Option Arg} (hp : compOpt x = some p) : OptR w g (p.map (arg st)) (x.map a.eval) := by
  cases x with
  | none => cases hp; trivial
  | some x =>
    obtain ⟨q, h1, rfl⟩ := Option.map_eq_some_iff.mp hp
    exact ⟨true, arg_spec h h1⟩
theorem args_spec {w : World} {g : Ghost} {st : List PV} {a : Act} (h : VRl true w g st a.tmps.toList) : ∀ {xs : List Operand} {ps : List Arg}, compArgs xs = some ps → VRl true w g (ps.map (arg st)) (xs.map a.eval) ∧ toksL (ps.map (arg st)) (xs.map a.eval) = []
  | [], ps, hp => by cases hp; exact ⟨rfl, by simp [toksL]⟩
  | x :: xs, ps, hp => by
    obtain ⟨p, h1, hp⟩ := Option.bind_eq_some_iff.mp hp
    obtain ⟨qs, h2, rfl⟩ := Option.map_eq_some_iff.mp hp
    obtain ⟨i1, i2⟩ := args_spec h h2
    exact ⟨⟨_, _, rfl, arg_spec h h1, i1⟩, by simp [toksL, arg_toks, i2]⟩
theorem take_spec {w : World} {g : Ghost} {st : List PV} {a : Act} (h : VRl true w g st a.tmps.toList) {x : Operand} {p : Arg} (hp : compArg x = some p) :
    VRl true w g (takeAt st p) a.tmps.toList ∧ ∀ b, (toksL (takeAt st p) a.tmps.toList).count b + (toks (argT st p) (a.eval x)).count b ≤ (toksL st a.tmps.toList).count b := by
  unfold compArg at hp
  split at hp
  · rename_i t
    cases hp
    simp only [takeAt, argT, Act.eval]
    by_cases ht : t < st.length
    · obtain ⟨v, h1, h2⟩ := VRl_get h (List.getElem?_eq_getElem ht)
      have e1 : st.getD t .unit = st[t] := by simp [List.getD, List.getElem?_eq_getElem ht]
      have e2 : a.tmps.getD t undef = v := by
        simp only [Array.getD_eq_getD_getElem?, ← Array.getElem?_toList, h1, Option.getD_some]
      rw [e1, e2]
      have hset : a.tmps.toList.set t v = a.tmps.toList := by
        obtain ⟨hl, hv⟩ := List.getElem?_eq_some_iff.1 h1
        rw [← hv]
        exact List.set_getElem_self hl
      refine ⟨?_, fun b => ?_⟩
      · have := VRl_set t h (VR_lend (o := true) _ _ (VR_weak _ _ h2))
        rw [hset] at this
        exact this
      · have := count_toksL_set b st a.tmps.toList t (lend st[t]) st[t] v v (List.getElem?_eq_getElem ht) h1
        rw [hset, toks_lend, List.count_nil] at this
        omega
    · have e1 : st.getD t .unit = .unit := by rw [List.getD, List.getElem?_eq_none (Nat.le_of_not_lt ht)]; rfl
      rw [e1, List.set_eq_of_length_le (Nat.le_of_not_lt ht)]
      exact ⟨h, fun b => by simp [toks]⟩
  · obtain ⟨x, h1, rfl⟩ := Option.map_eq_some_iff.mp hp
    exact ⟨h, fun b => by simp only [takeAt, argT, Act.eval, (constPV_VR h1 w g).2, List.count_nil]; omega⟩
  · cases hp
    exact ⟨h, fun b => by simp [takeAt, argT, toks]⟩
  · cases hp
end Go.Proofs.YtjcjbpbkakfjdaaDoor.E
/- A logic of plain values, part 12: each pure operation comes to its data. -/
namespace Go.Proofs.YtjcjbpbkakfjdaaDoor.E
open Go Go.RowKit
set_option linter.unusedVariables false
set_option linter.unusedSimpArgs false
def compParts (P : Program) (fields : Array Field) : List (Nat × Operand) → Option (List (Nat × Nat × Arg))
  | [] => some []
  | (i, x) :: ps => (fields[i]?).bind fun f => (P.info? f.type).bind fun fi => (compArg x).bind fun a => (compParts P fields ps).map ((f.offset, fi.size, a) :: ·)
def compElems (sz : Nat) : List (Nat × Operand) → Option (List (Nat × Nat × Arg))
  | [] => some []
  | (i, x) :: ps => (compArg x).bind fun a => (compElems sz ps).map ((i * sz, sz, a) :: ·)
def repCells (n : Nat) (z : List PV) : List PV := (List.replicate n z).flatten
def isRow (h : Hint) (d : Option Nat) : Bool := match d with | some d => h.rows.contains d | none => false
def isLit (h : Hint) (d : Option Nat) : Bool := match d with | some d => h.lits.contains d | none => false
def isExt (h : Hint) (d : Option Nat) : Bool := match d with | some d => h.exts.contains d | none => false
def isMv (h : Hint) (d : Option Nat) : Bool := match d with | some d => h.mvs.contains d | none => false
def isRo (h : Hint) (d : Option Nat) : Bool := match d with | some d => h.ros.contains d | none => false
def isTake (h : Hint) (d : Option Nat) : Bool := match d with | some d => h.loads.contains d | none => false
def takesOf (h : Hint) (f : Nat) : List Bool := ((h.takes.find? fun p => p.1 == f).map (·.2)).getD []
def compSlice (P : Program) (t : TypeId) (x : Operand) (lo hi mx : Option Operand) : Option PK :=
  match P.underlying t with
  | some (.slice e) => (P.info? e).bind fun i => (compArg x).bind fun x => (compOpt lo).bind fun lo => (compOpt hi).bind fun hi => (compOpt mx).map fun mx => .sli i.size x lo hi mx
  | some .string => if mx.isSome then none else (compArg x).bind fun x => (compOpt lo).bind fun lo => (compOpt hi).map fun hi => .sls x lo hi
  | _ => none
def compConv (P : Program) (src dst : TypeId) (x : Operand) : Option PK :=
  match P.underlying src, P.underlying dst with
  | some (.int _), some (.int k) => (compArg x).map (.cvI k)
  | some .string, some .string => (compArg x).map .idc
  | some (.slice e), some .string => match P.underlying e with
    | some (.int .u8) => (compArg x).map .cvS
    | _ => none
  | some .string, some (.slice e) => match P.underlying e with
    | some (.int .u8) => (compArg x).map .cvB
    | _ => none
  | some (.slice e), some (.slice _) => if src = dst then (match P.underlying e with
    | some (.int .u8) => (compArg x).map .cvM
    | _ => none) else none
  | _, _ => none
def plainKinds (P : Program) : Nat → List Field → Option (List Nat)
  | _, [] => some []
  | i, f :: fs => if f.offset = i ∧ f.name ≠ "_" then (match P.underlying f.type with
    | some (.int _) => (plainKinds P (i + 1) fs).map (0 :: ·)
    | some .bool => (plainKinds P (i + 1) fs).map (1 :: ·)
    | some .string => (plainKinds P (i + 1) fs).map (2 :: ·)
    | _ => none) else none
def isNil : Operand → Bool
  | .const (.slice none _ _) => true
  | _ => false
def compBin (P : Program) (op : BinOp) (t : TypeId) (x y : Operand) : Option PK :=
  match P.underlying t with
  | some (.int _) => (compArg x).bind fun x => (compArg y).map fun y => .bin op x y
  | some .string => (compArg x).bind fun x => (compArg y).map fun y => .bin op x y
  | some .bool => (compArg x).bind fun x => (compArg y).bind fun y => match op with | .eql => some (.binB false x y) | .neq => some (.binB true x y) | _ => none
  | some (.slice _) => if isNil y = true then (compArg x).bind fun x => match op with | .eql => some (.eqN false x) | .neq => some (.eqN true x) | _ => none else none
  | some (.struct fields) => if P.eqGuardType P.depth t = false ∧ P.stoodInHeld t = false then (plainKinds P 0 fields.toList).bind fun ks => (compArg x).bind fun x => (compArg y).bind fun y => match op with | .eql => some (.eqS false ks x y) | .neq => some (.eqS true ks x y) | _ => none else none
  | _ => none
def compBuiltin (P : Program) (b : Builtin) (ts : List TypeId) (args : List Operand) : Option PK :=
  match b, ts, args with
  | .append, [t, tx], [x, y] => match P.underlying t, P.underlying tx with
    | some (.slice e), some dx => (P.info? e).bind fun i => i.zero.bind fun z => if z.cells.size = i.size ∧ 0 < i.size ∧ 1 ≤ i.bytes ∧ (match dx with | .string => true | .slice _ => true | _ => false) = true then
        (compArg x).bind fun x => (compArg y).map fun y => .app i.size i.bytes x y else none
    | _, _ => none
  | .len, [t], [x] => match P.underlying t with
    | some .string => (compArg x).map (.len true)
    | some (.slice _) => (compArg x).map (.len false)
    | _ => none
  | .max, _, [x, y] => (compArg x).bind fun x => (compArg y).map fun y => .mm true x y
  | .min, _, [x, y] => (compArg x).bind fun x => (compArg y).map fun y => .mm false x y
  | _, _, _ => none
def compRow (P : Program) (h : Hint) (d : Option Nat) (b : Builtin) (ts : List TypeId) (args : List Operand) : Option PK :=
  match b, ts, args with
  | .append, [t, tx], [x, y] => if isRow h d = true then match P.underlying t, P.underlying tx with
    | some (.slice e), some dx => (P.info? e).bind fun i => i.zero.bind fun z => (constCells z.cells.toList).bind fun zero => if z.cells.size = i.size ∧ 0 < i.size ∧ 1 ≤ i.bytes ∧ (match dx with | .string => true | .slice _ => true | _ => false) = true then
        (compArg x).bind fun x => (compArg y).map fun y => .appR i.size i.bytes zero x y else none
    | _, _ => none else none
  | .copy, [t, _], [x, y] => match P.underlying t with
    | some (.slice e) => (P.info? e).bind fun i => if 0 < i.size then (compArg x).bind fun x => (compArg y).map fun y => .cpy i.size x y else none
    | _ => none
  | .clear, [t], [x] => match P.underlying t with
    | some (.slice e) => (P.info? e).bind fun i => i.zero.bind fun z => (constCells z.cells.toList).bind fun zero => if z.cells.size = i.size ∧ 0 < i.size then (compArg x).map fun x => .clr i.size zero x else none
    | _ => none
  | .cap, [t], [x] => match P.underlying t with
    | some (.slice _) => (compArg x).map .cap
    | _ => none
  | _, _, _ => none
def compOp0 (P : Program) (h : Hint) (o : Oper) : Option PK :=
  match o.op with
  | .move x => (compArg x).map (.mv (isMv h o.dst))
  | .assign x => (compArg x).map (.mv true)
  | .pick c a b => (compArg c).bind fun c => (compArg a).bind fun a => (compArg b).map fun b => .pick c a b
  | .alloc elem => (P.info? elem).bind fun i => i.zero.bind fun z => (constCells z.cells.toList).map .al
  | .box elem x => (P.info? elem).bind fun i => (compArg x).map fun x => if isRo h o.dst then .bxI i.size x else .bx i.size x
  | .build t parts => match P.underlying t with
    | some (.struct fields) => (P.info? t).bind fun i => i.zero.bind fun z => (constCells z.cells.toList).bind fun zero =>
        if fields.toList.all (fun f => (P.info? f.type).isSome) = true then (compParts P fields parts.toList).map fun ps => if isTake h o.dst then .bldT zero ps else .build zero ps else none
    | _ => none
  | .buildSlice t len parts => match P.underlying t with
    | some (.slice e) => (P.info? e).bind fun i => (P.underlying e).bind fun d => i.zero.bind fun z => (constCells z.cells.toList).bind fun zero =>
        if zero.length = i.size ∧ 0 < i.size ∧ len * i.size ≤ 16777216 ∧ (isAggD d = false → i.size = 1) then (compElems i.size parts.toList).map fun ps => if isLit h o.dst then .nl i.size len (isAggD d) (repCells len zero) (ps.map fun p => (p.1, p.2.2)) else .bsl i.size len (isAggD d) (repCells len zero) (ps.map fun p => (p.1, p.2.2)) (isRow h o.dst) else none
    | _ => none
  | .load t a => (P.info? t).bind fun i => (P.underlying t).bind fun d => if isAggD d = false → i.size = 1 then (compArg a).map fun a => .ld i.size (isAggD d) (isTake h o.dst) a else none
  | .store t a x => (P.info? t).bind fun i => (compArg a).bind fun a => (compArg x).map fun x => .sto i.size a x
  | .nilCheck x => (compArg x).map .nck
  | .binOp op t x y _ => compBin P op t x y
  | .unOp op _ x => (compArg x).map (.un op)
  | .convert src dst x => compConv P src dst x
  | .makeFunc fn first captured => (compArgs first.toList).bind fun f => (compArgs captured.toList).map fun c => .mkf fn f c
  | .makeSlice t l c => match P.underlying t with
    | some (.slice e) => (P.info? e).bind fun i => (P.underlying e).bind fun d => i.zero.bind fun z => (constCells z.cells.toList).bind fun zero =>
        if zero.length = i.size ∧ 0 < i.size ∧ 1 ≤ i.bytes ∧ (isAggD d = false → i.size = 1) then (compArg l).bind fun l => (compArg c).map fun c => .mk i.size i.bytes (isAggD d) zero l c (isRow h o.dst) else none
    | _ => none
  | .slice t x lo hi mx => compSlice P t x lo hi mx
  | .fieldAddr s x f => match P.underlying s with
    | some (.struct fields) => (fields[f]?).bind fun f => (P.info? f.type).bind fun i => if i.size ≠ 0 then (compArg x).map (.fad f.offset) else none
    | _ => none
  | .field s x f => match P.underlying s with
    | some (.struct fields) => (fields[f]?).bind fun f => (P.info? f.type).bind fun i => (P.underlying f.type).bind fun d => if isAggD d = false → i.size = 1 then (compArg x).map (.fld f.offset i.size (isAggD d)) else none
    | _ => none
  | .indexAddr t x ix => match P.underlying t with
    | some (.slice e) => (P.info? e).bind fun i => (compArg x).bind fun x => (compArg ix).map fun ix => .iad i.size x ix
    | _ => none
  | .index t x ix => match P.underlying t with
    | some .string => (compArg x).bind fun x => (compArg ix).map fun ix => .idx x ix
    | _ => none
  | .extract x i => (compArg x).map fun x => .ext (isExt h o.dst) x i
  | .call c => match c.callee with
    | .builtin b => match compRow P h o.dst b c.argTypes.toList c.args.toList with
      | some k => some k
      | none => compBuiltin P b c.argTypes.toList c.args.toList
    | .value (.func f) => (compArgs c.args.toList).map fun as => .callF f as (takesOf h f)
    | .value f => (compArg f).bind fun f => (compArgs c.args.toList).map fun as => .callV f as
    | _ => none
  | _ => none
def compOp (P : Program) (h : Hint) (o : Oper) : Option PK := some ((compOp0 P h o).getD .bad)
def cvIP (k : IntKind) : PV → Option PV
  | .int _ n => some (.int k (k.wrap n))
  | _ => none
def idcP : PV → Option PV
  | .str s => some (.str s)
  | _ => none
def cvBP : PV → Option PV
  | .str s => if s.length ≤ 9223372036854775807 then some (.lst 1 (s.map (.int .u8)) false) else none
  | _ => none
def chunk (sz : Nat) : Nat → List PV → List PV
  | 0, _ => []
  | n + 1, cs => .agg (cs.take sz) :: chunk sz n (cs.drop sz)
def elemsOf (sz : Nat) (ag : Bool) (n : Nat) (cs : List PV) : List PV := if ag then chunk sz n cs else cs
def partsOf (st : List PV) (ps : List (Nat × Nat × Arg)) : List (Nat × Nat × PV) := ps.map fun p => (p.1, p.2.1, arg st p.2.2)
def elemParts (sz : Nat) (st : List PV) (ps : List (Nat × Arg)) : List (Nat × Nat × PV) := ps.map fun p => (p.1, sz, arg st p.2)
def mkP (sz bytes : Nat) (ag : Bool) (zero : List PV) : PV → PV → Option PV
  | .int _ l, .int _ c => if 0 ≤ l ∧ l ≤ c ∧ c * bytes ≤ 281474976710656 then some (.lst sz (List.replicate l.toNat (if ag then .agg zero else zero.headD .unit)) true) else none
  | _, _ => none
def eqCells : List Nat → List PV → List PV → Option Bool
  | [], [], [] => some true
  | 0 :: ks, .int k a :: cs, .int k' b :: ds => if k = k' then (eqCells ks cs ds).map fun r => decide (a = b) && r else none
  | 1 :: ks, .bool a :: cs, .bool b :: ds => (eqCells ks cs ds).map fun r => (a == b) && r
  | 2 :: ks, .str a :: cs, .str b :: ds => (eqCells ks cs ds).map fun r => decide (a = b) && r
  | _, _, _ => none
def eqSP (ne : Bool) (ks : List Nat) : PV → PV → Option PV
  | .agg cs, .agg ds => (eqCells ks cs ds).map fun r => .bool (if ne then !r else r)
  | _, _ => none
def cvMP : PV → Option PV
  | .nlit 1 xs => some (.lst 1 xs false)
  | _ => none
def mvcP (n : Nat) (x : PV) : Option PV := if (cellsOf x).length = n ∧ (cellsOf x).all PV.isCell = true then some x else none
def bxP (sz : Nat) (x : PV) : Option PV := if (cellsOf x).all PV.isCell = true ∧ (cellsOf x).length = sz ∧ 0 < sz then some (.ip sz [x] 0 0) else none
def callArgs (st : List PV) : List Arg → List Bool → List PV
  | [], _ => []
  | x :: xs, true :: tk => argT st x :: callArgs (takeAt st x) xs tk
  | x :: xs, false :: tk => arg st x :: callArgs st xs tk
  | x :: xs, [] => arg st x :: callArgs st xs []
def callTake (st : List PV) : List Arg → List Bool → List PV
  | [], _ => st
  | x :: xs, true :: tk => callTake (takeAt st x) xs tk
  | x :: xs, false :: tk => callTake st xs tk
  | x :: xs, [] => callTake st xs []
def bparts (st : List PV) (ps : List (Nat × Nat × Arg)) : List (Nat × Nat × PV) := (ps.zip (callArgs st (ps.map (·.2.2)) (ps.map fun _ => true))).map fun q => (q.1.1, q.1.2.1, q.2)
def pev (st : List PV) (H : Heap) : PK → Option PV
  | .mv tk x => some (if tk then argT st x else arg st x)
  | .pick c a b => match arg st c with
    | .bool q => some (if q then arg st a else arg st b)
    | _ => none
  | .bin op x y => binP op (arg st x) (arg st y)
  | .binB ne x y => binBP ne (arg st x) (arg st y)
  | .eqS ne ks x y => eqSP ne ks (arg st x) (arg st y)
  | .cvM x => cvMP (argT st x)
  | .nl sz len ag zero ps => (fillP zero (elemParts sz st ps)).map fun cs => .nlit sz (elemsOf sz ag len cs)
  | .un op x => unP op (arg st x)
  | .cvI k x => cvIP k (arg st x)
  | .cvS x => cvSP (arg st x)
  | .cvB x => cvBP (arg st x)
  | .idc x => idcP (arg st x)
  | .fld off sz ag x => fldP off sz ag (arg st x)
  | .build zero ps => (fillP zero (partsOf st ps)).map .agg
  | .bldT zero ps => (fillP zero (bparts st ps)).map .agg
  | .bsl sz len ag zero ps false => (fillP zero (elemParts sz st ps)).map fun cs => .lst sz (elemsOf sz ag len cs) true
  | .idx x i => idxP (arg st x) (arg st i)
  | .iad sz x i => iadP sz (arg st x) (arg st i)
  | .fad off x => fadP off (arg st x)
  | .ld sz ag false x => ldP sz ag H (arg st x)
  | .sli sz x lo hi mx => sliP sz (arg st x) (lo.map (arg st)) (hi.map (arg st)) (mx.map (arg st))
  | .sls x lo hi => slsP (arg st x) (lo.map (arg st)) (hi.map (arg st))
  | .app sz bytes x y => appP sz bytes (argT st x) (arg st y)
  | .len s x => lenP s (arg st x)
  | .mm mx x y => mmP mx (arg st x) (arg st y)
  | .mk sz bytes ag zero l c false => mkP sz bytes ag zero (arg st l) (arg st c)
  | .mkf f first cap => some (.fn f (first.map (arg st)) (cap.map (arg st)))
  | .ext tk x i => extP i (if tk then argT st x else arg st x)
  | .nck x => nckP (arg st x)
  | .bxI sz x => bxP sz (arg st x)
  | .mvc n x => mvcP n (argT st x)
  | _ => none
def extTake (st : List PV) (x : Arg) (i : Nat) : List PV :=
  match x with
  | .t t => match st.getD t .unit with
    | .tup vs => st.set t (.tup (vs.set i (lend (vs.getD i .unit))))
    | _ => st
  | .c _ => st
def ptake (st : List PV) : PK → List PV
  | .mv tk x => if tk then takeAt st x else st
  | .app _ _ x _ => takeAt st x
  | .ext tk x i => if tk then extTake st x i else st
  | .cvM x => takeAt st x
  | .mvc _ x => takeAt st x
  | .bldT _ ps => callTake st (ps.map (·.2.2)) (ps.map fun _ => true)
  | _ => st
end Go.Proofs.YtjcjbpbkakfjdaaDoor.E
/- A logic of plain values, part 13: .. and the model's operation does. -/
namespace Go.Proofs.YtjcjbpbkakfjdaaDoor.E
open Go Go.RowKit
set_option linter.unusedVariables false
set_option linter.unusedSimpArgs false
variable {dq : List Deferred}
def Does (P : Program) (o : Oper) (k : PK) (st : List PV) (a : Act) (w : World) (g : Ghost) (r : PV) : Prop :=
  ∃ v w' g' tk, (execOp a.eval o).run P w = .ok (.value v) w' ∧ Step tk w g w' g' r v ∧ VRl true w g (ptake st k) a.tmps.toList ∧
    ∀ b, (toksL (ptake st k) a.tmps.toList).count b + tk.count b ≤ (toksL st a.tmps.toList).count b
section
variable {P : Program} {o : Oper} {k : PK} {out : List Nat} {st : List PV} {H : Heap} {a : Act} {w : World} {g : Ghost} {r : PV}
theorem Does.same (h : Rel dq out st H a w g) (hp : ptake st k = st) (hr : ∃ v, (execOp a.eval o).run P w = .ok (.value v) w ∧ VR true w g r v ∧ toks r v = []) : Does P o k st a w g r := by
  obtain ⟨v, h1, h2, h3⟩ := hr
  exact ⟨v, w, g, [], h1, Step.same h.wr h2 h3, by rw [hp]; exact h.tm, fun b => by rw [hp]; simp⟩
theorem run_v {s : Sem Value} {z : Value} {w' : World} (h : s.run P w = .ok z w') : (do pure (Next.value (← s)) : Sem Next).run P w = .ok (.value z) w' := by
  simp only [Sem.run_bind, h, Result.andThen_ok, Sem.run_pure]
end
theorem bind_spec {α β : Type} {x : Option α} {f : α → Option β} {b : β} (h : x.bind f = some b) : ∃ a, x = some a ∧ f a = some b := Option.bind_eq_some_iff.mp h
theorem map_spec {α β : Type} {x : Option α} {f : α → β} {b : β} (h : x.map f = some b) : ∃ a, x = some a ∧ f a = b := Option.map_eq_some_iff.mp h
theorem ite_spec {c : Prop} [Decidable c] {α : Type} {x : Option α} {b : α} (h : (if c then x else none) = some b) : c ∧ x = some b := by
  split at h
  · exact ⟨‹_›, h⟩
  · cases h
section
variable {P : Program} {hint : Hint} {k : PK} {out : List Nat} {st : List PV} {H : Heap} {a : Act} {w : World} {g : Ghost} {r : PV} {d : Option Tmp} {ty : TypeId} {pos : String} {af : Array Edge} {gd : Option (Nat × Bool)}
theorem does_mv (h : Rel dq out st H a w g) {x : Operand} {p : Arg} (hp : compArg x = some p) {op : Op} (hop : ∀ ρ, execOp ρ ⟨d, op, ty, pos, af, gd⟩ = pure (.value (ρ x))) {tk : Bool} (hv : pev st H (.mv tk p) = some r) : Does P ⟨d, op, ty, pos, af, gd⟩ (.mv tk p) st a w g r := by
  cases tk with
  | false =>
    cases hv
    exact Does.same h rfl ⟨a.eval x, by rw [hop]; rfl, arg_spec h.tm hp, arg_toks⟩
  | true =>
  cases hv
  have h1 := argT_spec h.tm hp
  obtain ⟨h2, h3⟩ := take_spec h.tm hp
  refine ⟨a.eval x, w, g, toks (argT st p) (a.eval x), by rw [hop]; rfl, Step.move h.wr h1 fun b => ?_, h2, h3⟩
  have := h3 b
  have := h.un b
  omega
theorem does_pick (h : Rel dq out st H a w g) {c x y : Operand} {c' x' y' : Arg} (hc : compArg c = some c') (hx : compArg x = some x') (hy : compArg y = some y') (hv : pev st H (.pick c' x' y') = some r) :
    Does P ⟨d, .pick c x y, ty, pos, af, gd⟩ (.pick c' x' y') st a w g r := by
  refine Does.same h rfl ?_
  have h1 := arg_spec h.tm hc
  simp only [pev] at hv
  split at hv
  · rename_i q hq
    rw [hq] at h1
    simp only [VR] at h1
    cases hv
    refine ⟨if q then a.eval x else a.eval y, ?_, ?_, ?_⟩
    · simp only [execOp, h1, asBool, Sem.run_bind, Sem.run_pure, Result.andThen_ok]
    · cases q
      · exact arg_spec h.tm hy
      · exact arg_spec h.tm hx
    · cases q
      · exact arg_toks
      · exact arg_toks
  · cases hv
theorem eqCells_nil {cs ds : List PV} {r : Bool} (he : eqCells [] cs ds = some r) : r = true := by
  cases cs <;> cases ds <;> simp [eqCells] at he
  exact he
theorem eqCells0 {ks : List Nat} {cs ds : List PV} {r : Bool} (he : eqCells (0 :: ks) cs ds = some r) : ∃ k a cs' b ds' q, cs = .int k a :: cs' ∧ ds = .int k b :: ds' ∧ eqCells ks cs' ds' = some q ∧ (decide (a = b) && q) = r := by
  rcases cs with _ | ⟨c, cs⟩
  · simp [eqCells] at he
  rcases ds with _ | ⟨e, ds⟩
  · simp [eqCells] at he
  cases c with
  | int k a =>
    cases e with
    | int k2 b =>
      simp only [eqCells] at he
      obtain ⟨hkk, he⟩ := ite_spec he
      obtain ⟨q, h1, h2⟩ := map_spec he
      subst hkk
      exact ⟨_, _, _, _, _, q, rfl, rfl, h1, by first | exact h2 | exact h2.symm⟩
    | _ => simp [eqCells] at he
  | _ => simp [eqCells] at he
theorem eqCells1 {ks : List Nat} {cs ds : List PV} {r : Bool} (he : eqCells (1 :: ks) cs ds = some r) : ∃ a cs' b ds' q, cs = .bool a :: cs' ∧ ds = .bool b :: ds' ∧ eqCells ks cs' ds' = some q ∧ (a == b && q) = r := by
  rcases cs with _ | ⟨c, cs⟩
  · simp [eqCells] at he
  rcases ds with _ | ⟨e, ds⟩
  · simp [eqCells] at he
  cases c with
  | bool a =>
    cases e with
    | bool b =>
      simp only [eqCells] at he
      obtain ⟨q, h1, h2⟩ := map_spec he
      exact ⟨_, _, _, _, q, rfl, rfl, h1, by first | exact h2 | exact h2.symm⟩
    | _ => simp [eqCells] at he
  | _ => simp [eqCells] at he
theorem eqCells2 {ks : List Nat} {cs ds : List PV} {r : Bool} (he : eqCells (2 :: ks) cs ds = some r) : ∃ a cs' b ds' q, cs = .str a :: cs' ∧ ds = .str b :: ds' ∧ eqCells ks cs' ds' = some q ∧ (decide (a = b) && q) = r := by
  rcases cs with _ | ⟨c, cs⟩
  · simp [eqCells] at he
  rcases ds with _ | ⟨e, ds⟩
  · simp [eqCells] at he
  cases c with
  | str a =>
    cases e with
    | str b =>
      simp only [eqCells] at he
      obtain ⟨q, h1, h2⟩ := map_spec he
      exact ⟨_, _, _, _, q, rfl, rfl, h1, by first | exact h2 | exact h2.symm⟩
    | _ => simp [eqCells] at he
  | _ => simp [eqCells] at he
theorem eqFields_run {d : Nat} {xs ys : Array Value} {o o' : Bool} : ∀ {fs : List Field} {i : Nat} {ks : List Nat} {cs ds : List PV} {r : Bool}, plainKinds P i fs = some ks → eqCells ks cs ds = some r → VRl o w g cs (xs.toList.drop i) → VRl o' w g ds (ys.toList.drop i) →
    (Op.eqFields (d + 1) xs ys fs).run P w = .ok r w
  | [], i, ks, cs, ds, r, hk, he, hx, hy => by
    cases hk
    have := eqCells_nil he
    subst this
    simp [Op.eqFields, Sem.run_pure]
  | f :: fs, i, ks, cs, ds, r, hk, he, hx, hy => by
    unfold plainKinds at hk
    obtain ⟨⟨hoff, hname⟩, hk⟩ := ite_spec hk
    have part_ : ∀ (zs : Array Value) (v : Value) (vs : List Value) (dd : TypeDesc), P.underlying f.type = some dd → isAggD dd = false → zs.toList.drop i = v :: vs → (part f.type zs f.offset).run P w = .ok v w := by
      intro zs v vs dd hd ha hz
      have : zs[f.offset]? = some v := by
        rw [hoff, ← Array.getElem?_toList]
        have := congrArg (fun l => l[0]?) hz
        simpa [List.getElem?_drop] using this
      simp only [part, Sem.run_bind, run_isAgg hd, Result.andThen_ok, ha, Bool.false_eq_true, if_false, this, Sem.run_pure]
    have drop_ : ∀ (zs : Array Value) (v : Value) (vs : List Value), zs.toList.drop i = v :: vs → zs.toList.drop (i + 1) = vs := fun zs v vs hz => by
      have := congrArg List.tail hz
      simpa [List.tail_drop] using this
    simp only [Op.eqFields, ne_eq, hname, not_false_eq_true, if_true, Sem.run_bind]
    split at hk
    · rename_i k hd
      obtain ⟨ks', hk', rfl⟩ := map_spec hk
      obtain ⟨k1, a, cs', b, ds', q, rfl, rfl, he2, rfl⟩ := eqCells0 he
      obtain ⟨v, vs, hz1, h1, h2⟩ := hx
      obtain ⟨u, us, hz2, h3, h4⟩ := hy
      cases h1
      cases h3
      have ih := eqFields_run (d := d) (xs := xs) (ys := ys) hk' he2 (by rw [drop_ xs _ _ hz1]; exact h2) (by rw [drop_ ys _ _ hz2]; exact h4)
      rw [part_ xs _ _ _ hd rfl hz1, Result.andThen_ok, part_ ys _ _ _ hd rfl hz2, Result.andThen_ok, run_equalIn_int w d f.type k1 k a b hd, Result.andThen_ok]
      by_cases hab : a = b
      · subst hab; simp [ih]
      · simp [hab]
    · rename_i hd
      obtain ⟨ks', hk', rfl⟩ := map_spec hk
      obtain ⟨a, cs', b, ds', q, rfl, rfl, he2, rfl⟩ := eqCells1 he
      obtain ⟨v, vs, hz1, h1, h2⟩ := hx
      obtain ⟨u, us, hz2, h3, h4⟩ := hy
      cases h1
      cases h3
      have ih := eqFields_run (d := d) (xs := xs) (ys := ys) hk' he2 (by rw [drop_ xs _ _ hz1]; exact h2) (by rw [drop_ ys _ _ hz2]; exact h4)
      rw [part_ xs _ _ _ hd rfl hz1, Result.andThen_ok, part_ ys _ _ _ hd rfl hz2, Result.andThen_ok, run_equalIn_bool' w d f.type a b hd, Result.andThen_ok]
      cases a <;> cases b <;> simp [ih]
    · rename_i hd
      obtain ⟨ks', hk', rfl⟩ := map_spec hk
      obtain ⟨a, cs', b, ds', q, rfl, rfl, he2, rfl⟩ := eqCells2 he
      obtain ⟨v, vs, hz1, ⟨s, rfl, rfl⟩, h2⟩ := hx
      obtain ⟨u, us, hz2, ⟨s', rfl, rfl⟩, h4⟩ := hy
      have ih := eqFields_run (d := d) (xs := xs) (ys := ys) hk' he2 (by rw [drop_ xs _ _ hz1]; exact h2) (by rw [drop_ ys _ _ hz2]; exact h4)
      rw [part_ xs _ _ _ hd rfl hz1, Result.andThen_ok, part_ ys _ _ _ hd rfl hz2, Result.andThen_ok, run_equalIn_string w d f.type s s' hd, Result.andThen_ok, strEq]
      by_cases hab : bytesOf s = bytesOf s'
      · simp [hab, ih]
      · simp [hab]
    · cases hk
theorem eqSP_run {t : TypeId} {fields : Array Field} {ne : Bool} {ks : List Nat} {x y r : PV} {v u : Value} {X Y : Operand} {o o' : Bool} (ht : P.underlying t = some (.struct fields)) (hg : P.eqGuardType P.depth t = false) (hs : P.stoodInHeld t = false)
    (hk : plainKinds P 0 fields.toList = some ks) (h : eqSP ne ks x y = some r) (hx : VR o w g x v) (hy : VR o' w g y u) :
    ∃ z, (do eqGuard (if ne then .neq else .eql) t X Y v u; binOp (if ne then .neq else .eql) t v u : Sem Value).run P w = .ok z w ∧ VR true w g r z ∧ toks r z = [] := by
  unfold eqSP at h
  split at h
  · rename_i cs ds
    obtain ⟨q, h1, rfl⟩ := map_spec h
    obtain ⟨_, xs, rfl, hx⟩ := hx
    obtain ⟨_, ys, rfl, hy⟩ := hy
    have hf : P.fieldsOf t = fields := by unfold Program.fieldsOf; rw [ht]
    have he : (Op.equalIn 10000 t (.agg xs) (.agg ys)).run P w = .ok q w := by
      show (Op.equalIn (9999 + 1) t (.agg xs) (.agg ys)).run P w = _
      rw [run_equalIn_struct w 9999 t xs ys (by rw [hf]; exact ht) hs, hf]
      exact eqFields_run (d := 9998) hk h1 (by rw [List.drop_zero]; exact hx) (by rw [List.drop_zero]; exact hy)
    cases ne
    · exact ⟨.bool q, by simp only [Bool.false_eq_true, if_false, Sem.run_bind, run_eqGuard_agg w _ _ _ _ _ _ hg, Result.andThen_ok, run_eql_struct w, he], rfl, rfl⟩
    · exact ⟨.bool (!q), by simp only [if_true, Sem.run_bind, run_eqGuard_agg w _ _ _ _ _ _ hg, Result.andThen_ok, run_neq_struct w, he], rfl, rfl⟩
  · cases h
theorem does_bin (h : Rel dq out st H a w g) {op : BinOp} {t yt : TypeId} {x y : Operand} (hk : compBin P op t x y = some k) (hv : pev st H k = some r) : Does P ⟨d, .binOp op t x y yt, ty, pos, af, gd⟩ k st a w g r := by
  unfold compBin at hk
  split at hk
  · obtain ⟨p, hp, hk⟩ := bind_spec hk
    obtain ⟨q, hq, rfl⟩ := map_spec hk
    obtain ⟨z, h1, h2⟩ := binP_run (P := P) (t := t) (X := x) (Y := y) (w := w) (g := g) hv (arg_spec h.tm hp) (arg_spec h.tm hq)
    exact Does.same h rfl ⟨z, by unfold execOp; exact run_v h1, h2⟩
  · obtain ⟨p, hp, hk⟩ := bind_spec hk
    obtain ⟨q, hq, rfl⟩ := map_spec hk
    obtain ⟨z, h1, h2⟩ := binP_run (P := P) (t := t) (X := x) (Y := y) (w := w) (g := g) hv (arg_spec h.tm hp) (arg_spec h.tm hq)
    exact Does.same h rfl ⟨z, by unfold execOp; exact run_v h1, h2⟩
  · rename_i ht
    obtain ⟨p, hp, hk⟩ := bind_spec hk
    obtain ⟨q, hq, hk⟩ := bind_spec hk
    split at hk
    · cases hk
      obtain ⟨z, h1, h2⟩ := binBP_run (P := P) (ne := false) (t := t) (X := x) (Y := y) (w := w) (g := g) ht hv (arg_spec h.tm hp) (arg_spec h.tm hq)
      exact Does.same h rfl ⟨z, by unfold execOp; exact run_v h1, h2⟩
    · cases hk
      obtain ⟨z, h1, h2⟩ := binBP_run (P := P) (ne := true) (t := t) (X := x) (Y := y) (w := w) (g := g) ht hv (arg_spec h.tm hp) (arg_spec h.tm hq)
      exact Does.same h rfl ⟨z, by unfold execOp; exact run_v h1, h2⟩
    · cases hk
  · obtain ⟨_, hk⟩ := ite_spec hk
    obtain ⟨p, hp, hk⟩ := bind_spec hk
    split at hk
    · cases hk; cases hv
    · cases hk; cases hv
    · cases hk
  · rename_i fields ht
    obtain ⟨⟨hg, hs⟩, hk⟩ := ite_spec hk
    obtain ⟨ks, hks, hk⟩ := bind_spec hk
    obtain ⟨p, hp, hk⟩ := bind_spec hk
    obtain ⟨q, hq, hk⟩ := bind_spec hk
    split at hk
    · cases hk
      obtain ⟨z, h1, h2⟩ := eqSP_run (P := P) (ne := false) (X := x) (Y := y) (w := w) (g := g) ht hg hs hks hv (arg_spec h.tm hp) (arg_spec h.tm hq)
      exact Does.same h rfl ⟨z, by unfold execOp; exact run_v h1, h2⟩
    · cases hk
      obtain ⟨z, h1, h2⟩ := eqSP_run (P := P) (ne := true) (X := x) (Y := y) (w := w) (g := g) ht hg hs hks hv (arg_spec h.tm hp) (arg_spec h.tm hq)
      exact Does.same h rfl ⟨z, by unfold execOp; exact run_v h1, h2⟩
    · cases hk
  · cases hk
theorem does_un (h : Rel dq out st H a w g) {op : UnOp} {t : TypeId} {x : Operand} {p : Arg} (hp : compArg x = some p) (hv : pev st H (.un op p) = some r) : Does P ⟨d, .unOp op t x, ty, pos, af, gd⟩ (.un op p) st a w g r := by
  obtain ⟨z, h1, h2⟩ := unP_run (P := P) (w := w) (g := g) hv (arg_spec h.tm hp)
  exact Does.same h rfl ⟨z, by unfold execOp; exact run_v h1, h2⟩
theorem does_conv (h : Rel dq out st H a w g) {src dst : TypeId} {x : Operand} (hk : compConv P src dst x = some k) (hv : pev st H k = some r) : Does P ⟨d, .convert src dst x, ty, pos, af, gd⟩ k st a w g r := by
  unfold compConv at hk
  split at hk
  · rename_i k1 k2 e1 e2
    obtain ⟨p, hp, rfl⟩ := map_spec hk
    have h1 := arg_spec h.tm hp
    simp only [pev] at hv
    unfold cvIP at hv
    split at hv
    · rename_i n hn
      rw [hn] at h1
      simp only [VR] at h1
      cases hv
      refine Does.same h rfl ⟨_, by unfold execOp; exact run_v (z := .int k2 (k2.wrap n)) (by simp [h1, convert, run_underlying e1, run_underlying e2, Conv.intToInt]), rfl, by simp [toks]⟩
    · cases hv
  · rename_i e1 e2
    obtain ⟨p, hp, rfl⟩ := map_spec hk
    have h1 := arg_spec h.tm hp
    simp only [pev] at hv
    unfold idcP at hv
    split at hv
    · rename_i s hs
      rw [hs] at h1
      obtain ⟨b, hb, rfl⟩ := h1
      cases hv
      exact Does.same h rfl ⟨_, by unfold execOp; exact run_v (z := .string b) (by simp [hb, convert, run_underlying e1, run_underlying e2]), ⟨b, rfl, rfl⟩, by simp [toks]⟩
    · cases hv
  · rename_i e e1 e2
    split at hk
    · rename_i e3
      obtain ⟨p, hp, rfl⟩ := map_spec hk
      have h1 := arg_spec h.tm hp
      simp only [pev] at hv
      obtain ⟨z, h2, h3⟩ := cvSP_run (P := P) hv (VR_weak _ _ h1)
      have hsl : ∃ A l c, a.eval x = .slice A l c := by
        unfold cvSP at hv
        split at hv
        · rename_i hq
          rw [hq] at h1
          obtain ⟨A, cap, h4, _⟩ := h1
          exact ⟨A, _, cap, h4⟩
        · cases hv
      obtain ⟨A, l, c, h4⟩ := hsl
      refine Does.same h rfl ⟨z, by unfold execOp; refine run_v ?_; rw [h4] at h2 ⊢; simp [convert, run_underlying e1, run_underlying e2, run_underlying e3, h2], h3⟩
    · cases hk
  · rename_i e e1 e2
    split at hk
    · rename_i e3
      obtain ⟨p, hp, rfl⟩ := map_spec hk
      have h1 := arg_spec h.tm hp
      simp only [pev] at hv
      unfold cvBP at hv
      split at hv
      · rename_i s hs
        obtain ⟨hl, hv⟩ := ite_spec hv
        cases hv
        rw [hs] at h1
        obtain ⟨b, hb, rfl⟩ := h1
        rw [bytesOf_length] at hl
        generalize hc : grownCap w b.size 0 e = cap
        have hge : b.size ≤ cap := by rw [← hc]; exact grownCap_ge _ _ _ _
        have hcm : cap ≤ maxLen := by rw [← hc]; exact grownCap_le_maxLen _ _ _ _ (by simp only [maxLen]; omega)
        generalize hus : (b.data.map fun c => Value.int .u8 c.toNat) ++ Array.replicate (cap - b.size) (.int .u8 0) = us
        have husz : us.size = cap := by rw [← hus]; simp; omega
        have hrun : (convert src dst (.string b)).run P w = .ok (.slice (some ⟨w.heap.size, 0, none⟩) b.size cap) ((w.drew.alloc (.cells us e)).freeze ⟨w.heap.size, us.size, none⟩ 1) := by
          have hq : (w.drew.alloc (Obj.cells us e)).shape? w.heap.size = some (e, us.size) := by
            unfold World.shape?
            rw [show (w.drew.alloc (Obj.cells us e)).heap[w.heap.size]? = some (.cells us e (0, 0)) from push_new w.drew _]
          simp only [convert, run_underlying e1, run_underlying e2, run_underlying e3, Conv.stringToBytes, Sem.run_bind, Result.andThen_ok, run_choose, Question.forced, Bool.false_eq_true, if_false, newRow, run_newObj, Sem.run_pure, markStringish, run_shape]
          have hcap : (Question.appendCap b.size 0 e).cut (w.tape w.drawn (Question.appendCap b.size 0 e)) = cap := hc
          simp only [hcap, hus]
          have hw1 : ({ heap := w.heap.push (Obj.cells us e), tape := w.tape, drawn := w.drawn + 1, os := w.os, output := w.output } : World) = w.drew.alloc (.cells us e) := rfl
          rw [hw1, hq]
          rfl
        have hheap : ((w.drew.alloc (.cells us e)).freeze ⟨w.heap.size, us.size, none⟩ 1).heap = (w.alloc (.cells us e (us.size, us.size + 1))).heap := by
          apply Array.ext_getElem?
          intro i
          simp only [World.freeze, Nat.one_ne_zero, if_false, Array.getElem?_modify]
          by_cases hi : w.heap.size = i
          · subst hi
            rw [if_pos rfl, show (w.drew.alloc (Obj.cells us e)).heap[w.heap.size]? = some (.cells us e (0, 0)) from push_new w.drew _, push_new]
            rfl
          · rw [if_neg hi]
            show (w.heap.push _)[i]? = (w.heap.push _)[i]?
            simp only [Array.getElem?_push]
            rw [if_neg (by omega), if_neg (by omega)]
        have hS : Step0 [] w g ((w.drew.alloc (.cells us e)).freeze ⟨w.heap.size, us.size, none⟩ 1) (upd g w.heap.size .imm) := Step0.alloc h.wr hheap rfl rfl rfl (by simp) (fun f hf => by cases hf)
        have hnew : ((w.drew.alloc (.cells us e)).freeze ⟨w.heap.size, us.size, none⟩ 1).heap[w.heap.size]? = some (.cells us e (us.size, us.size + 1)) := by rw [hheap]; exact push_new w _
        have hlen : (List.map (PV.int .u8) (bytesOf b)).length = b.size := by rw [List.length_map, bytesOf_length]
        have htk : toks (.lst 1 (List.map (PV.int .u8) (bytesOf b)) false) (.slice (some ⟨w.heap.size, 0, none⟩) b.size cap) = [] := by simp [toks]
        refine ⟨_, _, _, [], by unfold execOp; exact run_v (by rw [hb]; exact hrun), { hS with rv := ?_, rt := by simp [htk], rs := by simp [htk] }, h.tm, fun x => by simp [ptake]⟩
        refine ⟨_, cap, by rw [hlen], by omega, hcm, .inr ⟨w.heap.size, 0, b.data.toList.map fun c => .int .u8 c.toNat, rfl, readable_mk us e _ hnew ?_ ?_ (.inl (upd_same _ _ _)), ?_⟩, fun _ ho => by cases ho⟩
        · rw [hlen, List.drop_zero, Nat.mul_one, ← hus, Array.toList_append, Array.toList_map]
          exact List.take_left' (by rw [List.length_map]; rfl)
        · rw [hlen, Nat.mul_one, List.length_map]
          rfl
        · exact VRe_map_int b.data.toList
      · cases hv
    · cases hk
  · rename_i e e2 e1 e3
    obtain ⟨hsd, hk⟩ := ite_spec hk
    split at hk
    · rename_i e4
      obtain ⟨p, hp, rfl⟩ := map_spec hk
      subst hsd
      simp only [pev] at hv
      unfold cvMP at hv
      split at hv
      · rename_i xs hxs
        cases hv
        have h1 := argT_spec h.tm hp
        rw [hxs] at h1
        obtain ⟨b, vs, hb, hml, hR, he, hown⟩ := h1
        obtain ⟨c, ec, hc, hg⟩ := hown rfl
        have hshape : w.shape? b = some (ec, c.size) := by unfold World.shape?; rw [hc]
        have hee : e = e2 := by rw [e1] at e3; simpa using e3
        have hrun : (convert src src (a.eval x)).run P w = .ok (a.eval x) (w.freeze ⟨b, c.size, none⟩ 1) := by
          rw [hb]
          simp only [convert, Sem.run_bind, run_underlying e1, Result.andThen_ok, run_underlying e4, beq_self_eq_true, markStringish, run_shape, hshape, run_freeze, Sem.run_pure]
        have hheap : ∀ k, (w.freeze ⟨b, c.size, none⟩ 1).heap[k]? = if k = b then some (.cells c ec (c.size, c.size + 1)) else w.heap[k]? := by
          intro k
          simp only [World.freeze, Nat.one_ne_zero, if_false, Array.getElem?_modify]
          by_cases hk : b = k
          · subst hk
            rw [if_pos rfl, if_pos rfl, hc]
            rfl
          · rw [if_neg hk, if_neg (Ne.symm hk)]
        have hsize : (w.freeze ⟨b, c.size, none⟩ 1).heap.size = w.heap.size := by simp [World.freeze]
        obtain ⟨t1, t2⟩ := take_spec h.tm hp
        have htk : toks (argT st p) (a.eval x) = [b] := by rw [hxs, hb]; simp [toks]
        have hS : Step0 [b] w g (w.freeze ⟨b, c.size, none⟩ 1) (upd g b .imm) := by
          refine ⟨rfl, rfl, rfl, by omega, fun k hk hkb => ?_, fun k hk f c2 e2 fz hf hc2 => ?_, fun k hk => ?_, fun k f hf hd => ?_⟩
          · simp only [List.mem_singleton] at hkb
            exact ⟨by rw [hheap, if_neg hkb], upd_ne _ _ hkb⟩
          · simp only [List.mem_singleton] at hk
            subst hk
            rw [hc] at hc2
            cases hc2
            exact ⟨c, _, by rw [hheap, if_pos rfl], rfl, .inl (upd_same _ _ _)⟩
          · rw [hsize] at hk
            by_cases hkb : k = b
            · subst hkb; exact upd_same _ _ _
            · rw [upd_ne _ _ hkb]; exact h.wr.fresh k hk
          · by_cases hkb : k = b
            · subst hkb; rw [upd_same] at hf; cases hf
            · rw [upd_ne _ _ hkb] at hf
              obtain ⟨c2, e5, q1, q2⟩ := h.wr.tl k f hf
              exact ⟨c2, e5, by rw [hheap, if_neg hkb]; exact q1, q2⟩
        have hE : Evol [] w g (w.freeze ⟨b, c.size, none⟩ 1) (upd g b .imm) := hS.evol (fun k hk => by simp only [List.mem_singleton] at hk; subst hk; exact ⟨_, hg⟩) (by simp)
        have ht0 : ∀ v, toks (.lst 1 xs false) v = [] := fun v => by simp [toks]
        refine ⟨a.eval x, _, _, [b], by unfold execOp; exact run_v hrun, { hS with rv := ?_, rt := by simp [ht0], rs := by simp [ht0] }, t1, fun z => by rw [← htk]; exact t2 z⟩
        rw [hb]
        exact ⟨_, _, rfl, Nat.le_refl _, hml, .inr ⟨b, 0, vs, rfl, hR.mono hE, VRe_mono hE _ _ _ he⟩, fun _ h => by cases h⟩
      · cases hv
    · cases hk
  · cases hk
end
end Go.Proofs.YtjcjbpbkakfjdaaDoor.E
/- A logic of plain values, part 14: .. (2). -/
namespace Go.Proofs.YtjcjbpbkakfjdaaDoor.E
open Go Go.RowKit
set_option linter.unusedVariables false
set_option linter.unusedSimpArgs false
variable {dq : List Deferred}
section
variable {P : Program} {hint : Hint} {k : PK} {out : List Nat} {st : List PV} {H : Heap} {a : Act} {w : World} {g : Ghost} {r : PV} {d : Option Tmp} {ty : TypeId} {pos : String} {af : Array Edge} {gd : Option (Nat × Bool)}
theorem does_slice (h : Rel dq out st H a w g) {t : TypeId} {x : Operand} {lo hi mx : Option Operand} (hk : compSlice P t x lo hi mx = some k) (hv : pev st H k = some r) : Does P ⟨d, .slice t x lo hi mx, ty, pos, af, gd⟩ k st a w g r := by
  unfold compSlice at hk
  split at hk
  · rename_i e ht
    obtain ⟨i, hi', hk⟩ := bind_spec hk
    obtain ⟨p, hp, hk⟩ := bind_spec hk
    obtain ⟨lo', hlo, hk⟩ := bind_spec hk
    obtain ⟨hi2, hhi, hk⟩ := bind_spec hk
    obtain ⟨mx', hmx, rfl⟩ := map_spec hk
    obtain ⟨z, h1, h2⟩ := sliP_run (P := P) ht hi' hv (arg_spec h.tm hp) (opt_spec h.tm hlo) (opt_spec h.tm hhi) (opt_spec h.tm hmx)
    exact Does.same h rfl ⟨z, by unfold execOp; exact run_v h1, h2⟩
  · rename_i ht
    split at hk
    · cases hk
    · rename_i hmx
      obtain ⟨p, hp, hk⟩ := bind_spec hk
      obtain ⟨lo', hlo, hk⟩ := bind_spec hk
      obtain ⟨hi2, hhi, rfl⟩ := map_spec hk
      have : mx = none := by cases mx <;> simp_all
      subst this
      obtain ⟨z, h1, h2⟩ := slsP_run (P := P) ht hv (arg_spec h.tm hp) (opt_spec h.tm hlo) (opt_spec h.tm hhi)
      exact Does.same h rfl ⟨z, by unfold execOp; exact run_v h1, h2⟩
  · cases hk
theorem toList_one {α : Type} {c : Array α} {x : α} (h : c.toList = [x]) : c = #[x] := by apply Array.toList_inj.1; rw [h]
theorem toList_two {α : Type} {c : Array α} {x y : α} (h : c.toList = [x, y]) : c = #[x, y] := by apply Array.toList_inj.1; rw [h]
theorem does_builtin (h : Rel dq out st H a w g) {b : Builtin} {args : Array Operand} {ts : Array TypeId} (hk : compBuiltin P b ts.toList args.toList = some k) (hv : pev st H k = some r) :
    Does P ⟨d, .call ⟨.builtin b, args, ts⟩, ty, pos, af, gd⟩ k st a w g r := by
  unfold compBuiltin at hk
  split at hk
  · rename_i t tx x y hts hargs
    have e1 := toList_two hts
    have e2 := toList_two hargs
    subst e1 e2
    split at hk
    · rename_i e dx ht htx
      obtain ⟨i, hi, hk⟩ := bind_spec hk
      obtain ⟨z, hz, hk⟩ := bind_spec hk
      obtain ⟨⟨c1, c2, c3, c4⟩, hk⟩ := ite_spec hk
      obtain ⟨p, hp, hk⟩ := bind_spec hk
      obtain ⟨q, hq, rfl⟩ := map_spec hk
      have hdx : dx = .string ∨ ∃ e2, dx = .slice e2 := by
        cases dx <;> simp at c4
        · exact .inl rfl
        · exact .inr ⟨_, rfl⟩
      obtain ⟨v', w', g', h1, h2⟩ := appP_run (P := P) (ty := ty) ht htx hdx hi hz c1 c2 c3 h.wr hv (argT_spec h.tm hp) (VR_weak _ _ (arg_spec h.tm hq))
      obtain ⟨h3, h4⟩ := take_spec h.tm hp
      refine ⟨v', w', g', _, ?_, h2, h3, h4⟩
      simp only [execOp, resolve, invoke, builtin, Sem.run_bind, Sem.run_pure, Result.andThen_ok, List.map_toArray, List.map_cons, List.map_nil, h1]
    · cases hk
  · rename_i t x hts hargs
    have e1 := toList_one hts
    have e2 := toList_one hargs
    subst e1 e2
    split at hk
    · rename_i ht
      obtain ⟨p, hp, rfl⟩ := map_spec hk
      obtain ⟨z, h1, h2⟩ := lenS_run (P := P) (ty := ty) ht hv (arg_spec h.tm hp)
      exact Does.same h rfl ⟨z, by simp only [execOp, resolve, invoke, builtin, Sem.run_bind, Sem.run_pure, Result.andThen_ok, List.map_toArray, List.map_cons, List.map_nil, h1], h2⟩
    · rename_i ht
      obtain ⟨p, hp, rfl⟩ := map_spec hk
      obtain ⟨z, h1, h2⟩ := lenL_run (P := P) (ty := ty) ht hv (arg_spec h.tm hp)
      exact Does.same h rfl ⟨z, by simp only [execOp, resolve, invoke, builtin, Sem.run_bind, Sem.run_pure, Result.andThen_ok, List.map_toArray, List.map_cons, List.map_nil, h1], h2⟩
    · cases hk
  · rename_i x y hargs
    have e2 := toList_two hargs
    subst e2
    obtain ⟨p, hp, hk⟩ := bind_spec hk
    obtain ⟨q, hq, rfl⟩ := map_spec hk
    obtain ⟨z, h1, h2⟩ := mmP_run (P := P) (ts := ts) (ty := ty) (mx := true) (w := w) (g := g) hv (arg_spec h.tm hp) (arg_spec h.tm hq)
    refine Does.same h rfl ⟨z, ?_, h2⟩
    simp only [if_true] at h1
    simp only [execOp, resolve, invoke, builtin, Sem.run_bind, Sem.run_pure, Result.andThen_ok, List.map_toArray, List.map_cons, List.map_nil, h1]
  · rename_i x y hargs
    have e2 := toList_two hargs
    subst e2
    obtain ⟨p, hp, hk⟩ := bind_spec hk
    obtain ⟨q, hq, rfl⟩ := map_spec hk
    obtain ⟨z, h1, h2⟩ := mmP_run (P := P) (ts := ts) (ty := ty) (mx := false) (w := w) (g := g) hv (arg_spec h.tm hp) (arg_spec h.tm hq)
    refine Does.same h rfl ⟨z, ?_, h2⟩
    simp only [Bool.false_eq_true, if_false] at h1
    simp only [execOp, resolve, invoke, builtin, Sem.run_bind, Sem.run_pure, Result.andThen_ok, List.map_toArray, List.map_cons, List.map_nil, h1]
  · cases hk
theorem does_extF (h : Rel dq out st H a w g) {x : Operand} {p : Arg} {i : Nat} (hp : compArg x = some p) (hv : pev st H (.ext false p i) = some r) : Does P ⟨d, .extract x i, ty, pos, af, gd⟩ (.ext false p i) st a w g r := by
  have h1 := arg_spec h.tm hp
  have h0 : toks (arg st p) (a.eval x) = [] := arg_toks
  simp only [pev, Bool.false_eq_true, if_false] at hv
  unfold extP at hv
  split at hv
  · rename_i vs hvs
    rw [hvs] at h1 h0
    obtain ⟨us, hu, hl⟩ := h1
    obtain ⟨u, hu1, hu2⟩ := VRl_get hl hv
    rw [hu] at h0
    have h0 : toksL vs us.toList = [] := by simpa [toks] using h0
    refine Does.same h rfl ⟨u, ?_, hu2, List.eq_nil_iff_forall_not_mem.mpr fun b hb => ?_⟩
    · unfold execOp
      refine run_v ?_
      have : us[i]? = some u := by rw [← Array.getElem?_toList]; exact hu1
      simp [hu, Instr.extract, this]
    · have := count_toksL_set b vs us.toList i (lend r) r u u hv hu1
      rw [toks_lend, List.count_nil, h0, List.count_nil] at this
      have := List.count_pos_iff.mpr hb
      omega
  · cases hv
theorem does_ext (h : Rel dq out st H a w g) {x : Operand} {p : Arg} {i : Nat} {tk : Bool} (hp : compArg x = some p) (hv : pev st H (.ext tk p i) = some r) : Does P ⟨d, .extract x i, ty, pos, af, gd⟩ (.ext tk p i) st a w g r := by
  cases tk
  · exact does_extF h hp hv
  have h1 := argT_spec h.tm hp
  simp only [pev, if_true] at hv
  unfold extP at hv
  split at hv
  · rename_i vs hvs
    rw [hvs] at h1
    obtain ⟨us, hu, hl⟩ := h1
    obtain ⟨u, hu1, hu2⟩ := VRl_get hl hv
    have hrun : (execOp a.eval ⟨d, .extract x i, ty, pos, af, gd⟩).run P w = .ok (.value u) w := by
      unfold execOp
      refine run_v ?_
      have : us[i]? = some u := by rw [← Array.getElem?_toList]; exact hu1
      simp [hu, Instr.extract, this]
    unfold compArg at hp
    split at hp
    · rename_i t
      cases hp
      simp only [argT] at hvs
      by_cases ht : t < st.length
      · obtain ⟨v, q1, q2⟩ := VRl_get h.tm (List.getElem?_eq_getElem ht)
        have e1 : st.getD t .unit = st[t] := by simp [List.getD, List.getElem?_eq_getElem ht]
        have e2 : a.tmps.getD t undef = v := by simp only [Array.getD_eq_getD_getElem?, ← Array.getElem?_toList, q1, Option.getD_some]
        have e3 : v = .tuple us := by rw [← e2]; exact hu
        subst e3
        have hset : a.tmps.toList.set t (.tuple us) = a.tmps.toList := by
          obtain ⟨hl, hv⟩ := List.getElem?_eq_some_iff.1 q1
          rw [← hv]
          exact List.set_getElem_self hl
        have hus : us.toList.set i u = us.toList := by
          obtain ⟨hl, hv⟩ := List.getElem?_eq_some_iff.1 hu1
          rw [← hv]
          exact List.set_getElem_self hl
        have hgd : vs.getD i .unit = r := by simp [List.getD, hv]
        have hst : st[t] = .tup vs := by rw [← e1]; exact hvs
        have hxt : extTake st (.t t) i = st.set t (.tup (vs.set i (lend r))) := by
          simp only [extTake, hvs, hgd]
        have hvr : VR true w g (.tup (vs.set i (lend r))) (.tuple us) := by
          have := VRl_set i hl (VR_lend (o := true) _ _ (VR_weak _ _ hu2))
          rw [hus] at this
          exact ⟨us, rfl, this⟩
        have c1 : ∀ b, (toks (.tup (vs.set i (lend r))) (.tuple us)).count b + (toks r u).count b = (toks (.tup vs) (.tuple us)).count b := fun b => by
          have := count_toksL_set b vs us.toList i (lend r) r u u hv hu1
          rw [hus, toks_lend, List.count_nil] at this
          simp only [toks]
          omega
        have c2 : ∀ b, (toksL (extTake st (.t t) i) a.tmps.toList).count b + (toks r u).count b = (toksL st a.tmps.toList).count b := fun b => by
          have := count_toksL_set b st a.tmps.toList t (.tup (vs.set i (lend r))) st[t] (.tuple us) (.tuple us) (List.getElem?_eq_getElem ht) q1
          rw [hset, hst] at this
          rw [hxt]
          have := c1 b
          omega
        refine ⟨u, w, g, toks r u, hrun, Step.move h.wr hu2 fun b => ?_, ?_, fun b => ?_⟩
        · have := c2 b
          have := h.un b
          omega
        · show VRl true w g (extTake st (.t t) i) _
          rw [hxt]
          have := VRl_set t h.tm hvr
          rw [hset] at this
          exact this
        · have := c2 b
          show (toksL (extTake st (.t t) i) _).count b + _ ≤ _
          omega
      · have e1 : st.getD t .unit = .unit := by rw [List.getD, List.getElem?_eq_none (Nat.le_of_not_lt ht)]; rfl
        rw [e1] at hvs
        cases hvs
    · obtain ⟨x, h1, rfl⟩ := Option.map_eq_some_iff.mp hp
      simp only [argT] at hvs
      subst hvs
      unfold constPV at h1
      split at h1
      · obtain ⟨_, _, h1⟩ := map_spec h1; cases h1
      · split at h1
        · cases h1
        · cases h1
      · unfold constCell at h1
        split at h1 <;> cases h1
    · cases hp
      simp only [argT] at hvs
      cases hvs
    · cases hp
  · cases hv
theorem does_nck (h : Rel dq out st H a w g) {x : Operand} {p : Arg} (hp : compArg x = some p) (hv : pev st H (.nck p) = some r) : Does P ⟨d, .nilCheck x, ty, pos, af, gd⟩ (.nck p) st a w g r := by
  obtain ⟨h1, h2⟩ := nckP_run (P := P) (dst := d) (ty := ty) (pos := pos) (after := af) (gd := gd) hv (arg_spec h.tm hp)
  exact Does.same h rfl ⟨_, h1, h2⟩
theorem does_mkf (h : Rel dq out st H a w g) {fn : Fn} {first cap : Array Operand} {f c : List Arg} (hf : compArgs first.toList = some f) (hc : compArgs cap.toList = some c) (hv : pev st H (.mkf fn f c) = some r) :
    Does P ⟨d, .makeFunc fn first cap, ty, pos, af, gd⟩ (.mkf fn f c) st a w g r := by
  cases hv
  obtain ⟨h1, _⟩ := args_spec h.tm hf
  obtain ⟨h2, _⟩ := args_spec h.tm hc
  refine Does.same h rfl ⟨.func fn (first.map a.eval) (cap.map a.eval), by unfold execOp; exact run_v rfl, ⟨_, _, rfl, ?_, ?_⟩, by simp [toks]⟩
  · rw [Array.toList_map]; exact VRl_weak _ _ h1
  · rw [Array.toList_map]; exact VRl_weak _ _ h2
end
end Go.Proofs.YtjcjbpbkakfjdaaDoor.E
/- A logic of plain values, part 15: .. (3): what is built and made. -/
namespace Go.Proofs.YtjcjbpbkakfjdaaDoor.E
open Go Go.RowKit
set_option linter.unusedVariables false
set_option linter.unusedSimpArgs false
variable {dq : List Deferred}
theorem rep_cells (z : Array Value) (hz : 0 < z.size) : ∀ n, ((Array.range (n * z.size)).map (fun j => z[j % z.size]!)).toList = (List.replicate n z.toList).flatten
  | 0 => by simp
  | n + 1 => by
    have ih := rep_cells z hz n
    simp only [Array.toList_map, Array.toList_range] at ih ⊢
    rw [Nat.succ_mul, List.range_add, List.map_append, ih, List.replicate_succ', List.flatten_append]
    congr 1
    simp only [List.map_map, List.flatten_cons, List.flatten_nil, List.append_nil]
    apply List.ext_getElem?
    intro i
    rw [List.getElem?_map]
    by_cases hi : i < z.size
    · have e : (n * z.size + i) % z.size = i := by rw [Nat.add_comm, Nat.add_mul_mod_self_right, Nat.mod_eq_of_lt hi]
      rw [List.getElem?_range hi, Option.map_some, Function.comp_apply, e, List.getElem?_eq_getElem (by exact hi)]
      congr 1
      rw [getElem!_pos z i hi]
      rfl
    · rw [List.getElem?_eq_none (by simp; omega), List.getElem?_eq_none (by simp; omega)]
      rfl
theorem VRl_rep {o : Bool} {w : World} {g : Ghost} {zs : List PV} {us : List Value} (h : VRl o w g zs us) : ∀ n, VRl o w g (repCells n zs) (List.replicate n us).flatten
  | 0 => rfl
  | n + 1 => by
    unfold repCells
    rw [List.replicate_succ, List.replicate_succ, List.flatten_cons, List.flatten_cons]
    exact VRl_append h (VRl_rep h n)
theorem all_rep {zs : List PV} (h : zs.all PV.isCell = true) : ∀ n, (repCells n zs).all PV.isCell = true
  | 0 => rfl
  | n + 1 => by
    unfold repCells
    rw [List.replicate_succ, List.flatten_cons, List.all_append, h]
    exact all_rep h n
theorem VRe_of_cells {w : World} {g : Ghost} : ∀ {cs : List PV} {us : List Value}, cs.all PV.isCell = true → VRl false w g cs us → VRe w g 1 cs us
  | [], us, _, h => by cases h; rfl
  | x :: cs, us, ha, h => by
    obtain ⟨v, us', rfl, h1, h2⟩ := h
    simp only [List.all_cons, Bool.and_eq_true] at ha
    exact VRe_cons.2 ⟨[v], us', rfl, ⟨rfl, .inr ⟨ha.1, v, rfl, h1⟩⟩, VRe_of_cells ha.2 h2⟩
theorem VRe_chunk {w : World} {g : Ghost} {sz : Nat} : ∀ {n : Nat} {cs : List PV} {us : List Value}, cs.all PV.isCell = true → cs.length = n * sz → VRl false w g cs us → VRe w g sz (chunk sz n cs) us
  | 0, cs, us, _, hl, h => by
    have : cs = [] := List.eq_nil_of_length_eq_zero (by omega)
    subst this
    cases h
    rfl
  | n + 1, cs, us, ha, hl, h => by
    obtain ⟨h1, h2⟩ := VRl_take sz h
    have hl2 : cs.length = n * sz + sz := by rw [hl, Nat.succ_mul]
    refine VRe_cons.2 ⟨us.take sz, us.drop sz, (List.take_append_drop _ _).symm, ⟨by rw [VRl_length h1, List.length_take]; omega, .inl ⟨_, rfl, ?_, h1⟩⟩, VRe_chunk ?_ (by rw [List.length_drop]; omega) h2⟩
    · have := all_drop_take ha 0 sz
      rwa [List.drop_zero] at this
    · have := all_drop_take ha sz cs.length
      rwa [List.take_of_length_le (by rw [List.length_drop]; omega)] at this
theorem length_chunk (sz : Nat) : ∀ (n : Nat) (cs : List PV), (chunk sz n cs).length = n
  | 0, _ => rfl
  | n + 1, cs => by simp [chunk, length_chunk sz n]
theorem VRe_elems {w : World} {g : Ghost} {sz n : Nat} {ag : Bool} {cs : List PV} {us : List Value} (ha : cs.all PV.isCell = true) (hl : cs.length = n * sz) (h1 : ag = false → sz = 1) (h : VRl false w g cs us) :
    VRe w g sz (elemsOf sz ag n cs) us ∧ (elemsOf sz ag n cs).length = n := by
  cases ag with
  | true => exact ⟨VRe_chunk ha hl h, length_chunk _ _ _⟩
  | false =>
    have := h1 rfl
    subst this
    exact ⟨VRe_of_cells ha h, by simpa [elemsOf] using hl⟩
theorem length_fillP : ∀ {parts : List (Nat × Nat × PV)} {cs rs : List PV}, fillP cs parts = some rs → rs.length = cs.length
  | [], cs, rs, h => by cases h; rfl
  | (off, sz, v) :: rest, cs, rs, h => by
    unfold fillP at h
    obtain ⟨⟨h1, h2, _⟩, h⟩ := ite_spec h
    rw [length_fillP h]
    simp only [List.length_append, List.length_take, List.length_drop, h1]
    omega
theorem length_rep (n : Nat) (zs : List PV) : (repCells n zs).length = n * zs.length := by
  induction n with
  | zero => simp [repCells]
  | succ n ih =>
    unfold repCells at ih ⊢
    rw [List.replicate_succ, List.flatten_cons, List.length_append, ih, Nat.succ_mul, Nat.add_comm]
section
variable {P : Program} {hint : Hint} {k : PK} {out : List Nat} {st : List PV} {H : Heap} {a : Act} {w : World} {g : Ghost} {r : PV} {d : Option Tmp} {ty : TypeId} {pos : String} {af : Array Edge} {gd : Option (Nat × Bool)}
theorem run_places {w : World} : ∀ (fs : List Field), fs.all (fun f => (P.info? f.type).isSome) = true →
    (fs.mapM (fun f => (do pure (f.offset, ← sizeOf f.type) : Sem (Nat × Nat)))).run P w = .ok (fs.map fun f => (f.offset, ((P.info? f.type).map (·.size)).getD 0)) w
  | [], _ => by simp
  | f :: fs, h => by
    simp only [List.all_cons, Bool.and_eq_true] at h
    obtain ⟨i, hi⟩ := Option.isSome_iff_exists.1 h.1
    have ih := run_places (w := w) fs h.2
    simp only [List.mapM_cons, Sem.run_bind, run_sizeOf hi, Result.andThen_ok, Sem.run_pure, ih, List.map_cons, hi, Option.map_some, Option.getD_some]
theorem parts_spec (h : VRl true w g st a.tmps.toList) {fields : Array Field} : ∀ {ps : List (Nat × Operand)} {qs : List (Nat × Nat × Arg)}, compParts P fields ps = some qs →
    PartsR true w g (fun i => ((fields.toList.map fun f => (f.offset, ((P.info? f.type).map (·.size)).getD 0)).toArray)[i]?) (partsOf st qs) (ps.map fun p => (p.1, a.eval p.2))
  | [], qs, hk => by cases hk; rfl
  | (i, x) :: ps, qs, hk => by
    unfold compParts at hk
    obtain ⟨f, hf, hk⟩ := bind_spec hk
    obtain ⟨fi, hfi, hk⟩ := bind_spec hk
    obtain ⟨p, hp, hk⟩ := bind_spec hk
    obtain ⟨qs', hq, rfl⟩ := map_spec hk
    refine ⟨(i, a.eval x), _, rfl, ?_, arg_spec h hp, arg_toks, parts_spec h hq⟩
    have hf' : fields.toList[i]? = some f := by rw [Array.getElem?_toList]; exact hf
    simp [List.getElem?_map, hf, hfi]
theorem elems_spec (h : VRl true w g st a.tmps.toList) {sz : Nat} : ∀ {ps : List (Nat × Operand)} {qs : List (Nat × Nat × Arg)}, compElems sz ps = some qs →
    PartsR true w g (fun i => some (i * sz, sz)) (elemParts sz st (qs.map fun p => (p.1, p.2.2))) (ps.map fun p => (p.1, a.eval p.2))
  | [], qs, hk => by cases hk; rfl
  | (i, x) :: ps, qs, hk => by
    unfold compElems at hk
    obtain ⟨p, hp, hk⟩ := bind_spec hk
    obtain ⟨qs', hq, rfl⟩ := map_spec hk
    exact ⟨(i, a.eval x), _, rfl, rfl, arg_spec h hp, arg_toks, elems_spec h hq⟩
theorem parts_map (parts : Array (Nat × Operand)) (ρ : Operand → Value) : (parts.map fun (i, x) => (i, ρ x)).toList = parts.toList.map fun p => (p.1, ρ p.2) := by
  rw [Array.toList_map]
theorem does_build (h : Rel dq out st H a w g) {t : TypeId} {parts : Array (Nat × Operand)} {fields : Array Field} {i : TypeInfo} {z : Value} {zero : List PV} {ps : List (Nat × Nat × Arg)} (ht : P.underlying t = some (.struct fields)) (hi : P.info? t = some i) (hz : i.zero = some z)
    (hzero : constCells z.cells.toList = some zero) (hall : fields.toList.all (fun f => (P.info? f.type).isSome) = true) (hps : compParts P fields parts.toList = some ps) (hv : pev st H (.build zero ps) = some r) :
    Does P ⟨d, .build t parts, ty, pos, af, gd⟩ (.build zero ps) st a w g r := by
  obtain ⟨cs, h1, rfl⟩ := map_spec hv
  obtain ⟨z1, z2, z3⟩ := constCells_VR w g hzero
  obtain ⟨us, f1, f2, f3, f4⟩ := fillP_run (us := z.cells) h1 z2 z1 z3 (parts_spec (P := P) h.tm hps)
  refine Does.same h rfl ⟨.agg us, ?_, ⟨f2, us, rfl, f3⟩, by simpa [toks] using f4⟩
  unfold execOp
  refine run_v ?_
  have hpl : (fields.mapM (fun f => (do pure (f.offset, ← sizeOf f.type) : Sem (Nat × Nat)))).run P w = .ok ((fields.toList.map fun f => (f.offset, ((P.info? f.type).map (·.size)).getD 0)).toArray) w := by
    rw [Array.mapM_eq_mapM_toList]
    simp only [Sem.run_map, run_places fields.toList hall, Result.andThen_ok]
  simp only [Instr.build, Sem.run_bind, zeroValue, typeInfo, run_program, Result.andThen_ok, hi, hz, Sem.run_pure, run_underlying ht, hpl, parts_map, f1]
theorem callArgs_spec : ∀ {xs : List Operand} {ps : List Arg} {st : List PV} (tk : List Bool), compArgs xs = some ps → VRl true w g st a.tmps.toList →
    VRl true w g (callArgs st ps tk) (xs.map a.eval) ∧ VRl true w g (callTake st ps tk) a.tmps.toList ∧
      ∀ b, (toksL (callTake st ps tk) a.tmps.toList).count b + (toksL (callArgs st ps tk) (xs.map a.eval)).count b ≤ (toksL st a.tmps.toList).count b
  | [], ps, st, tk, hp, h => by
    cases hp
    exact ⟨rfl, by simpa [callTake] using h, fun b => by simp [callArgs, callTake, toksL]⟩
  | x :: xs, ps, st, tk, hp, h => by
    obtain ⟨p, h1, hp⟩ := Option.bind_eq_some_iff.mp hp
    obtain ⟨qs, h2, rfl⟩ := Option.map_eq_some_iff.mp hp
    have hb := arg_spec h h1
    match tk with
    | [] =>
      obtain ⟨i1, i2, i3⟩ := callArgs_spec [] h2 h
      exact ⟨⟨_, _, rfl, hb, i1⟩, i2, fun b => by simp only [callArgs, callTake, List.map_cons, toksL, arg_toks, List.nil_append]; exact i3 b⟩
    | false :: tk =>
      obtain ⟨i1, i2, i3⟩ := callArgs_spec tk h2 h
      exact ⟨⟨_, _, rfl, hb, i1⟩, i2, fun b => by simp only [callArgs, callTake, List.map_cons, toksL, arg_toks, List.nil_append]; exact i3 b⟩
    | true :: tk =>
      obtain ⟨t1, t2⟩ := take_spec h h1
      obtain ⟨i1, i2, i3⟩ := callArgs_spec tk h2 t1
      refine ⟨⟨_, _, rfl, argT_spec h h1, i1⟩, i2, fun b => ?_⟩
      simp only [callArgs, callTake, List.map_cons, toksL, List.count_append]
      have := i3 b
      have := t2 b
      omega
theorem length_callArgs : ∀ (xs : List Arg) (tk : List Bool) (st : List PV), (callArgs st xs tk).length = xs.length
  | [], _, st => by simp [callArgs]
  | x :: xs, [], st => by simp [callArgs, length_callArgs xs]
  | x :: xs, true :: tk, st => by simp [callArgs, length_callArgs xs]
  | x :: xs, false :: tk, st => by simp [callArgs, length_callArgs xs]
theorem partsT_spec {fields : Array Field} : ∀ {ps : List (Nat × Operand)} {qs : List (Nat × Nat × Arg)} {vs : List PV}, compParts P fields ps = some qs → vs.length = qs.length → VRl true w g vs (ps.map fun p => a.eval p.2) →
    PartsT true w g (fun i => ((fields.toList.map fun f => (f.offset, ((P.info? f.type).map (·.size)).getD 0)).toArray)[i]?) ((qs.zip vs).map fun q => (q.1.1, q.1.2.1, q.2)) (ps.map fun p => (p.1, a.eval p.2)) ∧
      compArgs (ps.map (·.2)) = some (qs.map (·.2.2))
  | [], qs, vs, hk, hl, h => by cases hk; exact ⟨rfl, rfl⟩
  | (i, x) :: ps, qs, vs, hk, hl, h => by
    unfold compParts at hk
    obtain ⟨f, hf, hk⟩ := bind_spec hk
    obtain ⟨fi, hfi, hk⟩ := bind_spec hk
    obtain ⟨p, hp, hk⟩ := bind_spec hk
    obtain ⟨qs', hq, rfl⟩ := map_spec hk
    cases vs with
    | nil => simp at hl
    | cons v vs =>
      obtain ⟨u, us, e, h1, h2⟩ := h
      simp only [List.map_cons, List.cons.injEq] at e
      obtain ⟨rfl, rfl⟩ := e
      obtain ⟨i1, i2⟩ := partsT_spec hq (by simpa using hl) h2
      have hf' : fields.toList[i]? = some f := by rw [Array.getElem?_toList]; exact hf
      refine ⟨⟨(i, a.eval x), _, rfl, ?_, h1, i1⟩, ?_⟩
      · simp [List.getElem?_map, hf, hfi]
      · simp [compArgs, hp, i2]
theorem compParts_args {fields : Array Field} : ∀ {ps : List (Nat × Operand)} {qs : List (Nat × Nat × Arg)}, compParts P fields ps = some qs → compArgs (ps.map (·.2)) = some (qs.map (·.2.2))
  | [], qs, hk => by cases hk; rfl
  | (i, x) :: ps, qs, hk => by
    unfold compParts at hk
    obtain ⟨f, hf, hk⟩ := bind_spec hk
    obtain ⟨fi, hfi, hk⟩ := bind_spec hk
    obtain ⟨p, hp, hk⟩ := bind_spec hk
    obtain ⟨qs', hq, rfl⟩ := map_spec hk
    simp [compArgs, hp, compParts_args hq]
theorem does_bldT (h : Rel dq out st H a w g) {t : TypeId} {parts : Array (Nat × Operand)} {fields : Array Field} {i : TypeInfo} {z : Value} {zero : List PV} {ps : List (Nat × Nat × Arg)} (ht : P.underlying t = some (.struct fields)) (hi : P.info? t = some i) (hz : i.zero = some z)
    (hzero : constCells z.cells.toList = some zero) (hall : fields.toList.all (fun f => (P.info? f.type).isSome) = true) (hps : compParts P fields parts.toList = some ps) (hv : pev st H (.bldT zero ps) = some r) :
    Does P ⟨d, .build t parts, ty, pos, af, gd⟩ (.bldT zero ps) st a w g r := by
  obtain ⟨cs, h1, rfl⟩ := map_spec hv
  obtain ⟨z1, z2, z3⟩ := constCells_VR w g hzero
  obtain ⟨c1, c2, c3⟩ := callArgs_spec (ps.map fun _ => true) (compParts_args hps) h.tm
  have hlen : (callArgs st (ps.map (·.2.2)) (ps.map fun _ => true)).length = ps.length := by rw [length_callArgs, List.length_map]
  rw [List.map_map] at c1 c3
  obtain ⟨p1, _⟩ := partsT_spec hps hlen c1
  obtain ⟨us, f1, f2, f3, f4⟩ := fillP_runT (us := z.cells) h1 z2 z1 p1
  have hz1 : (bparts st ps).map (·.2.2) = callArgs st (ps.map (·.2.2)) (ps.map fun _ => true) := by
    unfold bparts
    rw [List.map_map]
    exact List.map_snd_zip (by omega)
  have hcnt : ∀ b, (toksL (callTake st (ps.map (·.2.2)) (ps.map fun _ => true)) a.tmps.toList).count b + (toks (.agg cs) (.agg us)).count b ≤ (toksL st a.tmps.toList).count b := fun b => by
    have e1 := f4 b
    rw [z3, hz1, List.map_map] at e1
    have e2 := c3 b
    simp only [toks]
    simp only [List.count_nil, Nat.zero_add] at e1
    have e3 : (toksL (callArgs st (ps.map (·.2.2)) (ps.map fun _ => true)) (parts.toList.map ((fun x => x.snd) ∘ fun p => (p.fst, a.eval p.snd)))).count b = (toksL (callArgs st (ps.map (·.2.2)) (ps.map fun _ => true)) (parts.toList.map (a.eval ∘ fun x => x.snd))).count b := rfl
    omega
  refine ⟨.agg us, w, g, toks (.agg cs) (.agg us), ?_, Step.move h.wr ⟨f2, us, rfl, f3⟩ (fun b => by have := hcnt b; have := h.un b; omega), c2, hcnt⟩
  unfold execOp
  refine run_v ?_
  have hpl : (fields.mapM (fun f => (do pure (f.offset, ← sizeOf f.type) : Sem (Nat × Nat)))).run P w = .ok ((fields.toList.map fun f => (f.offset, ((P.info? f.type).map (·.size)).getD 0)).toArray) w := by
    rw [Array.mapM_eq_mapM_toList]
    simp only [Sem.run_map, run_places fields.toList hall, Result.andThen_ok]
  simp only [Instr.build, Sem.run_bind, zeroValue, typeInfo, run_program, Result.andThen_ok, hi, hz, Sem.run_pure, run_underlying ht, hpl, parts_map, f1]
theorem bsl_run (h : Rel dq out st H a w g) {t e : TypeId} {len : Nat} {parts : Array (Nat × Operand)} {i : TypeInfo} {z : Value} {zero : List PV} {ps : List (Nat × Nat × Arg)} {cs : List PV} (ht : P.underlying t = some (.slice e)) (hi : P.info? e = some i) (hz : i.zero = some z)
    (hzero : constCells z.cells.toList = some zero) (hzl : zero.length = i.size) (hs0 : 0 < i.size) (hlim : len * i.size ≤ 16777216) (hps : compElems i.size parts.toList = some ps)
    (hv : fillP (repCells len zero) (elemParts i.size st (ps.map fun p => (p.1, p.2.2))) = some cs) :
    ∃ us, (Instr.buildSlice t len (parts.map fun (i, x) => (i, a.eval x))).run P w = .ok (.slice (some ⟨w.heap.size, 0, none⟩) len len) (w.alloc (.cells us e)) ∧ cs.all PV.isCell = true ∧ VRl true w g cs us.toList ∧ toksL cs us.toList = [] ∧ cs.length = len * i.size := by
  obtain ⟨z1, z2, z3⟩ := constCells_VR w g hzero
  have hzs : z.cells.size = i.size := by rw [← hzl, ← VRl_length z1]; rfl
  have hrep : ∀ n, toksL (repCells n zero) (List.replicate n z.cells.toList).flatten = [] := by
    intro n
    induction n with
    | zero => simp [repCells, toksL]
    | succ n ih =>
      unfold repCells at ih ⊢
      rw [List.replicate_succ, List.replicate_succ, List.flatten_cons, List.flatten_cons, toksL_append _ _ _ _ (by rw [VRl_length z1]), z3, ih]
      rfl
  have hinit : ((Array.range (len * z.cells.size)).map (fun j => z.cells[j % z.cells.size]!)).toList = (List.replicate len z.cells.toList).flatten := rep_cells z.cells (by omega) len
  obtain ⟨us, f1, f2, f3, f4⟩ := fillP_run (us := (Array.range (len * z.cells.size)).map (fun j => z.cells[j % z.cells.size]!)) hv (all_rep z2 len) (by rw [hinit]; exact VRl_rep z1 len) (by rw [hinit]; exact hrep len) (elems_spec h.tm hps)
  refine ⟨us, ?_, f2, f3, f4, by rw [length_fillP hv, length_rep, hzl]⟩
  have hng : ¬ (len * i.size > 2 ^ 24) := by omega
  by_cases hl : len * i.size = 0
  · have hl0 : len = 0 := by
      rcases Nat.mul_eq_zero.1 hl with h | h <;> omega
    subst hl0
    have e : (Array.range (0 * z.cells.size)).map (fun j => z.cells[j % z.cells.size]!) = #[] := by simp
    rw [e] at f1
    have e0 : ∀ q : Array Value, (Array.range (0 * i.size)).map (fun x => q[x % q.size]!) = #[] := fun q => by simp
    simp only [Instr.buildSlice, Sem.run_bind, run_underlying ht, Result.andThen_ok, run_sizeOf hi, Sem.run_ite, if_neg hng, if_pos hl, Sem.run_pure, parts_map, e0, f1]
    simp only [newRow, Sem.run_bind, run_newObj, Result.andThen_ok, Sem.run_pure]
    rfl
  · simp only [Instr.buildSlice, Sem.run_bind, run_underlying ht, Result.andThen_ok, run_sizeOf hi, Sem.run_ite, if_neg hng, if_neg hl, Sem.run_pure, zeroValue, typeInfo, run_program, hi, hz, parts_map]
    rw [hzs] at f1
    simp only [hzs, f1, newRow, Sem.run_bind, run_newObj, Result.andThen_ok, Sem.run_pure]
    rfl
end
end Go.Proofs.YtjcjbpbkakfjdaaDoor.E
/- A logic of plain values, part 16: .. (4), and all together. -/
namespace Go.Proofs.YtjcjbpbkakfjdaaDoor.E
open Go Go.RowKit
set_option linter.unusedVariables false
set_option linter.unusedSimpArgs false
variable {dq : List Deferred}
section
variable {P : Program} {hint : Hint} {k : PK} {out : List Nat} {st : List PV} {H : Heap} {a : Act} {w : World} {g : Ghost} {r : PV} {d : Option Tmp} {ty : TypeId} {pos : String} {af : Array Edge} {gd : Option (Nat × Bool)}
theorem does_bsl (h : Rel dq out st H a w g) {t e : TypeId} {dd : TypeDesc} {len : Nat} {parts : Array (Nat × Operand)} {i : TypeInfo} {z : Value} {zero : List PV} {ps : List (Nat × Nat × Arg)} (ht : P.underlying t = some (.slice e)) (hi : P.info? e = some i) (hz : i.zero = some z)
    (hzero : constCells z.cells.toList = some zero) (hzl : zero.length = i.size) (hs0 : 0 < i.size) (hlim : len * i.size ≤ 16777216) (h1 : isAggD dd = false → i.size = 1) (hps : compElems i.size parts.toList = some ps)
    (hv : pev st H (.bsl i.size len (isAggD dd) (repCells len zero) (ps.map fun p => (p.1, p.2.2)) false) = some r) :
    Does P ⟨d, .buildSlice t len parts, ty, pos, af, gd⟩ (.bsl i.size len (isAggD dd) (repCells len zero) (ps.map fun p => (p.1, p.2.2)) false) st a w g r := by
  obtain ⟨cs, h2, rfl⟩ := map_spec hv
  obtain ⟨us, q1, q2, q3, q4, q5⟩ := bsl_run h ht hi hz hzero hzl hs0 hlim hps h2
  have hS : Step0 [] w g (w.alloc (.cells us e)) (upd g w.heap.size .imm) := Step0.alloc h.wr rfl rfl rfl rfl (by simp) (fun f hf => by cases hf)
  have hE : Evol [] w g (w.alloc (.cells us e)) (upd g w.heap.size .imm) := hS.evol (by simp) (by simp)
  obtain ⟨e1, e2⟩ := VRe_elems (ag := isAggD dd) q2 q5 h1 (VRl_weak _ _ q3)
  have hul := VRl_length q3
  have hml : len ≤ maxLen := by
    have : len * 1 ≤ len * i.size := Nat.mul_le_mul_left _ hs0
    simp only [maxLen]
    omega
  have htk : toks (.lst i.size (elemsOf i.size (isAggD dd) len cs) true) (.slice (some ⟨w.heap.size, 0, none⟩) len len) = [] := by rw [toks_lst e2.symm]; simp
  refine ⟨_, _, _, [], by unfold execOp; exact run_v q1, { hS with rv := ?_, rt := by simp [htk], rs := by simp [htk] }, h.tm, fun x => by simp [ptake]⟩
  refine ⟨_, len, by rw [e2], by omega, hml, ?_, fun _ _ hlt => by omega⟩
  by_cases hl : len = 0
  · left
    exact List.eq_nil_of_length_eq_zero (by omega)
  · right
    refine ⟨w.heap.size, 0, us.toList, rfl, readable_mk us e _ (push_new w _) ?_ (by rw [hul, q5, e2]) (.inl (upd_same _ _ _)), VRe_mono hE _ _ _ e1⟩
    rw [List.drop_zero, List.take_of_length_le (by rw [hul, q5, e2]; exact Nat.le_refl _)]
theorem count_single (a b : Nat) : ([a] : List Nat).count b ≤ 1 := by
  rw [List.count_singleton]
  split <;> omega
theorem does_nl (h : Rel dq out st H a w g) {t e : TypeId} {dd : TypeDesc} {len : Nat} {parts : Array (Nat × Operand)} {i : TypeInfo} {z : Value} {zero : List PV} {ps : List (Nat × Nat × Arg)} (ht : P.underlying t = some (.slice e)) (hi : P.info? e = some i) (hz : i.zero = some z)
    (hzero : constCells z.cells.toList = some zero) (hzl : zero.length = i.size) (hs0 : 0 < i.size) (hlim : len * i.size ≤ 16777216) (h1 : isAggD dd = false → i.size = 1) (hps : compElems i.size parts.toList = some ps)
    (hv : pev st H (.nl i.size len (isAggD dd) (repCells len zero) (ps.map fun p => (p.1, p.2.2))) = some r) :
    Does P ⟨d, .buildSlice t len parts, ty, pos, af, gd⟩ (.nl i.size len (isAggD dd) (repCells len zero) (ps.map fun p => (p.1, p.2.2))) st a w g r := by
  obtain ⟨cs, h2, rfl⟩ := map_spec hv
  obtain ⟨us, q1, q2, q3, q4, q5⟩ := bsl_run h ht hi hz hzero hzl hs0 hlim hps h2
  have hul := VRl_length q3
  have hus : us.size = len * i.size := by
    have : us.toList.length = us.size := rfl
    rw [← this, hul, q5]
  have hS : Step0 [] w g (w.alloc (.cells us e)) (upd g w.heap.size (.tail (len * i.size))) := Step0.alloc h.wr rfl rfl rfl rfl (by simp) (fun f hf => by cases hf; exact ⟨rfl, by rw [hus]; exact Nat.le_refl _⟩)
  have hE : Evol [] w g (w.alloc (.cells us e)) (upd g w.heap.size (.tail (len * i.size))) := hS.evol (by simp) (by simp)
  obtain ⟨e1, e2⟩ := VRe_elems (ag := isAggD dd) q2 q5 h1 (VRl_weak _ _ q3)
  have hml : len ≤ maxLen := by
    have : len * 1 ≤ len * i.size := Nat.mul_le_mul_left _ hs0
    simp only [maxLen]
    omega
  have htk : toks (.nlit i.size (elemsOf i.size (isAggD dd) len cs)) (.slice (some ⟨w.heap.size, 0, none⟩) len len) = [w.heap.size] := rfl
  refine ⟨_, _, _, [], by unfold execOp; exact run_v q1, { hS with rv := ?_, rt := fun b => by rw [htk]; exact count_single _ _, rs := fun b hb => ?_ }, h.tm, fun x => by simp [ptake]⟩
  · refine ⟨w.heap.size, us.toList, by rw [e2], by omega, readable_mk us e _ (push_new w _) ?_ (by rw [hul, q5, e2]) (.inr ⟨_, upd_same _ _ _, by rw [e2]; omega⟩), VRe_mono hE _ _ _ e1, fun _ => ⟨us, e, push_new w _, by rw [e2]; exact upd_same _ _ _⟩⟩
    rw [List.drop_zero, List.take_of_length_le (by rw [hul, q5, e2]; exact Nat.le_refl _)]
  · rw [htk] at hb
    simp only [List.mem_singleton] at hb
    exact .inr (by omega)
theorem mk_run {t e : TypeId} {i : TypeInfo} {z : Value} {l c : Int} {k1 k2 : IntKind} (ht : P.underlying t = some (.slice e)) (hi : P.info? e = some i) (hz : i.zero = some z) (hzs : z.cells.size = i.size) (hs0 : 0 < i.size) (hby : 1 ≤ i.bytes)
    (h0 : 0 ≤ l) (h1 : l ≤ c) (h2 : c * i.bytes ≤ 281474976710656) (w : World) :
    ∃ us : Array Value, us.toList = (List.replicate c.toNat z.cells.toList).flatten ∧ (Instr.makeSlice t (.int k1 l) (.int k2 c)).run P w = .ok (.slice (some ⟨w.heap.size, 0, none⟩) l.toNat c.toNat) (w.alloc (.cells us e)) := by
  have hb1 : c * 1 ≤ c * (i.bytes : Int) := Int.mul_le_mul_of_nonneg_left (by omega) (by omega)
  have hc : c ≤ 281474976710656 := by omega
  have w1 : IntKind.i64.wrap l = l := by rw [IntKind.wrap_i64]; omega
  have w2 : IntKind.i64.wrap c = c := by rw [IntKind.wrap_i64]; omega
  have hn1 : ¬ (c < 0) := by omega
  have hn2 : ¬ (281474976710656 < (i.bytes : Int) * c) := by rw [Int.mul_comm]; omega
  have hn3 : ¬ (l < 0) := by omega
  have hn4 : ¬ (c < l) := by omega
  refine ⟨(Array.range (c.toNat * z.cells.size)).map (fun j => z.cells[j % z.cells.size]!), rep_cells z.cells (by omega) _, ?_⟩
  by_cases hcz : c.toNat * i.size = 0
  · have hc0 : c.toNat = 0 := by rcases Nat.mul_eq_zero.1 hcz with h | h <;> omega
    have e0 : ∀ q : Array Value, (Array.range (0 * i.size)).map (fun x => q[x % q.size]!) = #[] := fun q => by simp
    simp [Instr.makeSlice, run_underlying ht, typeInfo, hi, asInt, asIntOf, w1, w2, hn1, hn2, hn3, hn4, sizeOf, newRow, hc0]
    have er : ∀ f : Nat → Value, Array.map f (Array.range 0) = #[] := fun f => by apply Array.toList_inj.1; rw [Array.toList_map, Array.toList_range]; rfl
    rw [er, er]
  · have hcz2 : ¬ (c ≤ 0 ∨ i.size = 0) := by
      intro h
      rcases h with h | h
      · exact hcz (by rw [show c.toNat = 0 by omega]; simp)
      · omega
    have hcz3 : ¬ (c.toNat = 0 ∨ i.size = 0) := fun h => hcz (Nat.mul_eq_zero.2 h)
    simp [Instr.makeSlice, run_underlying ht, typeInfo, hi, hz, asInt, asIntOf, w1, w2, hn1, hn2, hn3, hn4, sizeOf, zeroValue, newRow, hcz2, hcz3, hzs]
    exact fun h => absurd h hcz
theorem toksL_rep {zs : List PV} {us : List Value} (hl : us.length = zs.length) (h : toksL zs us = []) (n : Nat) : toksL (repCells n zs) (List.replicate n us).flatten = [] := by
  induction n with
  | zero => simp [repCells, toksL]
  | succ n ih =>
    unfold repCells at ih ⊢
    rw [List.replicate_succ, List.replicate_succ, List.flatten_cons, List.flatten_cons, toksL_append _ _ _ _ hl, h, ih]
    rfl
theorem VRe_replicate {w : World} {g : Ghost} {sz : Nat} {x : PV} {us : List Value} (h : VRc w g sz x us) : ∀ n, VRe w g sz (List.replicate n x) (List.replicate n us).flatten
  | 0 => rfl
  | n + 1 => by
    rw [List.replicate_succ, List.replicate_succ, List.flatten_cons]
    exact VRe_cons.2 ⟨us, _, rfl, h, VRe_replicate h n⟩
theorem flatten_rep_length {α : Type} (us : List α) (n : Nat) : (List.replicate n us).flatten.length = n * us.length := by
  induction n with
  | zero => simp
  | succ n ih => rw [List.replicate_succ, List.flatten_cons, List.length_append, ih, Nat.succ_mul, Nat.add_comm]
theorem does_mk (h : Rel dq out st H a w g) {t e : TypeId} {dd : TypeDesc} {x y : Operand} {i : TypeInfo} {z : Value} {zero : List PV} {l c : Arg} (ht : P.underlying t = some (.slice e)) (hi : P.info? e = some i) (hz : i.zero = some z)
    (hzero : constCells z.cells.toList = some zero) (hzl : zero.length = i.size) (hs0 : 0 < i.size) (hby : 1 ≤ i.bytes) (h1 : isAggD dd = false → i.size = 1) (hl : compArg x = some l) (hc : compArg y = some c)
    (hv : pev st H (.mk i.size i.bytes (isAggD dd) zero l c false) = some r) :
    Does P ⟨d, .makeSlice t x y, ty, pos, af, gd⟩ (.mk i.size i.bytes (isAggD dd) zero l c false) st a w g r := by
  simp only [pev] at hv
  have hx := arg_spec h.tm hl
  have hy := arg_spec h.tm hc
  unfold mkP at hv
  split at hv
  · rename_i k1 ln k2 cn e1 e2
    obtain ⟨⟨c1, c2, c3⟩, hv⟩ := ite_spec hv
    cases hv
    rw [e1] at hx
    rw [e2] at hy
    simp only [VR] at hx hy
    obtain ⟨z1, z2, z3⟩ := constCells_VR w g hzero
    have hzs : z.cells.size = i.size := by rw [← hzl, ← VRl_length z1]; rfl
    obtain ⟨us, u1, u2⟩ := mk_run (P := P) (k1 := k1) (k2 := k2) ht hi hz hzs hs0 hby c1 c2 c3 w
    have husz : us.size = cn.toNat * i.size := by
      have : us.toList.length = us.size := rfl
      rw [← this, u1, flatten_rep_length]
      show cn.toNat * z.cells.size = _
      rw [hzs]
    have hfit : ln.toNat * i.size ≤ us.size := by rw [husz]; exact Nat.mul_le_mul_right _ (by omega)
    have hS : Step0 [] w g (w.alloc (.cells us e)) (upd g w.heap.size (.tail (ln.toNat * i.size))) := Step0.alloc h.wr rfl rfl rfl rfl (by simp) (fun f hf => by cases hf; exact ⟨rfl, hfit⟩)
    have hE : Evol [] w g (w.alloc (.cells us e)) (upd g w.heap.size (.tail (ln.toNat * i.size))) := hS.evol (by simp) (by simp)
    generalize hel : (if isAggD dd then PV.agg zero else zero.headD .unit) = el
    have hcm : cn.toNat ≤ maxLen := by
      have hb1 : cn * 1 ≤ cn * (i.bytes : Int) := Int.mul_le_mul_of_nonneg_left (by omega) (by omega)
      simp only [maxLen]
      omega
    have hVc : VRc w g i.size el z.cells.toList := by
      refine ⟨hzs, ?_⟩
      cases hd : isAggD dd with
      | true => rw [hd] at hel; left; exact ⟨zero, hel.symm, z2, VRl_weak _ _ z1⟩
      | false =>
        rw [hd] at hel
        right
        have hone := h1 hd
        cases zero with
        | nil => simp at hzl; omega
        | cons q zs =>
          have : zs = [] := List.eq_nil_of_length_eq_zero (by simp at hzl; omega)
          subst this
          obtain ⟨v, vs, e3, e4, e5⟩ := z1
          cases e5
          simp only [Bool.false_eq_true, if_false, List.headD_cons] at hel
          subst hel
          exact ⟨by simpa using z2, v, e3, VR_weak _ _ e4⟩
    have htl : (us.toList.drop 0).take (ln.toNat * i.size) = (List.replicate ln.toNat z.cells.toList).flatten := by
      rw [List.drop_zero, u1, show cn.toNat = ln.toNat + (cn.toNat - ln.toNat) by omega, ← List.replicate_append_replicate, List.flatten_append]
      exact List.take_left' (by rw [flatten_rep_length]; show ln.toNat * z.cells.size = _; rw [hzs])
    have htk : ∀ b, (toks (.lst i.size (List.replicate ln.toNat el) true) (.slice (some ⟨w.heap.size, 0, none⟩) ln.toNat cn.toNat)).count b ≤ 1 := fun b => by rw [toks_lst (by simp)]; exact count_one _ _ _
    refine ⟨_, _, _, [], by unfold execOp; exact run_v (by rw [hx, hy]; exact u2), { hS with rv := ?_, rt := htk, rs := fun b hb => ?_ }, h.tm, fun x => by simp [ptake]⟩
    · refine ⟨_, cn.toNat, by rw [List.length_replicate], by rw [List.length_replicate]; omega, hcm, ?_, fun _ _ _ => ⟨hs0, w.heap.size, us, e, rfl, push_new w _, by rw [List.length_replicate]; exact upd_same _ _ _, by omega⟩⟩
      by_cases hl0 : ln.toNat = 0
      · left; rw [hl0]; rfl
      · right
        exact ⟨w.heap.size, 0, _, rfl, readable_mk us e _ (push_new w _) (by rw [List.length_replicate]; exact htl) (by rw [flatten_rep_length, List.length_replicate]; show ln.toNat * z.cells.size = _; rw [hzs]) (.inr ⟨_, upd_same _ _ _, by rw [List.length_replicate]; omega⟩), VRe_mono hE _ _ _ (VRe_replicate hVc _)⟩
    · rw [toks_lst (by simp)] at hb
      split at hb
      · simp only [List.mem_singleton] at hb
        exact .inr (by omega)
      · cases hb
  · cases hv
theorem does_bxI (h : Rel dq out st H a w g) {e : TypeId} {sz : Nat} {x : Operand} {p : Arg} (hp : compArg x = some p) (hv : pev st H (.bxI sz p) = some r) : Does P ⟨d, .box e x, ty, pos, af, gd⟩ (.bxI sz p) st a w g r := by
  simp only [pev, bxP] at hv
  obtain ⟨⟨hall, hl, hs⟩, hv⟩ := ite_spec hv
  cases hv
  have hx := VR_weak _ _ (arg_spec h.tm hp)
  obtain ⟨y1, y2⟩ := VR_cells hall hx
  have hul := VRl_length y1
  have hS : Step0 [] w g (w.alloc (.cells (a.eval x).cells e)) (upd g w.heap.size .imm) := Step0.alloc h.wr rfl rfl rfl rfl (by simp) (fun f hf => by cases hf)
  have hE : Evol [] w g (w.alloc (.cells (a.eval x).cells e)) (upd g w.heap.size .imm) := hS.evol (by simp) (by simp)
  have htk : toks (.ip sz [arg st p] 0 0) (.pointer (some ⟨w.heap.size, 0, none⟩)) = [] := by simp [toks]
  refine ⟨.pointer (some ⟨w.heap.size, 0, none⟩), _, _, [], by unfold execOp; exact run_v rfl, { hS with rv := ?_, rt := by simp [htk], rs := by simp [htk] }, h.tm, fun x => by simp [ptake]⟩
  have hc : VRc w g sz (arg st p) (a.eval x).cells.toList := by
    refine ⟨by rw [hul, hl], ?_⟩
    cases ha : arg st p with
    | agg cs => rw [ha] at y1 hall; exact .inl ⟨cs, rfl, hall, y1⟩
    | _ =>
      right
      rw [ha] at y1 hall hx
      obtain ⟨v, vs, e1, e2, e3⟩ := y1
      cases e3
      refine ⟨by simpa [cellsOf] using hall, v, e1, e2⟩
  refine ⟨w.heap.size, 0, (a.eval x).cells.toList, by simp, by simp, readable_mk (a.eval x).cells e _ (push_new w _) ?_ (by rw [hul, hl]; simp) (.inl (upd_same _ _ _)), VRe_mono hE _ _ _ (VRe_cons.2 ⟨_, [], by simp, hc, rfl⟩)⟩
  rw [List.drop_zero, List.take_of_length_le (by rw [hul, hl]; simp)]
theorem does_op0 {o : Oper} (hk : compOp0 P hint o = some k) (h : Rel dq out st H a w g) (hv : pev st H k = some r) : Does P o k st a w g r := by
  obtain ⟨d, op, ty, pos, af, gd⟩ := o
  cases op <;> simp only [compOp0] at hk
  case move x => obtain ⟨p, hp, rfl⟩ := map_spec hk; exact does_mv h hp (fun ρ => rfl) hv
  case assign x => obtain ⟨p, hp, rfl⟩ := map_spec hk; exact does_mv h hp (fun ρ => rfl) hv
  case pick c x y =>
    obtain ⟨c', hc, hk⟩ := bind_spec hk
    obtain ⟨x', hx, hk⟩ := bind_spec hk
    obtain ⟨y', hy, rfl⟩ := map_spec hk
    exact does_pick h hc hx hy hv
  case alloc elem =>
    obtain ⟨i, hi, hk⟩ := bind_spec hk
    obtain ⟨z, hz, hk⟩ := bind_spec hk
    obtain ⟨cs, hc, rfl⟩ := map_spec hk
    cases hv
  case box elem x =>
    obtain ⟨i, hi, hk⟩ := bind_spec hk
    obtain ⟨p, hp, rfl⟩ := map_spec hk
    cases hr : isRo hint d with
    | false => rw [hr] at hv; cases hv
    | true => rw [hr] at hv; exact does_bxI h hp hv
  case build t parts =>
    split at hk
    · rename_i fields ht
      obtain ⟨i, hi, hk⟩ := bind_spec hk
      obtain ⟨z, hz, hk⟩ := bind_spec hk
      obtain ⟨zero, hzero, hk⟩ := bind_spec hk
      obtain ⟨hall, hk⟩ := ite_spec hk
      obtain ⟨ps, hps, rfl⟩ := map_spec hk
      cases hr : isTake hint d with
      | false => simp only [hr, Bool.false_eq_true, if_false] at hv ⊢; exact does_build h ht hi hz hzero hall hps hv
      | true => simp only [hr, if_true] at hv ⊢; exact does_bldT h ht hi hz hzero hall hps hv
    · cases hk
  case buildSlice t len parts =>
    split at hk
    · rename_i e ht
      obtain ⟨i, hi, hk⟩ := bind_spec hk
      obtain ⟨dd, hd, hk⟩ := bind_spec hk
      obtain ⟨z, hz, hk⟩ := bind_spec hk
      obtain ⟨zero, hzero, hk⟩ := bind_spec hk
      obtain ⟨⟨q1, q2, q3, q4⟩, hk⟩ := ite_spec hk
      obtain ⟨ps, hps, rfl⟩ := map_spec hk
      cases hl : isLit hint d with
      | true => rw [hl] at hv; exact does_nl h ht hi hz hzero q1 q2 q3 q4 hps hv
      | false =>
        rw [hl] at hv
        cases hr : isRow hint d with
        | true => rw [hr] at hv; cases hv
        | false => rw [hr] at hv; exact does_bsl h ht hi hz hzero q1 q2 q3 q4 hps hv
    · cases hk
  case load t x =>
    obtain ⟨i, hi, hk⟩ := bind_spec hk
    obtain ⟨dd, hd, hk⟩ := bind_spec hk
    obtain ⟨h1, hk⟩ := ite_spec hk
    obtain ⟨p, hp, rfl⟩ := map_spec hk
    cases hr : isTake hint d with
    | true => rw [hr] at hv; cases hv
    | false =>
      rw [hr] at hv
      obtain ⟨z, h2, h3⟩ := ldP_run (P := P) hd hi h1 h.hp hv (arg_spec h.tm hp)
      exact Does.same h rfl ⟨z, by unfold execOp; exact run_v h2, h3⟩
  case store t x y =>
    obtain ⟨i, hi, hk⟩ := bind_spec hk
    obtain ⟨p, hp, hk⟩ := bind_spec hk
    obtain ⟨q, hq, rfl⟩ := map_spec hk
    cases hv
  case nilCheck x => obtain ⟨p, hp, rfl⟩ := map_spec hk; exact does_nck h hp hv
  case binOp op t x y yt => exact does_bin h hk hv
  case unOp op t x => obtain ⟨p, hp, rfl⟩ := map_spec hk; exact does_un h hp hv
  case convert src dst x => exact does_conv h hk hv
  case makeFunc fn first cap =>
    obtain ⟨f, hf, hk⟩ := bind_spec hk
    obtain ⟨c, hc, rfl⟩ := map_spec hk
    exact does_mkf h hf hc hv
  case makeSlice t x y =>
    split at hk
    · rename_i e ht
      obtain ⟨i, hi, hk⟩ := bind_spec hk
      obtain ⟨dd, hd, hk⟩ := bind_spec hk
      obtain ⟨z, hz, hk⟩ := bind_spec hk
      obtain ⟨zero, hzero, hk⟩ := bind_spec hk
      obtain ⟨⟨q1, q2, q3, q4⟩, hk⟩ := ite_spec hk
      obtain ⟨l, hl, hk⟩ := bind_spec hk
      obtain ⟨c, hc, rfl⟩ := map_spec hk
      cases hr : isRow hint d with
      | true => rw [hr] at hv; cases hv
      | false => rw [hr] at hv; exact does_mk h ht hi hz hzero q1 q2 q3 q4 hl hc hv
    · cases hk
  case slice t x lo hi mx => exact does_slice h hk hv
  case fieldAddr s x f =>
    split at hk
    · rename_i fields hs
      obtain ⟨f, hf, hk⟩ := bind_spec hk
      obtain ⟨i, hi, hk⟩ := bind_spec hk
      obtain ⟨h0, hk⟩ := ite_spec hk
      obtain ⟨p, hp, rfl⟩ := map_spec hk
      obtain ⟨z, h2, h3⟩ := fadP_run (P := P) hs hf hi h0 hv (arg_spec h.tm hp)
      exact Does.same h rfl ⟨z, by unfold execOp; exact run_v h2, h3⟩
    · cases hk
  case field s x f =>
    split at hk
    · rename_i fields hs
      obtain ⟨f, hf, hk⟩ := bind_spec hk
      obtain ⟨i, hi, hk⟩ := bind_spec hk
      obtain ⟨dd, hd, hk⟩ := bind_spec hk
      obtain ⟨h0, hk⟩ := ite_spec hk
      obtain ⟨p, hp, rfl⟩ := map_spec hk
      obtain ⟨z, h2, h3⟩ := fldP_run (P := P) hs hf hi hd h0 hv (arg_spec h.tm hp)
      exact Does.same h rfl ⟨z, by unfold execOp; exact run_v h2, h3⟩
    · cases hk
  case indexAddr t x ix =>
    split at hk
    · rename_i e ht
      obtain ⟨i, hi, hk⟩ := bind_spec hk
      obtain ⟨p, hp, hk⟩ := bind_spec hk
      obtain ⟨q, hq, rfl⟩ := map_spec hk
      obtain ⟨z, h2, h3⟩ := iadP_run (P := P) ht hi hv (arg_spec h.tm hp) (arg_spec h.tm hq)
      exact Does.same h rfl ⟨z, by unfold execOp; exact run_v h2, h3⟩
    · cases hk
  case index t x ix =>
    split at hk
    · rename_i ht
      obtain ⟨p, hp, hk⟩ := bind_spec hk
      obtain ⟨q, hq, rfl⟩ := map_spec hk
      obtain ⟨z, h2, h3⟩ := idxP_run (P := P) ht hv (arg_spec h.tm hp) (arg_spec h.tm hq)
      exact Does.same h rfl ⟨z, by unfold execOp; exact run_v h2, h3⟩
    · cases hk
  case extract x i => obtain ⟨p, hp, rfl⟩ := map_spec hk; exact does_ext h hp hv
  case call c =>
    obtain ⟨callee, args, ts⟩ := c
    simp only at hk
    split at hk
    · split at hk
      · rename_i hr
        unfold compRow at hr
        split at hr
        · split at hr
          · split at hr
            · obtain ⟨_, _, hr⟩ := bind_spec hr
              obtain ⟨_, _, hr⟩ := bind_spec hr
              obtain ⟨_, _, hr⟩ := bind_spec hr
              obtain ⟨_, hr⟩ := ite_spec hr
              obtain ⟨_, _, hr⟩ := bind_spec hr
              obtain ⟨_, _, rfl⟩ := map_spec hr
              cases hk
              cases hv
            · cases hr
          · cases hr
        · split at hr
          · obtain ⟨_, _, hr⟩ := bind_spec hr
            obtain ⟨_, hr⟩ := ite_spec hr
            obtain ⟨_, _, hr⟩ := bind_spec hr
            obtain ⟨_, _, rfl⟩ := map_spec hr
            cases hk
            cases hv
          · cases hr
        · split at hr
          · obtain ⟨_, _, hr⟩ := bind_spec hr
            obtain ⟨_, _, hr⟩ := bind_spec hr
            obtain ⟨_, _, hr⟩ := bind_spec hr
            obtain ⟨_, hr⟩ := ite_spec hr
            obtain ⟨_, _, rfl⟩ := map_spec hr
            cases hk
            cases hv
          · cases hr
        · split at hr
          · obtain ⟨_, _, rfl⟩ := map_spec hr
            cases hk
            cases hv
          · cases hr
        · cases hr
      · exact does_builtin h hk hv
    · obtain ⟨as, _, rfl⟩ := map_spec hk; cases hv
    · obtain ⟨f, _, hk⟩ := bind_spec hk
      obtain ⟨as, _, rfl⟩ := map_spec hk
      cases hv
    · cases hk
  all_goals cases hk
theorem compOp_of {o : Oper} (hk : compOp0 P hint o = some k) : compOp P hint o = some k := by simp [compOp, hk]
theorem compOp_or {o : Oper} (hk : compOp P hint o = some k) : compOp0 P hint o = some k ∨ k = .bad := by
  unfold compOp at hk
  cases h : compOp0 P hint o with
  | none => right; simpa [h] using hk.symm
  | some k0 => left; simpa [h] using hk
theorem does_op {o : Oper} (hk : compOp P hint o = some k) (h : Rel dq out st H a w g) (hv : pev st H k = some r) : Does P o k st a w g r := by
  rcases compOp_or hk with hk | rfl
  · exact does_op0 hk h hv
  · cases hv
end
end Go.Proofs.YtjcjbpbkakfjdaaDoor.E
/- A logic of plain values, part 17: operations that write, and calls. -/
namespace Go.Proofs.YtjcjbpbkakfjdaaDoor.E
open Go Go.RowKit
set_option linter.unusedVariables false
set_option linter.unusedSimpArgs false
variable {dq : List Deferred}
def callable (P : Program) (f : Nat) : Bool :=
  match P.funcs[f]? with
  | some fn => !(fn.name == "runtime.NumGoroutine") && fn.body.isSome
  | none => false
def CallsX (P : Program) (f : Nat) (vals : Array Value) (w : World) (R : Ending → World → Prop) : Prop :=
  (callable P f = true ∧ Calls P f vals w R) ∨ ∃ v w', (callFunc f vals).run P w = .ok (.value v) w' ∧ R (.returned v) w'
theorem CallsX.mono {P : Program} {f : Nat} {vals : Array Value} {w : World} {R R' : Ending → World → Prop} (h : CallsX P f vals w R) (hr : ∀ e w', R e w' → R' e w') : CallsX P f vals w R' := by
  rcases h with ⟨h1, h2⟩ | ⟨v, w', h1, h2⟩
  · exact .inl ⟨h1, h2.mono hr⟩
  · exact .inr ⟨v, w', h1, hr _ _ h2⟩
def SpecH (P : Program) (f : Nat) (H : Heap) (args : List PV) (Q : PV → Heap → Prop) : Prop :=
  True ∧ ∀ (out : List Nat) (w : World) (g : Ghost) (vals : Array Value), WRel out w g → HRel w g H → VRl true w g args vals.toList →
    (∀ b, (toksL args vals.toList).count b + (toksH w H).count b + out.count b ≤ 1) →
    CallsX P f vals w fun e w' => ∃ v r H' g', e = .returned v ∧ Q r H' ∧ WRel out w' g' ∧ HRel w' g' H' ∧ VR true w' g' r v ∧
      (∀ b, (toks r v).count b + (toksH w' H').count b + out.count b ≤ 1) ∧ Evol out w g w' g'
def PSpec (P : Program) (f : Nat) (args : List PV) (r : PV) : Prop := ∀ H, SpecH P f H args fun r' H' => r' = r ∧ H' = H
structure POp where
  dst : Option Nat
  gd : Option (Nat × Bool)
  k : PK
  deriving Inhabited
def cellsY (sz : Nat) (H : Heap) : PV → Option (List PV × Nat)
  | .lst s ys _ => if s = sz ∨ ys.isEmpty = true then some (lendL (ys.flatMap cellsOf), ys.length) else none
  | .row b off len cap => (hget H b).bind fun cs => if off + len * sz ≤ cs.length then some (lendL ((cs.drop off).take (len * sz)), len) else none
  | .str t => if sz = 1 then some (t.map (.int .u8), t.length) else none
  | _ => none
def stepOp (P : Program) (op : POp) (K : List PV → Heap → Prop) (st : List PV) (H : Heap) : Prop :=
  match op.k with
  | .al cs => ∀ b, hget H b = none → K (putSt st op.dst (.ptr (some (b, 0)))) ((b, cs) :: H)
  | .bx sz x => (cellsOf (argT st x)).all PV.isCell = true ∧ ∀ b, hget H b = none → K (putSt (takeAt st x) op.dst (.ptr (some (b, 0)))) ((b, cellsOf (argT st x)) :: H)
  | .sto sz x v => ∃ b off cs, arg st x = .ptr (some (b, off)) ∧ hget H b = some cs ∧ (cellsOf (argT st v)).length = sz ∧ off + sz ≤ cs.length ∧ (cellsOf (argT st v)).all PV.isCell = true ∧
      K (putSt (takeAt st v) op.dst .unit) (hset H b (cs.take off ++ cellsOf (argT st v) ++ cs.drop (off + sz)))
  | .ld sz ag true x => ∃ b off cs r, arg st x = .ptr (some (b, off)) ∧ hget H b = some cs ∧ partP sz ag cs off = some r ∧
      K (putSt st op.dst r) (hset H b (cs.take off ++ lendL ((cs.drop off).take sz) ++ cs.drop (off + sz)))
  | .mk sz bytes ag zero l c true => ∃ k1 ln k2 cn, arg st l = .int k1 ln ∧ arg st c = .int k2 cn ∧ 0 ≤ ln ∧ ln ≤ cn ∧ cn * bytes ≤ 281474976710656 ∧
      ∀ b, hget H b = none → K (putSt st op.dst (.row b 0 ln.toNat cn.toNat)) ((b, repCells cn.toNat zero) :: H)
  | .bsl sz len ag zero ps true => ∃ cs, fillP zero (elemParts sz st ps) = some cs ∧ ∀ b, hget H b = none → K (putSt st op.dst (.row b 0 len len)) ((b, cs) :: H)
  | .eqN ne x => ∃ s xs o, arg st x = .lst s xs o ∧ (xs ≠ [] → K (putSt st op.dst (.bool ne)) H) ∧ (xs = [] → ∀ b, K (putSt st op.dst (.bool b)) H)
  | .callF f args tk => ∃ Q, SpecH P f H (callArgs st args tk) Q ∧ ∀ r H', Q r H' → K (putSt (callTake st args tk) op.dst r) H'
  | .callV fx args => ∃ f first cap Q, arg st fx = .fn (.func f) first cap ∧ SpecH P f H (lendL first ++ args.map (arg st) ++ lendL cap) Q ∧ ∀ r H', Q r H' → K (putSt st op.dst r) H'
  | .appR sz bytes zero x y => ∃ b n cap cs ys m, arg st x = .row b 0 n cap ∧ hget H b = some cs ∧ cap * sz ≤ cs.length ∧ n ≤ cap ∧ cap ≤ maxLen ∧ cellsY sz H (arg st y) = some (ys, m) ∧ (n + m) * bytes ≤ 140737488355328 ∧
      (n + m ≤ cap → K (putSt st op.dst (.row b 0 (n + m) cap)) (hset H b (cs.take (n * sz) ++ ys ++ cs.drop ((n + m) * sz)))) ∧
      (cap < n + m → ∀ b' cap', hget H b' = none → n + m ≤ cap' → cap' ≤ maxLen → K (putSt st op.dst (.row b' 0 (n + m) cap')) ((b', lendL (cs.take (n * sz)) ++ ys ++ repCells (cap' - (n + m)) zero) :: H))
  | .cpy sz x y => ∃ b off n cap cs ys m, arg st x = .row b off n cap ∧ hget H b = some cs ∧ off + n * sz ≤ cs.length ∧ cellsY sz H (arg st y) = some (ys, m) ∧
      K (putSt st op.dst (.int .i64 (min m n : Nat))) (hset H b (cs.take off ++ ys.take (min m n * sz) ++ cs.drop (off + min m n * sz)))
  | .clr sz zero x => ∃ b off n cap cs, arg st x = .row b off n cap ∧ hget H b = some cs ∧ off + n * sz ≤ cs.length ∧
      K (putSt st op.dst .unit) (hset H b (cs.take off ++ repCells n zero ++ cs.drop (off + n * sz)))
  | .cap x => (∃ b off n c, arg st x = .row b off n c ∧ K (putSt st op.dst (.int .i64 c)) H) ∨ (∃ s xs o, arg st x = .lst s xs o ∧ ∀ c : Nat, xs.length ≤ c → c ≤ maxLen → K (putSt st op.dst (.int .i64 c)) H)
  | k => ∃ r, pev st H k = some r ∧ K (putSt (ptake st k) op.dst r) H
section
variable {P : Program} {hint : Hint} {k : PK} {out : List Nat} {st : List PV} {H : Heap} {a : Act} {w : World} {g : Ghost} {r : PV} {d : Option Tmp} {ty : TypeId} {pos : String} {af : Array Edge} {gd : Option (Nat × Bool)}
def After (dq : List Deferred) (out : List Nat) (w : World) (g : Ghost) (K : List PV → Heap → Prop) (a' : Act) (w' : World) : Prop :=
  ∃ st' H' g', K st' H' ∧ Rel dq out st' H' a' w' g' ∧ Evol out w g w' g'
theorem run_callFunc {f : Nat} (hc : callable P f = true) (args : Array Value) (w : World) : (callFunc f args).run P w = .ok (.enter f args) w := by
  unfold callable at hc
  split at hc
  · rename_i fn hf
    simp only [Bool.and_eq_true, Bool.not_eq_true'] at hc
    have h2 : fn.body.isNone = false := by cases hb : fn.body <;> simp_all
    simp only [callFunc, Sem.run_bind, run_program, Result.andThen_ok, hf, hc.1, h2, Bool.false_eq_true, if_false, Sem.run_pure]
  · cases hc
theorem step_call {o : Oper} {f : Nat} {args : List PV} {vals : Array Value} {st1 : List PV} {Q : PV → Heap → Prop} {K : List PV → Heap → Prop} {QQ : Exit → Act → World → Prop} (h : Rel dq out st H a w g) (hS : SpecH P f H args Q)
    (hrun : (execOp a.eval o).run P w = (callFunc f vals).run P w) (ha : VRl true w g args vals.toList) (h1 : VRl true w g st1 a.tmps.toList)
    (hc : ∀ b, (toksL st1 a.tmps.toList).count b + (toksL args vals.toList).count b ≤ (toksL st a.tmps.toList).count b)
    (hK : ∀ r H', Q r H' → K (putSt st1 o.dst r) H') : o.wp P a w (After dq out w g K) QQ := by
  unfold Oper.wp
  rw [hrun]
  have hcall := hS.2 (out ++ toksL st1 a.tmps.toList) w g vals ⟨h.wr.fresh, h.wr.tl, fun b hb => by
    simp only [List.mem_append] at hb
    rcases hb with hb | hb
    · exact h.wr.outT b hb
    · exact toksL_tail st1 _ h1 b hb⟩ h.hp ha (fun b => by rw [List.count_append]; have := h.un b; have := hc b; omega)
  have fin : ∀ v r H' g' w', Q r H' → WRel (out ++ toksL st1 a.tmps.toList) w' g' → HRel w' g' H' → VR true w' g' r v → (∀ b, (toks r v).count b + (toksH w' H').count b + (out ++ toksL st1 a.tmps.toList).count b ≤ 1) →
      Evol (out ++ toksL st1 a.tmps.toList) w g w' g' → After dq out w g K (a.put o.dst v) w' := by
    intro v r H' g' w' hQ hw' hH' hr hu hE
    refine ⟨putSt st1 o.dst r, H', g', hK r H' hQ, ⟨⟨hw'.fresh, hw'.tl, fun b hb => hw'.outT b (by simp [hb])⟩, hH', VRl_put (VRl_mono hE true st1 _ (fun _ b hb => by simp [hb]) h1) hr, fun b => ?_, ?_⟩, hE.sub (fun b hb => by simp [hb])⟩
    · have h2 := count_put_le b (d := o.dst) (x := r) (v := v) h1
      have h3 := hu b
      rw [List.count_append] at h3
      omega
    · have : (a.put o.dst v).defers = a.defers := by cases o.dst <;> rfl
      rw [this]
      exact h.df
  rcases hcall with ⟨hcl, hcall⟩ | ⟨v, w', hx, hR⟩
  · rw [run_callFunc hcl, Oper.upon_enter]
    refine hcall.mono ?_
    rintro e w' ⟨v, r, H', g', rfl, hQ, hw', hH', hr, hu, hE⟩
    exact fin v r H' g' w' hQ hw' hH' hr hu hE
  · rw [hx, Oper.upon_value]
    obtain ⟨v', r, H', g', e, hQ, hw', hH', hr, hu, hE⟩ := hR
    cases e
    exact fin v r H' g' w' hQ hw' hH' hr hu hE
theorem CallsX.calls {vals : Array Value} {f : Nat} {R : Ending → World → Prop} (hc : callable P f = true) (h : CallsX P f vals w R) : Calls P f vals w R := by
  rcases h with ⟨_, h⟩ | ⟨v, w', hx, _⟩
  · exact h
  · rw [run_callFunc hc] at hx
    cases hx
theorem step_value {o : Oper} {v : Value} {w' : World} {K : List PV → Heap → Prop} {QQ : Exit → Act → World → Prop} (hrun : (execOp a.eval o).run P w = .ok (.value v) w') (h : After dq out w g K (a.put o.dst v) w') : o.wp P a w (After dq out w g K) QQ := by
  unfold Oper.wp
  rw [hrun, Oper.upon_value]
  exact h
theorem step_skip {o : Oper} {w' : World} {K : List PV → Heap → Prop} {QQ : Exit → Act → World → Prop} (hrun : (execOp a.eval o).run P w = .ok .skip w') (h : After dq out w g K (a.put o.dst undef) w') : o.wp P a w (After dq out w g K) QQ := by
  unfold Oper.wp
  rw [hrun, Oper.upon_skip]
  exact h
theorem step_pure {o : Oper} {K : List PV → Heap → Prop} {QQ : Exit → Act → World → Prop} (hk : compOp P hint o = some k) (h : Rel dq out st H a w g) (hv : pev st H k = some r) (hK : K (putSt (ptake st k) o.dst r) H) : o.wp P a w (After dq out w g K) QQ := by
  obtain ⟨v, w', g', tk, h1, h2, h3, h4⟩ := does_op hk h hv
  obtain ⟨k1, k2⟩ := step_rel (d := o.dst) h h3 h4 h2
  exact step_value h1 ⟨_, H, g', hK, k1, k2⟩
theorem step_new {o : Oper} {K : List PV → Heap → Prop} {QQ : Exit → Act → World → Prop} {st1 cs : List PV} {us : Array Value} {e : TypeId} {v : Value} (h : Rel dq out st H a w g) (h1 : VRl true w g st1 a.tmps.toList) (hcs : VRl true w g cs us.toList) (hall : cs.all PV.isCell = true)
    (hc : ∀ b, (toksL st1 a.tmps.toList).count b + (toksL cs us.toList).count b ≤ (toksL st a.tmps.toList).count b) (hrun : (execOp a.eval o).run P w = .ok (.value v) (w.alloc (.cells us e)))
    {mk : Nat → PV} (hr : ∀ w' g', VR true w' g' (mk w.heap.size) v) (hrt : toks (mk w.heap.size) v = [])
    (hK : ∀ b, hget H b = none → K (putSt st1 o.dst (mk b)) ((b, cs) :: H)) : o.wp P a w (After dq out w g K) QQ := by
  obtain ⟨k1, k2⟩ := alloc_rel (d := o.dst) h h1 hcs hall hc (w1 := w.alloc (.cells us e)) rfl rfl rfl rfl hr hrt
  refine step_value hrun ⟨_, _, _, hK _ ?_, k1, k2⟩
  cases hh : hget H w.heap.size with
  | none => rfl
  | some q => exact absurd (HRel.lt h.wr h.hp hh) (Nat.lt_irrefl _)
theorem ptr_eval (h : VRl true w g st a.tmps.toList) {x : Operand} {p : Arg} (hp : compArg x = some p) {b off : Nat} (e : arg st p = .ptr (some (b, off))) : a.eval x = .pointer (some ⟨b, off, none⟩) := by
  have := arg_spec h hp
  rw [e] at this
  exact this
theorem step_store {t : TypeId} {x y : Operand} {p q : Arg} {i : TypeInfo} {K : List PV → Heap → Prop} {QQ : Exit → Act → World → Prop} (h : Rel dq out st H a w g) (hi : P.info? t = some i) (hp : compArg x = some p) (hq : compArg y = some q)
    (hs : stepOp P ⟨d, none, .sto i.size p q⟩ K st H) : (Oper.mk d (.store t x y) ty pos af gd).wp P a w (After dq out w g K) QQ := by
  obtain ⟨b, off, cs, e1, e2, e3, e4, e5, hK⟩ := hs
  have hx := ptr_eval h.tm hp e1
  obtain ⟨hm, hall, c, e, hc, hcv⟩ := h.hp.mut_of_get e2
  have hy := argT_spec h.tm hq
  obtain ⟨y1, y2⟩ := VR_cells e5 hy
  obtain ⟨t1, t2⟩ := take_spec h.tm hq
  have hcl := VRl_length hcv
  have hyl := VRl_length y1
  have hcs : c.toList.length = c.size := rfl
  have hys : (a.eval y).cells.toList.length = (a.eval y).cells.size := rfl
  have hone : ∀ u ∈ (a.eval y).cells.toList, u.oneCell' = true := VRl_oneCell e5 y1
  have hst := run_storeCells_at P b off e (a.eval y).cells.toList 0 c w hc (by omega) hone
  rw [Nat.add_zero] at hst
  generalize hcc : (c.toList.take off ++ (a.eval y).cells.toList ++ c.toList.drop (off + (a.eval y).cells.toList.length)).toArray = cc at hst
  have hccl : cc.toList = c.toList.take off ++ (a.eval y).cells.toList ++ c.toList.drop (off + i.size) := by rw [← hcc, hyl, e3]
  have hds : VRl true w g (cs.take off ++ cellsOf (argT st q) ++ cs.drop (off + i.size)) cc.toList := by
    rw [hccl]
    exact VRl_append (VRl_append (VRl_take off hcv).1 y1) (VRl_take (off + i.size) hcv).2
  have hrun : (execOp a.eval (Oper.mk d (.store t x y) ty pos af gd)).run P w = .ok .skip (w.setRow b cc) := by
    have hsz : ¬ ((a.eval y).cells.size ≠ i.size) := by omega
    simp only [execOp, hx, Instr.storeAt, Instr.sureAddr, storeVar, Sem.run_bind, Sem.run_pure, Result.andThen_ok, run_sizeOf hi, Sem.run_ite, if_neg hsz, hst]
  have hpart : ∀ z, (toksL (cs.take off ++ cellsOf (argT st q) ++ cs.drop (off + i.size)) cc.toList).count z ≤ (toksL cs c.toList).count z + (toks (argT st q) (a.eval y)).count z := by
    intro z
    rw [hccl, toksL_append _ _ _ _ (by simp only [List.length_append, List.length_take]; omega), toksL_append _ _ _ _ (by simp only [List.length_take]; omega), y2]
    have s1 : (toksL cs c.toList).count z = (toksL (cs.take off) (c.toList.take off)).count z + (toksL (cs.drop off) (c.toList.drop off)).count z := by
      rw [← List.count_append, ← toksL_append _ _ _ _ (by simp only [List.length_take]; omega), List.take_append_drop, List.take_append_drop]
    have s2 : (toksL (cs.drop off) (c.toList.drop off)).count z = (toksL ((cs.drop off).take i.size) ((c.toList.drop off).take i.size)).count z + (toksL (cs.drop (off + i.size)) (c.toList.drop (off + i.size))).count z := by
      rw [← List.drop_drop, ← List.drop_drop, ← List.count_append, ← toksL_append _ _ _ _ (by simp only [List.length_take, List.length_drop]; omega), List.take_append_drop, List.take_append_drop]
    simp only [List.count_append]
    omega
  obtain ⟨k1, k2⟩ := store_rel (d := d) (v := undef) h t1 e2 hc hcv hds (by
      rw [List.all_append, List.all_append, e5]
      have := all_drop_take hall 0 off
      rw [List.drop_zero] at this
      rw [this]
      have := all_drop_take hall (off + i.size) cs.length
      rw [List.take_of_length_le (by rw [List.length_drop]; omega)] at this
      rw [this]
      rfl) (fun z => by have := hpart z; have := t2 z; omega) rfl
  exact step_skip hrun ⟨_, _, _, hK, k1, k2⟩
theorem HRel_retag {out : List Nat} {w : World} {g : Ghost} {b : Nat} {ds : List PV} (hw : WRel out w g) (hall : ds.all PV.isCell = true) (hb : ∃ c e, w.heap[b]? = some (.cells c e (0, 0)) ∧ VRl true w g ds c.toList) {H : Heap} {cs : List PV} (hH : HRel w g H) (hg : hget H b = some cs) :
    HRel w g (hset H b ds) :=
  HRel_hset (out := toksH w H) ⟨rfl, rfl, rfl, Nat.le_refl _, fun _ _ h => ⟨rfl, h⟩, fun b f c e fz _ h hc => ⟨c, fz, hc, rfl, .inr ⟨f, Nat.le_refl _, h⟩⟩, fun _ _ => ⟨rfl, rfl⟩⟩ (fun _ _ => rfl) hall hb hH hg (fun _ h => h)
theorem toksL_three (z : Nat) {cs : List PV} {us : List Value} {off sz : Nat} (hl : us.length = cs.length) (hle : off + sz ≤ cs.length) :
    (toksL cs us).count z = (toksL (cs.take off) (us.take off)).count z + (toksL ((cs.drop off).take sz) ((us.drop off).take sz)).count z + (toksL (cs.drop (off + sz)) (us.drop (off + sz))).count z := by
  have s1 : (toksL cs us).count z = (toksL (cs.take off) (us.take off)).count z + (toksL (cs.drop off) (us.drop off)).count z := by
    rw [← List.count_append, ← toksL_append _ _ _ _ (by simp only [List.length_take]; omega), List.take_append_drop, List.take_append_drop]
  have s2 : (toksL (cs.drop off) (us.drop off)).count z = (toksL ((cs.drop off).take sz) ((us.drop off).take sz)).count z + (toksL (cs.drop (off + sz)) (us.drop (off + sz))).count z := by
    rw [← List.drop_drop, ← List.drop_drop, ← List.count_append, ← toksL_append _ _ _ _ (by simp only [List.length_take, List.length_drop]; omega), List.take_append_drop, List.take_append_drop]
  omega
theorem step_loadT {t : TypeId} {x : Operand} {p : Arg} {i : TypeInfo} {dd : TypeDesc} {K : List PV → Heap → Prop} {QQ : Exit → Act → World → Prop} (h : Rel dq out st H a w g) (hi : P.info? t = some i) (hd : P.underlying t = some dd) (h1 : isAggD dd = false → i.size = 1) (hp : compArg x = some p)
    (hs : stepOp P ⟨d, none, .ld i.size (isAggD dd) true p⟩ K st H) : (Oper.mk d (.load t x) ty pos af gd).wp P a w (After dq out w g K) QQ := by
  obtain ⟨b, off, cs, r, e1, e2, e3, hK⟩ := hs
  have hx := ptr_eval h.tm hp e1
  obtain ⟨hm, hall, c, e, hc, hcv⟩ := h.hp.mut_of_get e2
  have hcl := VRl_length hcv
  obtain ⟨p1, p2, p3, p4⟩ := partP_spec e3 hall (VRl_weak _ _ hcv) h1
  have hmid : VRl true w g ((cs.drop off).take i.size) ((c.toList.drop off).take i.size) := (VRl_take i.size (VRl_take off hcv).2).1
  have hcell : ∀ j v, ((c.toList.drop off).take i.size)[j]? = some v → w.cell? ⟨b, off + j, none⟩ = some v := by
    intro j v hj
    rw [List.getElem?_take] at hj
    split at hj
    · rw [List.getElem?_drop] at hj
      unfold World.cell?
      simp only [hc, Option.isSome_none, Bool.false_eq_true, if_false]
      simpa using hj
    · cases hj
  obtain ⟨l1, l2⟩ := run_loadVar hd hi p2 hcell
  -- the value with what it owns
  obtain ⟨z, hz1, hz2, hz3⟩ : ∃ z, (Instr.loadAt t (a.eval x)).run P w = .ok z w ∧ VR true w g r z ∧ ∀ q, (toks r z).count q ≤ (toksL ((cs.drop off).take i.size) ((c.toList.drop off).take i.size)).count q := by
    unfold partP at e3
    obtain ⟨hle, e3⟩ := ite_spec e3
    cases hda : isAggD dd with
    | true =>
      rw [hda] at e3
      simp only [if_true, Option.some.injEq] at e3
      subst e3
      exact ⟨_, by simp [hx, Instr.loadAt, Instr.sureAddr, l1 hda], ⟨all_drop_take hall _ _, _, rfl, hmid⟩, fun q => by simp [toks]⟩
    | false =>
      rw [hda] at e3
      simp only [Bool.false_eq_true, if_false] at e3
      have hsz := h1 hda
      obtain ⟨v, v1, v2⟩ := VRl_get hcv e3
      have hlt : off < c.toList.length := (List.getElem?_eq_some_iff.1 v1).1
      have hv0 : ((c.toList.drop off).take i.size) = [v] := by
        rw [hsz, List.drop_eq_getElem_cons hlt]
        obtain ⟨_, hv⟩ := List.getElem?_eq_some_iff.1 v1
        simp [hv]
      have hr0 : ((cs.drop off).take i.size) = [r] := by
        have hlt2 : off < cs.length := by omega
        rw [hsz, List.drop_eq_getElem_cons hlt2]
        obtain ⟨_, hv⟩ := List.getElem?_eq_some_iff.1 e3
        simp [hv]
      refine ⟨v, by simp [hx, Instr.loadAt, Instr.sureAddr, l2 hda v (by rw [hv0]; rfl)], v2, fun q => ?_⟩
      rw [hv0, hr0]
      simp [toksL]
  have hds : VRl true w g (cs.take off ++ lendL ((cs.drop off).take i.size) ++ cs.drop (off + i.size)) c.toList := by
    have e : c.toList = c.toList.take off ++ (c.toList.drop off).take i.size ++ c.toList.drop (off + i.size) := by
      rw [List.append_assoc, ← List.drop_drop, List.take_append_drop, List.take_append_drop]
    rw [e]
    refine VRl_append (VRl_append ?_ (VRl_lend _ _ (VRl_weak _ _ hmid))) ?_
    · exact (VRl_take off hcv).1
    · exact (VRl_take (off + i.size) hcv).2
  have hle : off + i.size ≤ cs.length := by omega
  have hall2 : (cs.take off ++ lendL ((cs.drop off).take i.size) ++ cs.drop (off + i.size)).all PV.isCell = true := by
    rw [List.all_append, List.all_append, all_lendL, all_drop_take hall]
    have := all_drop_take hall 0 off
    rw [List.drop_zero] at this
    rw [this]
    have := all_drop_take hall (off + i.size) cs.length
    rw [List.take_of_length_le (by rw [List.length_drop]; omega)] at this
    rw [this]
    rfl
  have htok : ∀ q, (toksL (cs.take off ++ lendL ((cs.drop off).take i.size) ++ cs.drop (off + i.size)) c.toList).count q + (toks r z).count q ≤ (toksL cs c.toList).count q := by
    intro q
    have h3 := toksL_three q hcl hle
    have e : c.toList = c.toList.take off ++ (c.toList.drop off).take i.size ++ c.toList.drop (off + i.size) := by
      rw [List.append_assoc, ← List.drop_drop, List.take_append_drop, List.take_append_drop]
    have h4 : toksL (cs.take off ++ lendL ((cs.drop off).take i.size) ++ cs.drop (off + i.size)) c.toList = toksL (cs.take off) (c.toList.take off) ++ [] ++ toksL (cs.drop (off + i.size)) (c.toList.drop (off + i.size)) := by
      conv => lhs; rw [e]
      rw [toksL_append _ _ _ _ (by simp only [List.length_append, List.length_take, List.length_drop, lendL_eq_map, List.length_map]; omega), toksL_append _ _ _ _ (by simp only [List.length_take]; omega), toksL_lend]
    rw [h4]
    simp only [List.count_append, List.count_nil]
    have := hz3 q
    omega
  have hrun : (execOp a.eval (Oper.mk d (.load t x) ty pos af gd)).run P w = .ok (.value z) w := by
    unfold execOp
    exact run_v hz1
  refine step_value hrun ⟨_, _, g, hK, ⟨h.wr, HRel_retag h.wr hall2 ⟨c, e, hc, hds⟩ h.hp e2, VRl_put h.tm hz2, fun q => ?_, ?_⟩, Evol.refl _ _ _⟩
  · have h2 := count_put_le q (d := d) (x := r) (v := z) h.tm
    have h3 := h.un q
    have h4 := toksH_hset (ds := cs.take off ++ lendL ((cs.drop off).take i.size) ++ cs.drop (off + i.size)) q (w := w) (w' := w) (b := b) (fun _ _ => rfl) h.hp e2
    have h5 := htok q
    simp only [toksB, hc] at h4
    simp only [] at h2 ⊢
    omega
  · have : (a.put d z).defers = a.defers := by cases d <;> rfl
    rw [this]
    exact h.df
end
end Go.Proofs.YtjcjbpbkakfjdaaDoor.E
