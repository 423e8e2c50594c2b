/- A logic of plain values, part 2: what a step may turn, and that values read on as they did. -/
import Derived.Test.YtkjibelcaeanjaaE1
namespace Go.Proofs.Ytkjibelcaeanjaa.E
open Go Go.RowKit
set_option linter.unusedVariables false
set_option linter.unusedSimpArgs false
/-- From (w, g) to (w', g') nothing has turned that is read by anybody; what others own (out) not at all. -/
structure Evol (out : List Nat) (w : World) (g : Ghost) (w' : World) (g' : Ghost) : Prop where
  os : w'.os = w.os
  tape : w'.tape = w.tape
  output : w'.output = w.output
  size : w.heap.size ≤ w'.heap.size
  imm : ∀ b, b < w.heap.size → g b = .imm → w'.heap[b]? = w.heap[b]? ∧ g' b = .imm
  tail : ∀ b f c e fz, g b = .tail f → w.heap[b]? = some (.cells c e fz) →
    ∃ c' fz', w'.heap[b]? = some (.cells c' e fz') ∧ c'.toList.take f = c.toList.take f ∧ (g' b = .imm ∨ ∃ f', f ≤ f' ∧ g' b = .tail f')
  out : ∀ b ∈ out, w'.heap[b]? = w.heap[b]? ∧ g' b = g b
theorem Evol.refl (out : List Nat) (w : World) (g : Ghost) : Evol out w g w g :=
  ⟨rfl, rfl, rfl, Nat.le_refl _, fun _ _ h => ⟨rfl, h⟩, fun b f c e fz h hc => ⟨c, fz, hc, rfl, .inr ⟨f, Nat.le_refl _, h⟩⟩, fun _ _ => ⟨rfl, rfl⟩⟩
theorem lt_of_heap {w : World} {b : Nat} {o : Obj} (h : w.heap[b]? = some o) : b < w.heap.size := (Array.getElem?_eq_some_iff.1 h).1
theorem take_of_take {α : Type} {l m : List α} {f f' : Nat} (h : f ≤ f') (e : l.take f' = m.take f') : l.take f = m.take f := by
  have := congrArg (List.take f) e
  rwa [List.take_take, List.take_take, Nat.min_eq_left h] at this
theorem Evol.trans {out : List Nat} {w w1 w2 : World} {g g1 g2 : Ghost} (h : Evol out w g w1 g1) (k : Evol out w1 g1 w2 g2) : Evol out w g w2 g2 := by
  refine ⟨k.os.trans h.os, k.tape.trans h.tape, k.output.trans h.output, Nat.le_trans h.size k.size, fun b hb hi => ?_, fun b f c e fz hf hc => ?_, fun b hb => ?_⟩
  · obtain ⟨h1, h2⟩ := h.imm b hb hi
    obtain ⟨k1, k2⟩ := k.imm b (Nat.lt_of_lt_of_le hb h.size) h2
    exact ⟨k1.trans h1, k2⟩
  · obtain ⟨c1, fz1, h1, h2, h3⟩ := h.tail b f c e fz hf hc
    rcases h3 with h3 | ⟨f', hle, h3⟩
    · obtain ⟨k1, k2⟩ := k.imm b (lt_of_heap h1) h3
      exact ⟨c1, fz1, k1.trans h1, h2, .inl k2⟩
    · obtain ⟨c2, fz2, k1, k2, k3⟩ := k.tail b f' c1 e fz1 h3 h1
      refine ⟨c2, fz2, k1, (take_of_take hle k2).trans h2, ?_⟩
      rcases k3 with k3 | ⟨f2, hle2, k3⟩
      · exact .inl k3
      · exact .inr ⟨f2, Nat.le_trans hle hle2, k3⟩
  · obtain ⟨h1, h2⟩ := h.out b hb
    obtain ⟨k1, k2⟩ := k.out b hb
    exact ⟨k1.trans h1, k2.trans h2⟩
theorem Evol.sub {out out' : List Nat} {w w1 : World} {g g1 : Ghost} (h : Evol out w g w1 g1) (hs : ∀ b ∈ out', b ∈ out) : Evol out' w g w1 g1 :=
  ⟨h.os, h.tape, h.output, h.size, h.imm, h.tail, fun b hb => h.out b (hs b hb)⟩
theorem Readable.mono {out : List Nat} {w w' : World} {g g' : Ghost} (h : Evol out w g w' g') {b off n : Nat} {vs : List Value} (r : Readable w g b off n vs) : Readable w' g' b off n vs := by
  obtain ⟨c, e, fz, h1, h2, h3, h4⟩ := r
  rcases h4 with h4 | ⟨f, h4, h5⟩
  · obtain ⟨k1, k2⟩ := h.imm b (lt_of_heap h1) h4
    exact ⟨c, e, fz, k1.trans h1, h2, h3, .inl k2⟩
  · obtain ⟨c', fz', k1, k2, k3⟩ := h.tail b f c e fz h4 h1
    refine ⟨c', e, fz', k1, ?_, h3, ?_⟩
    · rw [← h2]
      have := congrArg (List.drop off) (take_of_take h5 k2)
      rw [List.drop_take, List.drop_take, Nat.add_sub_cancel_left] at this
      exact this
    · rcases k3 with k3 | ⟨f', hle, k3⟩
      · exact .inl k3
      · exact .inr ⟨f', k3, Nat.le_trans h5 hle⟩
mutual
theorem VR_mono {out : List Nat} {w w' : World} {g g' : Ghost} (h : Evol out w g w' g') (o : Bool) : ∀ (x : PV) (v : Value), (o = true → ∀ b ∈ toks x v, b ∈ out) → VR o w g x v → VR o w' g' x v
  | .int k n, v, _, r => r
  | .bool b, v, _, r => r
  | .str s, v, _, r => r
  | .unit, _, _, _ => trivial
  | .lst sz xs own, v, ht, r => by
    obtain ⟨A, cap, rfl, h1, h2, h3, h4⟩ := r
    refine ⟨A, cap, rfl, h1, h2, ?_, ?_⟩
    · rcases h3 with h3 | ⟨b, off, vs, h3, h5, h6⟩
      · exact .inl h3
      · exact .inr ⟨b, off, vs, h3, h5.mono h, VRe_mono h sz xs vs h6⟩
    · intro ho how hlt
      obtain ⟨h0, b, c, e, hA, hb, hg, hs⟩ := h4 ho how hlt
      have hm : b ∈ out := ht ho b (by subst hA how; simp [toks, hlt])
      obtain ⟨k1, k2⟩ := h.out b hm
      exact ⟨h0, b, c, e, hA, k1.trans hb, k2.trans hg, hs⟩
  | .agg cs, v, ht, r => by
    obtain ⟨h0, vs, rfl, h1⟩ := r
    exact ⟨h0, vs, rfl, VRl_mono h o cs vs.toList (fun ho b hb => ht ho b (by simpa [toks] using hb)) h1⟩
  | .tup cs, v, ht, r => by
    obtain ⟨vs, rfl, h1⟩ := r
    exact ⟨vs, rfl, VRl_mono h o cs vs.toList (fun ho b hb => ht ho b (by simpa [toks] using hb)) h1⟩
  | .ptr a, v, _, r => r
  | .ip sz xs i off, v, _, r => by
    obtain ⟨b, base, vs, h1, h2, h3, h4⟩ := r
    exact ⟨b, base, vs, h1, h2, h3.mono h, VRe_mono h sz xs vs h4⟩
  | .row .., v, _, r => r
  | .map b, v, _, r => r
  | .fn f first cap, v, _, r => by
    obtain ⟨fs, cs, rfl, h1, h2⟩ := r
    exact ⟨fs, cs, rfl, VRl_mono h false first fs.toList (fun ho => by cases ho) h1, VRl_mono h false cap cs.toList (fun ho => by cases ho) h2⟩
  | .nilf, v, _, r => r
  | .nlit sz xs, v, ht, r => by
    obtain ⟨b, vs, rfl, h1, h2, h3, h4⟩ := r
    refine ⟨b, vs, rfl, h1, h2.mono h, VRe_mono h sz xs vs h3, fun ho => ?_⟩
    obtain ⟨c, e, hc, hg⟩ := h4 ho
    obtain ⟨k1, k2⟩ := h.out b (ht ho b (by simp [toks]))
    exact ⟨c, e, k1.trans hc, k2.trans hg⟩
theorem VRl_mono {out : List Nat} {w w' : World} {g g' : Ghost} (h : Evol out w g w' g') (o : Bool) : ∀ (xs : List PV) (vs : List Value), (o = true → ∀ b ∈ toksL xs vs, b ∈ out) → VRl o w g xs vs → VRl o w' g' xs vs
  | [], vs, _, r => r
  | x :: xs, vs, ht, r => by
    obtain ⟨v, vs', rfl, h1, h2⟩ := r
    exact ⟨v, vs', rfl, VR_mono h o x v (fun ho b hb => ht ho b (by simp [toksL, hb])) h1, VRl_mono h o xs vs' (fun ho b hb => ht ho b (by simp [toksL, hb])) h2⟩
theorem VRe_mono {out : List Nat} {w w' : World} {g g' : Ghost} (h : Evol out w g w' g') (sz : Nat) : ∀ (xs : List PV) (vs : List Value), VRe w g sz xs vs → VRe w' g' sz xs vs
  | [], vs, r => r
  | .agg cs :: xs, vs, r => ⟨r.1, r.2.1, VRl_mono h false cs _ (fun ho => by cases ho) r.2.2.1, VRe_mono h sz xs _ r.2.2.2⟩
  | .int k n :: xs, vs, r => by
    obtain ⟨h0, h1, v, vs', rfl, h2, h3⟩ := r
    exact ⟨h0, h1, v, vs', rfl, VR_mono h false _ v (fun ho => by cases ho) h2, VRe_mono h sz xs vs' h3⟩
  | .bool b :: xs, vs, r => by
    obtain ⟨h0, h1, v, vs', rfl, h2, h3⟩ := r
    exact ⟨h0, h1, v, vs', rfl, VR_mono h false _ v (fun ho => by cases ho) h2, VRe_mono h sz xs vs' h3⟩
  | .str s :: xs, vs, r => by
    obtain ⟨h0, h1, v, vs', rfl, h2, h3⟩ := r
    exact ⟨h0, h1, v, vs', rfl, VR_mono h false _ v (fun ho => by cases ho) h2, VRe_mono h sz xs vs' h3⟩
  | .unit :: xs, vs, r => by cases r.1
  | .lst s ys own :: xs, vs, r => by
    obtain ⟨h0, h1, v, vs', rfl, h2, h3⟩ := r
    exact ⟨h0, h1, v, vs', rfl, VR_mono h false _ v (fun ho => by cases ho) h2, VRe_mono h sz xs vs' h3⟩
  | .tup cs :: xs, vs, r => by cases r.1
  | .ptr a :: xs, vs, r => by
    obtain ⟨h0, h1, v, vs', rfl, h2, h3⟩ := r
    exact ⟨h0, h1, v, vs', rfl, VR_mono h false _ v (fun ho => by cases ho) h2, VRe_mono h sz xs vs' h3⟩
  | .ip s ys i off :: xs, vs, r => by
    obtain ⟨h0, h1, v, vs', rfl, h2, h3⟩ := r
    exact ⟨h0, h1, v, vs', rfl, VR_mono h false _ v (fun ho => by cases ho) h2, VRe_mono h sz xs vs' h3⟩
  | .row b off len cap :: xs, vs, r => by
    obtain ⟨h0, h1, v, vs', rfl, h2, h3⟩ := r
    exact ⟨h0, h1, v, vs', rfl, VR_mono h false _ v (fun ho => by cases ho) h2, VRe_mono h sz xs vs' h3⟩
  | .map b :: xs, vs, r => by
    obtain ⟨h0, h1, v, vs', rfl, h2, h3⟩ := r
    exact ⟨h0, h1, v, vs', rfl, VR_mono h false _ v (fun ho => by cases ho) h2, VRe_mono h sz xs vs' h3⟩
  | .fn f a c :: xs, vs, r => by
    obtain ⟨h0, h1, v, vs', rfl, h2, h3⟩ := r
    exact ⟨h0, h1, v, vs', rfl, VR_mono h false _ v (fun ho => by cases ho) h2, VRe_mono h sz xs vs' h3⟩
  | .nilf :: xs, vs, r => by
    obtain ⟨h0, h1, v, vs', rfl, h2, h3⟩ := r
    exact ⟨h0, h1, v, vs', rfl, VR_mono h false _ v (fun ho => by cases ho) h2, VRe_mono h sz xs vs' h3⟩
  | .nlit s ys :: xs, vs, r => by
    obtain ⟨h0, h1, v, vs', rfl, h2, h3⟩ := r
    exact ⟨h0, h1, v, vs', rfl, VR_mono h false _ v (fun ho => by cases ho) h2, VRe_mono h sz xs vs' h3⟩
end
end Go.Proofs.Ytkjibelcaeanjaa.E
