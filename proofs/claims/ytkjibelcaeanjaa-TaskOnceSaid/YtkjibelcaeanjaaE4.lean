/- A logic of plain values, part 4: the state of a frame, and what a step that makes a value does to it. -/
import Derived.Test.YtkjibelcaeanjaaE3
namespace Go.Proofs.Ytkjibelcaeanjaa.E
open Go Go.RowKit
set_option linter.unusedVariables false
set_option linter.unusedSimpArgs false
mutual
theorem toks_tail {w : World} {g : Ghost} : ∀ (x : PV) (v : Value), VR true w g x v → ∀ b ∈ toks x v, ∃ f, g b = .tail f
  | .lst sz xs own, v, r, b, hb => by
    obtain ⟨A, cap, rfl, h1, h2, h3, h4⟩ := r
    cases own with
    | false => simp [toks] at hb
    | true =>
      cases A with
      | none => simp [toks] at hb
      | some a =>
        by_cases hlt : xs.length < cap
        · obtain ⟨_, b', c, e, hA, _, hg, _⟩ := h4 rfl rfl hlt
          cases hA
          simp [toks, hlt] at hb
          subst hb
          exact ⟨_, hg⟩
        · simp [toks, hlt] at hb
  | .agg cs, v, r, b, hb => by
    obtain ⟨h0, vs, rfl, h1⟩ := r
    exact toksL_tail cs vs.toList h1 b (by simpa [toks] using hb)
  | .tup cs, v, r, b, hb => by
    obtain ⟨vs, rfl, h1⟩ := r
    exact toksL_tail cs vs.toList h1 b (by simpa [toks] using hb)
  | .int .., v, r, b, hb => by simp [toks] at hb
  | .bool .., v, r, b, hb => by simp [toks] at hb
  | .str .., v, r, b, hb => by simp [toks] at hb
  | .unit, v, r, b, hb => by simp [toks] at hb
  | .ptr .., v, r, b, hb => by simp [toks] at hb
  | .ip .., v, r, b, hb => by simp [toks] at hb
  | .row .., v, r, b, hb => by simp [toks] at hb
  | .map .., v, r, b, hb => by simp [toks] at hb
  | .fn .., v, r, b, hb => by simp [toks] at hb
  | .nilf, v, r, b, hb => by simp [toks] at hb
  | .nlit sz xs, v, r, b, hb => by
    obtain ⟨b', vs, rfl, _, _, _, h4⟩ := r
    obtain ⟨c, e, _, hg⟩ := h4 rfl
    simp [toks] at hb
    subst hb
    exact ⟨_, hg⟩
theorem toksL_tail {w : World} {g : Ghost} : ∀ (xs : List PV) (vs : List Value), VRl true w g xs vs → ∀ b ∈ toksL xs vs, ∃ f, g b = .tail f
  | [], vs, r, b, hb => by simp [toksL] at hb
  | x :: xs, vs, r, b, hb => by
    obtain ⟨v, vs', rfl, h1, h2⟩ := r
    simp only [toksL, List.mem_append] at hb
    rcases hb with hb | hb
    · exact toks_tail x v h1 b hb
    · exact toksL_tail xs vs' h2 b hb
end
/-- The blocks that are written: each with what its cells hold. -/
abbrev Heap := List (Nat × List PV)
def hget : Heap → Nat → Option (List PV)
  | [], _ => none
  | (c, cs) :: H, b => if c = b then some cs else hget H b
def hset : Heap → Nat → List PV → Heap
  | [], _, _ => []
  | (c, cs) :: H, b, ds => if c = b then (c, ds) :: H else (c, cs) :: hset H b ds
def HRel (w : World) (g : Ghost) : Heap → Prop
  | [] => True
  | (b, cs) :: H => hget H b = none ∧ g b = .mut ∧ cs.all PV.isCell = true ∧ (∃ c e, w.heap[b]? = some (.cells c e (0, 0)) ∧ VRl true w g cs c.toList) ∧ HRel w g H
def toksB (w : World) (b : Nat) (cs : List PV) : List Nat :=
  match w.heap[b]? with
  | some (.cells c _ _) => toksL cs c.toList
  | _ => []
def toksH (w : World) : Heap → List Nat
  | [] => []
  | (b, cs) :: H => toksB w b cs ++ toksH w H
structure WRel (out : List Nat) (w : World) (g : Ghost) : Prop where
  fresh : ∀ b, w.heap.size ≤ b → g b = .imm
  tl : ∀ b f, g b = .tail f → ∃ c e, w.heap[b]? = some (.cells c e (0, 0)) ∧ f ≤ c.size
  outT : ∀ b ∈ out, ∃ f, g b = .tail f
theorem WRel.lt {out : List Nat} {w : World} {g : Ghost} (h : WRel out w g) {b : Nat} (hb : g b ≠ .imm) : b < w.heap.size :=
  Nat.lt_of_not_le fun hle => hb (h.fresh b hle)
structure Rel (out : List Nat) (st : List PV) (H : Heap) (a : Act) (w : World) (g : Ghost) : Prop where
  wr : WRel out w g
  hp : HRel w g H
  tm : VRl true w g st a.tmps.toList
  un : ∀ b, (toksL st a.tmps.toList).count b + (toksH w H).count b + out.count b ≤ 1
  df : a.defers = []
theorem toksH_tail {w : World} {g : Ghost} : ∀ {H : Heap}, HRel w g H → ∀ b ∈ toksH w H, ∃ f, g b = .tail f
  | [], _, b, hb => by simp [toksH] at hb
  | (c, cs) :: H, h, b, hb => by
    obtain ⟨_, _, _, ⟨cc, e, hc, hv⟩, hH⟩ := h
    simp only [toksH, List.mem_append] at hb
    rcases hb with hb | hb
    · simp only [toksB, hc] at hb
      exact toksL_tail cs _ hv b hb
    · exact toksH_tail hH b hb
theorem HRel.mut_of_get {w : World} {g : Ghost} : ∀ {H : Heap} {b : Nat} {cs : List PV}, HRel w g H → hget H b = some cs →
    g b = .mut ∧ cs.all PV.isCell = true ∧ ∃ c e, w.heap[b]? = some (.cells c e (0, 0)) ∧ VRl true w g cs c.toList
  | [], b, cs, _, h => by simp [hget] at h
  | (c, ds) :: H, b, cs, r, h => by
    obtain ⟨_, h1, h2, h3, h4⟩ := r
    simp only [hget] at h
    split at h
    · rename_i e
      subst e
      cases h
      exact ⟨h1, h2, h3⟩
    · exact HRel.mut_of_get h4 h
/-- The heap's blocks read on where they are as they were. -/
theorem HRel.keep {out : List Nat} {w w' : World} {g g' : Ghost} (hE : Evol out w g w' g') (hm : ∀ b, g b = .mut → w'.heap[b]? = w.heap[b]? ∧ g' b = .mut) :
    ∀ {H : Heap}, HRel w g H → (∀ b ∈ toksH w H, b ∈ out) → HRel w' g' H ∧ toksH w' H = toksH w H
  | [], _, _ => ⟨trivial, rfl⟩
  | (b, cs) :: H, h, ho => by
    obtain ⟨h0, h1, h2, ⟨c, e, hc, hv⟩, hH⟩ := h
    obtain ⟨k1, k2⟩ := hm b h1
    obtain ⟨i1, i2⟩ := HRel.keep hE hm hH (fun x hx => ho x (by simp [toksH, hx]))
    have ht : toksB w' b cs = toksB w b cs := by simp only [toksB, k1]
    refine ⟨⟨h0, k2, h2, ⟨c, e, k1.trans hc, VRl_mono hE true cs _ (fun _ x hx => ho x (by simp [toksH, toksB, hc, hx])) hv⟩, i1⟩, by simp only [toksH, ht, i2]⟩
/-- A step that makes a value: it may write into tails that it owns (tk), and into new blocks. -/
structure Step0 (tk : List Nat) (w : World) (g : Ghost) (w' : World) (g' : Ghost) : Prop where
  os : w'.os = w.os
  tape : w'.tape = w.tape
  output : w'.output = w.output
  size : w.heap.size ≤ w'.heap.size
  old : ∀ b, b < w.heap.size → b ∉ tk → w'.heap[b]? = w.heap[b]? ∧ g' b = g b
  tail : ∀ b ∈ tk, ∀ f c e fz, g b = .tail f → w.heap[b]? = some (.cells c e fz) → ∃ c' fz', w'.heap[b]? = some (.cells c' e fz') ∧ c'.toList.take f = c.toList.take f ∧ (g' b = .imm ∨ ∃ f', f ≤ f' ∧ g' b = .tail f')
  fresh : ∀ b, w'.heap.size ≤ b → g' b = .imm
  tl : ∀ b f, g' b = .tail f → b ∈ tk ∨ w.heap.size ≤ b → ∃ c e, w'.heap[b]? = some (.cells c e (0, 0)) ∧ f ≤ c.size
structure Step (tk : List Nat) (w : World) (g : Ghost) (w' : World) (g' : Ghost) (r : PV) (v : Value) : Prop extends Step0 tk w g w' g' where
  rv : VR true w' g' r v
  rt : ∀ b, (toks r v).count b ≤ 1
  rs : ∀ b ∈ toks r v, b ∈ tk ∨ w.heap.size ≤ b
theorem Step.same {out : List Nat} {w : World} {g : Ghost} {r : PV} {v : Value} (hw : WRel out w g) (h : VR true w g r v) (ht : toks r v = []) : Step [] w g w g r v :=
  ⟨⟨rfl, rfl, rfl, Nat.le_refl _, fun _ _ _ => ⟨rfl, rfl⟩, (fun _ h => by cases h), hw.fresh, fun b f hf _ => hw.tl b f hf⟩, h, by simp [ht], by simp [ht]⟩
/-- .. that hands on what it owned. -/
theorem Step.move {out : List Nat} {w : World} {g : Ghost} {r : PV} {v : Value} (hw : WRel out w g) (h : VR true w g r v) (hu : ∀ b, (toks r v).count b ≤ 1) : Step (toks r v) w g w g r v :=
  ⟨⟨rfl, rfl, rfl, Nat.le_refl _, fun _ _ _ => ⟨rfl, rfl⟩, fun b hb f c e fz hf hc => ⟨c, fz, hc, rfl, .inr ⟨f, Nat.le_refl _, hf⟩⟩, hw.fresh, fun b f hf _ => hw.tl b f hf⟩, h, hu, fun b hb => .inl hb⟩
section
variable {tk out : List Nat} {w w' : World} {g g' : Ghost} {r : PV} {v : Value}
theorem Step0.evol (h : Step0 tk w g w' g') (htk : ∀ b ∈ tk, ∃ f, g b = .tail f) (hout : ∀ b ∈ out, b < w.heap.size ∧ b ∉ tk) : Evol out w g w' g' := by
  refine ⟨h.os, h.tape, h.output, h.size, fun b hb hi => ?_, fun b f c e fz hf hc => ?_, fun b hb => ?_⟩
  · have hn : b ∉ tk := fun hm => by obtain ⟨f, hf⟩ := htk b hm; rw [hf] at hi; cases hi
    obtain ⟨h1, h2⟩ := h.old b hb hn
    exact ⟨h1, h2.trans hi⟩
  · by_cases hm : b ∈ tk
    · exact h.tail b hm f c e fz hf hc
    · obtain ⟨h1, h2⟩ := h.old b (lt_of_heap hc) hm
      exact ⟨c, fz, h1.trans hc, rfl, .inr ⟨f, Nat.le_refl _, h2.trans hf⟩⟩
  · obtain ⟨h1, h2⟩ := hout b hb
    obtain ⟨h3, h4⟩ := h.old b h1 h2
    exact ⟨h3, h4⟩
theorem Step0.wrel (h : Step0 tk w g w' g') (hw : WRel out w g) (hout : ∀ b ∈ out, b ∉ tk) : WRel out w' g' := by
  refine ⟨h.fresh, fun b f hf => ?_, fun b hb => ?_⟩
  · by_cases hm : b ∈ tk
    · exact h.tl b f hf (.inl hm)
    · by_cases hl : b < w.heap.size
      · obtain ⟨h1, h2⟩ := h.old b hl hm
        obtain ⟨c, e, h3, h4⟩ := hw.tl b f (h2 ▸ hf)
        exact ⟨c, e, h1.trans h3, h4⟩
      · exact h.tl b f hf (.inr (by omega))
  · obtain ⟨f, hf⟩ := hw.outT b hb
    have hl := hw.lt (b := b) (by rw [hf]; simp)
    exact ⟨f, (h.old b hl (hout b hb)).2.trans hf⟩
end
def putSt (st : List PV) (d : Option Nat) (x : PV) : List PV :=
  match d with
  | some i => st.set i x
  | none => st
theorem count_mem_zero {l : List Nat} {b : Nat} (h : b ∉ l) : l.count b = 0 := List.count_eq_zero.2 h
theorem count_put_le (b : Nat) {o : Bool} {w : World} {g : Ghost} {st : List PV} {a : Act} {d : Option Nat} {x : PV} {v : Value} (h : VRl o w g st a.tmps.toList) :
    (toksL (putSt st d x) (a.put d v).tmps.toList).count b ≤ (toksL st a.tmps.toList).count b + (toks x v).count b := by
  cases d with
  | none => simp [putSt, Act.put]
  | some i =>
    simp only [putSt, Act.put, Array.toList_setIfInBounds]
    by_cases hi : i < st.length
    · have hl := VRl_length h
      have := count_toksL_set b st a.tmps.toList i x st[i] v (a.tmps.toList[i]'(by omega)) (List.getElem?_eq_getElem hi) (List.getElem?_eq_getElem (by omega))
      omega
    · rw [List.set_eq_of_length_le (by omega), List.set_eq_of_length_le (by rw [VRl_length h]; omega)]
      omega
theorem VRl_put {o : Bool} {w : World} {g : Ghost} {st : List PV} {a : Act} {d : Option Nat} {x : PV} {v : Value} (h : VRl o w g st a.tmps.toList) (hx : VR o w g x v) :
    VRl o w g (putSt st d x) (a.put d v).tmps.toList := by
  cases d with
  | none => exact h
  | some i =>
    simp only [putSt, Act.put, Array.toList_setIfInBounds]
    exact VRl_set i h hx
/-- The state behind a step. -/
theorem step_rel {out tk : List Nat} {st st1 : List PV} {H : Heap} {a : Act} {w w' : World} {g g' : Ghost} {r : PV} {v : Value} {d : Option Nat}
    (h : Rel out st H a w g) (h1 : VRl true w g st1 a.tmps.toList) (hc : ∀ b, (toksL st1 a.tmps.toList).count b + tk.count b ≤ (toksL st a.tmps.toList).count b)
    (hs : Step tk w g w' g' r v) : Rel out (putSt st1 d r) H (a.put d v) w' g' ∧ Evol out w g w' g' := by
  have htk : ∀ b ∈ tk, ∃ f, g b = .tail f := fun b hb => by
    have h2 := hc b
    have h3 := List.count_pos_iff.2 hb
    exact toksL_tail st _ h.tm b (List.count_pos_iff.1 (by omega))
  have hno : ∀ (l : List Nat) b, (toksH w H).count b + out.count b = (toksH w H).count b + out.count b → b ∈ tk → (toksL st1 a.tmps.toList).count b = 0 ∧ (toksH w H).count b = 0 ∧ out.count b = 0 := fun _ b _ hb => by
    have h2 := hc b
    have h3 := List.count_pos_iff.2 hb
    have h4 := h.un b
    omega
  have hlt : ∀ b f, g b = .tail f → b < w.heap.size := fun b f hf => h.wr.lt (by rw [hf]; simp)
  have hno' : ∀ b ∈ tk, (toksL st1 a.tmps.toList).count b = 0 ∧ (toksH w H).count b = 0 ∧ out.count b = 0 := fun b hb => hno [] b rfl hb
  -- all that others own, and what this frame goes on to own
  have hE : Evol (out ++ toksL st1 a.tmps.toList ++ toksH w H) w g w' g' := hs.toStep0.evol htk fun b hb => by
    simp only [List.mem_append] at hb
    refine ⟨?_, fun hm => ?_⟩
    · rcases hb with (hb | hb) | hb
      · obtain ⟨f, hf⟩ := h.wr.outT b hb; exact hlt b f hf
      · obtain ⟨f, hf⟩ := toksL_tail st1 _ h1 b hb; exact hlt b f hf
      · obtain ⟨f, hf⟩ := toksH_tail h.hp b hb; exact hlt b f hf
    · obtain ⟨z1, z2, z3⟩ := hno' b hm
      rcases hb with (hb | hb) | hb
      · exact absurd (List.count_pos_iff.2 hb) (by omega)
      · exact absurd (List.count_pos_iff.2 hb) (by omega)
      · exact absurd (List.count_pos_iff.2 hb) (by omega)
  have hm : ∀ b, g b = .mut → w'.heap[b]? = w.heap[b]? ∧ g' b = .mut := fun b hb => by
    obtain ⟨k1, k2⟩ := hs.old b (h.wr.lt (by rw [hb]; simp)) (fun hm => by obtain ⟨f, hf⟩ := htk b hm; rw [hf] at hb; cases hb)
    exact ⟨k1, k2.trans hb⟩
  obtain ⟨hH, hT⟩ := HRel.keep hE hm h.hp (fun b hb => by simp [hb])
  refine ⟨⟨hs.toStep0.wrel h.wr (fun b hb hm => ?_), hH, ?_, fun b => ?_, ?_⟩, hE.sub (fun b hb => by simp [hb])⟩
  · have := (hno' b hm).2.2
    exact absurd (List.count_pos_iff.2 hb) (by omega)
  · exact VRl_put (VRl_mono hE true st1 _ (fun _ b hb => by simp [hb]) h1) hs.rv
  · rw [hT]
    have h2 := count_put_le b (d := d) (x := r) (v := v) h1
    have h3 := h.un b
    have h4 := hc b
    have h5 := hs.rt b
    by_cases hb : b ∈ toks r v
    · rcases hs.rs b hb with hm | hm
      · obtain ⟨z1, z2, z3⟩ := hno' b hm
        omega
      · have z1 : (toksL st1 a.tmps.toList).count b = 0 := count_mem_zero fun hh => by obtain ⟨f, hf⟩ := toksL_tail st1 _ h1 b hh; have := hlt b f hf; omega
        have z2 : (toksH w H).count b = 0 := count_mem_zero fun hh => by obtain ⟨f, hf⟩ := toksH_tail h.hp b hh; have := hlt b f hf; omega
        have z3 : out.count b = 0 := count_mem_zero fun hh => by obtain ⟨f, hf⟩ := h.wr.outT b hh; have := hlt b f hf; omega
        omega
    · have := count_mem_zero hb
      omega
  · have : (a.put d v).defers = a.defers := by cases d <;> rfl
    rw [this]
    exact h.df
end Go.Proofs.Ytkjibelcaeanjaa.E
