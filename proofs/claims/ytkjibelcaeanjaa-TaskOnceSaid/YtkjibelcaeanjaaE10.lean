/- A logic of plain values, part 10: blocks that are written: made anew, stored into. -/
import Derived.Test.YtkjibelcaeanjaaE9
namespace Go.Proofs.Ytkjibelcaeanjaa.E
open Go Go.RowKit
set_option linter.unusedVariables false
set_option linter.unusedSimpArgs false
theorem HRel.lt {out : List Nat} {w : World} {g : Ghost} (hw : WRel out w g) {H : Heap} (h : HRel w g H) {b : Nat} {cs : List PV} (hg : hget H b = some cs) : b < w.heap.size :=
  hw.lt (by rw [(h.mut_of_get hg).1]; simp)
/-- A new block of H. -/
theorem alloc_rel {out : List Nat} {st st1 : List PV} {H : Heap} {a : Act} {w w1 : World} {g : Ghost} {cs : List PV} {us : Array Value} {e : TypeId} {d : Option Nat} {r : PV} {v : Value}
    (h : Rel out st H a w g) (h1 : VRl true w g st1 a.tmps.toList) (hcs : VRl true w g cs us.toList) (hall : cs.all PV.isCell = true)
    (hc : ∀ b, (toksL st1 a.tmps.toList).count b + (toksL cs us.toList).count b ≤ (toksL st a.tmps.toList).count b)
    (hw1 : w1.heap = (w.alloc (.cells us e)).heap) (ho : w1.os = w.os) (ht : w1.tape = w.tape) (hu : w1.output = w.output) (hr : ∀ w g, VR true w g r v) (hrt : toks r v = []) :
    Rel out (putSt st1 d r) ((w.heap.size, cs) :: H) (a.put d v) w1 (upd g w.heap.size .mut) ∧ Evol out w g w1 (upd g w.heap.size .mut) := by
  have hS : Step0 [] w g w1 (upd g w.heap.size .mut) := Step0.alloc (out := out) (tk := []) h.wr hw1 ho ht hu (by simp) (fun f hf => by cases hf)
  have htl : ∀ b, b ∈ out ++ toksL st1 a.tmps.toList ++ toksH w H ++ toksL cs us.toList → ∃ f, g b = .tail f := fun b hb => by
    simp only [List.mem_append] at hb
    rcases hb with ((hb | hb) | hb) | hb
    · exact h.wr.outT b hb
    · exact toksL_tail st1 _ h1 b hb
    · exact toksH_tail h.hp b hb
    · exact toksL_tail cs _ hcs b hb
  have hE : Evol (out ++ toksL st1 a.tmps.toList ++ toksH w H ++ toksL cs us.toList) w g w1 (upd g w.heap.size .mut) := hS.evol (by simp) fun b hb => by
    obtain ⟨f, hf⟩ := htl b hb
    exact ⟨h.wr.lt (by rw [hf]; simp), by simp⟩
  have hm : ∀ b, g b = .mut → w1.heap[b]? = w.heap[b]? ∧ upd g w.heap.size .mut b = .mut := fun b hb => by
    have hl := h.wr.lt (b := b) (by rw [hb]; simp)
    obtain ⟨k1, k2⟩ := hS.old b hl (by simp)
    exact ⟨k1, k2.trans hb⟩
  obtain ⟨hH, hT⟩ := HRel.keep hE hm h.hp (fun b hb => by simp [hb])
  have hnew : w1.heap[w.heap.size]? = some (.cells us e (0, 0)) := by rw [hw1]; exact push_new w _
  have hnone : hget H w.heap.size = none := by
    cases hh : hget H w.heap.size with
    | none => rfl
    | some q => exact absurd (HRel.lt h.wr h.hp hh) (Nat.lt_irrefl _)
  refine ⟨⟨hS.wrel h.wr (by simp), ⟨hnone, upd_same _ _ _, hall, ⟨us, e, hnew, VRl_mono hE true cs _ (fun _ b hb => by simp [hb]) hcs⟩, hH⟩, VRl_put (VRl_mono hE true st1 _ (fun _ b hb => by simp [hb]) h1) (hr _ _), fun b => ?_, ?_⟩, hE.sub (fun b hb => by simp [hb])⟩
  · simp only [toksH, toksB, hnew, List.count_append, hT]
    have h2 := count_put_le b (d := d) (x := r) (v := v) h1
    rw [hrt, List.count_nil] at h2
    have h3 := h.un b
    have h4 := hc b
    omega
  · have : (a.put d v).defers = a.defers := by cases d <;> rfl
    rw [this]
    exact h.df
theorem hget_hset_same : ∀ {H : Heap} {b : Nat} {cs ds : List PV}, hget H b = some cs → hget (hset H b ds) b = some ds
  | [], b, cs, ds, h => by simp [hget] at h
  | (c, x) :: H, b, cs, ds, h => by
    simp only [hget] at h
    by_cases e : c = b
    · simp [hset, hget, e]
    · simp only [if_neg e] at h
      simp only [hset, if_neg e, hget]
      exact hget_hset_same h
theorem hget_hset_ne {b c : Nat} (hne : c ≠ b) (ds : List PV) : ∀ (H : Heap), hget (hset H b ds) c = hget H c
  | [] => rfl
  | (x, y) :: H => by
    by_cases e : x = b
    · subst e
      simp only [hset, if_true, hget, if_neg (Ne.symm hne)]
    · simp only [hset, if_neg e, hget]
      rw [hget_hset_ne hne ds H]
theorem toksH_hset (x : Nat) {w w' : World} {g : Ghost} {b : Nat} (hoth : ∀ k, k ≠ b → w'.heap[k]? = w.heap[k]?) : ∀ {H : Heap} {cs ds : List PV}, HRel w g H → hget H b = some cs →
    (toksH w' (hset H b ds)).count x + (toksB w b cs).count x = (toksH w H).count x + (toksB w' b ds).count x
  | [], cs, ds, _, h => by simp [hget] at h
  | (c, y) :: H, cs, ds, r, h => by
    obtain ⟨h0, h1, h2, h3, h4⟩ := r
    simp only [hget] at h
    by_cases e : c = b
    · subst e
      simp only [if_true, Option.some.injEq] at h
      subst h
      simp only [hset, if_true, toksH, List.count_append]
      have hrest : toksH w' H = toksH w H := by
        have : ∀ (K : Heap), hget K c = none → toksH w' K = toksH w K := by
          intro K
          induction K with
          | nil => intro _; rfl
          | cons p K ih =>
            obtain ⟨k, z⟩ := p
            intro hk
            simp only [hget] at hk
            by_cases ek : k = c
            · simp [ek] at hk
            · simp only [if_neg ek] at hk
              simp only [toksH, toksB, hoth k ek, ih hk]
        exact this H h0
      rw [hrest]
      omega
    · simp only [if_neg e] at h
      have ih := toksH_hset (ds := ds) x hoth h4 h
      simp only [hset, if_neg e, toksH, List.count_append]
      have : toksB w' c y = toksB w c y := by simp only [toksB, hoth c e]
      rw [this]
      omega
theorem HRel_hset {out : List Nat} {w w' : World} {g : Ghost} {b : Nat} (hE : Evol out w g w' g) (hoth : ∀ k, k ≠ b → w'.heap[k]? = w.heap[k]?) {ds : List PV} (hall : ds.all PV.isCell = true)
    (hb : ∃ c e, w'.heap[b]? = some (.cells c e (0, 0)) ∧ VRl true w' g ds c.toList) : ∀ {H : Heap} {cs : List PV}, HRel w g H → hget H b = some cs → (∀ x ∈ toksH w H, x ∈ out) → HRel w' g (hset H b ds)
  | [], cs, _, h, _ => by simp [hget] at h
  | (c, y) :: H, cs, r, h, ho => by
    obtain ⟨h0, h1, h2, ⟨cc, e', hc, hv⟩, h4⟩ := r
    simp only [hget] at h
    by_cases e : c = b
    · subst e
      simp only [hset, if_true]
      refine ⟨h0, h1, hall, hb, ?_⟩
      have : ∀ (K : Heap), hget K c = none → HRel w g K → (∀ x ∈ toksH w K, x ∈ out) → HRel w' g K := by
        intro K
        induction K with
        | nil => intro _ _ _; trivial
        | cons p K ih =>
          obtain ⟨k, z⟩ := p
          intro hk hr hto
          simp only [hget] at hk
          by_cases ek : k = c
          · simp [ek] at hk
          · simp only [if_neg ek] at hk
            obtain ⟨r0, r1, r2, ⟨c2, e2, r3, r4⟩, r5⟩ := hr
            exact ⟨r0, r1, r2, ⟨c2, e2, (hoth k ek).trans r3, VRl_mono hE true z _ (fun _ x hx => hto x (by simp [toksH, toksB, r3, hx])) r4⟩, ih hk r5 (fun x hx => hto x (by simp [toksH, hx]))⟩
      exact this H h0 h4 (fun x hx => ho x (by simp [toksH, hx]))
    · simp only [if_neg e] at h
      simp only [hset, if_neg e]
      refine ⟨by rw [hget_hset_ne e]; exact h0, h1, h2, ⟨cc, e', (hoth c e).trans hc, VRl_mono hE true y _ (fun _ x hx => ho x (by simp [toksH, toksB, hc, hx])) hv⟩, HRel_hset hE hoth hall hb h4 h (fun x hx => ho x (by simp [toksH, hx]))⟩
/-- Cells of a block of H are written. -/
theorem store_rel {out : List Nat} {st st1 : List PV} {H : Heap} {a : Act} {w w' : World} {g : Ghost} {b : Nat} {cs ds : List PV} {c c' : Array Value} {e : TypeId} {d : Option Nat} {v : Value}
    (h : Rel out st H a w g) (h1 : VRl true w g st1 a.tmps.toList) (hg : hget H b = some cs) (hc : w.heap[b]? = some (.cells c e (0, 0))) (hcv : VRl true w g cs c.toList)
    (hds : VRl true w g ds c'.toList) (hall : ds.all PV.isCell = true)
    (hcnt : ∀ x, (toksL st1 a.tmps.toList).count x + (toksL ds c'.toList).count x ≤ (toksL st a.tmps.toList).count x + (toksL cs c.toList).count x)
    (hw : w' = w.setRow b c') : Rel out (putSt st1 d .unit) (hset H b ds) (a.put d v) w' g ∧ Evol out w g w' g := by
  have hmut := (h.hp.mut_of_get hg).1
  have hnew : w'.heap[b]? = some (.cells c' e (0, 0)) := by rw [hw]; exact setRow_heap w b c c' e _ hc
  have hoth : ∀ k, k ≠ b → w'.heap[k]? = w.heap[k]? := fun k hk => by rw [hw]; exact setRow_other w b k c' hk
  have hsz : w'.heap.size = w.heap.size := by rw [hw]; simp [World.setRow]
  have hE : ∀ o : List Nat, (∀ x ∈ o, ∃ f, g x = .tail f) → Evol o w g w' g := fun o ho => by
    refine ⟨by rw [hw]; rfl, by rw [hw]; rfl, by rw [hw]; rfl, by omega, fun k hk hi => ⟨hoth k (fun e => by subst e; rw [hmut] at hi; cases hi), hi⟩, fun k f c2 e2 fz hf h2 => ⟨c2, fz, (hoth k (fun e => by subst e; rw [hmut] at hf; cases hf)).trans h2, rfl, .inr ⟨f, Nat.le_refl _, hf⟩⟩, fun k hk => ⟨hoth k (fun e => by subst e; obtain ⟨f, hf⟩ := ho k hk; rw [hmut] at hf; cases hf), rfl⟩⟩
  have hE1 := hE (out ++ toksL st1 a.tmps.toList ++ toksH w H ++ toksL ds c'.toList) (fun x hx => by
    simp only [List.mem_append] at hx
    rcases hx with ((hx | hx) | hx) | hx
    · exact h.wr.outT x hx
    · exact toksL_tail st1 _ h1 x hx
    · exact toksH_tail h.hp x hx
    · exact toksL_tail ds _ hds x hx)
  refine ⟨⟨⟨fun k hk => h.wr.fresh k (by omega), fun k f hf => ?_, h.wr.outT⟩, HRel_hset hE1 hoth hall ⟨c', e, hnew, VRl_mono hE1 true ds _ (fun _ x hx => by simp [hx]) hds⟩ h.hp hg (fun x hx => by simp [hx]), VRl_put (VRl_mono hE1 true st1 _ (fun _ x hx => by simp [hx]) h1) trivial, fun x => ?_, ?_⟩, hE1.sub (fun x hx => by simp [hx])⟩
  · obtain ⟨c2, e2, q1, q2⟩ := h.wr.tl k f hf
    exact ⟨c2, e2, (hoth k (fun e => by subst e; rw [hmut] at hf; cases hf)).trans q1, q2⟩
  · have h2 := count_put_le x (d := d) (x := .unit) (v := v) h1
    have h3 := h.un x
    have h4 := hcnt x
    have h5 := toksH_hset (ds := ds) x hoth h.hp hg
    have e1 : toksB w b cs = toksL cs c.toList := by simp [toksB, hc]
    have e2 : toksB w' b ds = toksL ds c'.toList := by simp [toksB, hnew]
    rw [e1, e2] at h5
    have e3 : toks .unit v = [] := by simp [toks]
    rw [e3, List.count_nil] at h2
    omega
  · have : (a.put d v).defers = a.defers := by cases d <;> rfl
    rw [this]
    exact h.df
end Go.Proofs.Ytkjibelcaeanjaa.E
