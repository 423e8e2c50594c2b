/- A logic of plain values, part 8: append, and what is made anew. -/
import Derived.Test.YtkjibelcaeanjaaE7
namespace Go.Proofs.Ytkjibelcaeanjaa.E
open Go Go.RowKit
set_option linter.unusedVariables false
set_option linter.unusedSimpArgs false
/-- The ways of an append. -/
theorem append_ways {P : Program} {t tx ty e : TypeId} {dx : TypeDesc} {i : TypeInfo} {z : Value} (ht : P.underlying t = some (.slice e)) (hx : P.underlying tx = some dx) (hdx : dx = .string ∨ ∃ e2, dx = .slice e2) (hi : P.info? e = some i) (hz : i.zero = some z)
    (hzs : z.cells.size = i.size) (w : World) (A : Option Addr) (n cap m : Nat) (x : Value) (olds news : List Value) (hl : news.length = m * i.size) (hlo : olds.length = n * i.size)
    (hlen : ∀ w' : World, (Builtin.lenOf x).run P w' = .ok m w') (hnew : ∀ w' : World, w'.heap = w.heap → (Builtin.firstCells i.size m x).run P w' = .ok news.toArray w')
    (hold : ∀ w' : World, w'.heap = w.heap → (Builtin.firstCells i.size n (.slice A n cap)).run P w' = .ok olds.toArray w') (h1 : ∀ u ∈ news, u.oneCell' = true)
    (hcap : n ≤ cap) (hcm : cap ≤ maxLen) (h63 : n + m ≤ maxLen) (hb : (n + m) * i.bytes ≤ 140737488355328)
    (htail : n < cap → ∃ b c e', A = some ⟨b, 0, none⟩ ∧ w.heap[b]? = some (.cells c e' (0, 0)) ∧ cap * i.size ≤ c.size) :
    ∃ v' w', (Builtin.append_ #[t, tx] ty #[.slice A n cap, x]).run P w = .ok v' w' ∧
      ((m = 0 ∧ v' = .slice A n cap ∧ w' = w) ∨
       (0 < m ∧ n + m ≤ cap ∧ ∃ b c e', A = some ⟨b, 0, none⟩ ∧ w.heap[b]? = some (.cells c e' (0, 0)) ∧ cap * i.size ≤ c.size ∧ v' = .slice A (n + m) cap ∧ w' = w.setRow b (c.toList.take (n * i.size) ++ news ++ c.toList.drop (n * i.size + news.length)).toArray) ∨
       (∃ cap' rest, n + m ≤ cap' ∧ cap' ≤ maxLen ∧ rest.size = (cap' - (n + m)) * i.size ∧ v' = .slice (some ⟨w.heap.size, 0, none⟩) (n + m) cap' ∧ w' = w.drew.alloc (.cells (olds.toArray ++ news.toArray ++ rest) e) ∧ cap < n + m ∧ rest = Builtin.zeroCells z.cells (cap' - (n + m)))) := by
  rcases hdx with rfl | ⟨e2, rfl⟩
  all_goals
    by_cases hroom : n + m ≤ cap
    · by_cases hm : m = 0
      · subst hm
        have hn : news = [] := List.eq_nil_of_length_eq_zero (by simpa using hl)
        subst hn
        refine ⟨.slice A n cap, w, ?_, .inl ⟨rfl, rfl, rfl⟩⟩
        cases A with
        | none => simp [Builtin.append_, run_underlying ht, run_underlying hx, sizeOf, typeInfo, hi, hlen, hcap, hnew w rfl]
        | some a => simp [Builtin.append_, run_underlying ht, run_underlying hx, sizeOf, typeInfo, hi, hlen, hcap, hnew w rfl, storeCells]
      · obtain ⟨b, c, e', rfl, hc, hs⟩ := htail (by omega)
        have hfit : n * i.size + 0 + news.length ≤ c.size := by
          have : (n + m) * i.size ≤ cap * i.size := Nat.mul_le_mul_right _ hroom
          rw [Nat.add_mul] at this
          omega
        have hst := run_storeCells_at P b (n * i.size) e' news 0 c w hc hfit h1
        simp only [Nat.add_zero] at hst
        refine ⟨.slice (some ⟨b, 0, none⟩) (n + m) cap, _, ?_, .inr (.inl ⟨by omega, hroom, b, c, e', rfl, hc, hs, rfl, rfl⟩)⟩
        simp [Builtin.append_, run_underlying ht, run_underlying hx, sizeOf, typeInfo, hi, hlen, hroom, hnew w rfl, addr_add, hst]
    · have h63' : ¬ (9223372036854775807 < ((n : Int) + (m : Int))) := by simp only [maxLen] at h63; omega
      have h48' : ¬ (281474976710656 < Builtin.nextslicecap (n + m) cap * i.bytes) := by have := growslice_fits (need := n + m) (old := cap) (bytes := i.bytes) (by omega) hb; omega
      refine ⟨_, _, ?_, .inr (.inr ⟨grownCap w (n + m) cap e, Builtin.zeroCells z.cells (grownCap w (n + m) cap e - (n + m)), grownCap_ge _ _ _ _, grownCap_le_maxLen _ _ _ _ h63, by rw [size_zeroCells, hzs], rfl, rfl, by omega, rfl⟩)⟩
      simp [Builtin.append_, run_underlying ht, run_underlying hx, sizeOf, typeInfo, zeroValue, hi, hz, hlen, hroom, h63', h48', Question.forced, hnew w.drew rfl, hold w.drew rfl, newRow, grownCap]
      rw [show (olds ++ news).toArray = olds.toArray ++ news.toArray by simp, Array.append_assoc]
def upd (g : Ghost) (b : Nat) (m : Mode) : Ghost := fun c => if c = b then m else g c
theorem upd_same (g : Ghost) (b : Nat) (m : Mode) : upd g b m b = m := by simp [upd]
theorem upd_ne (g : Ghost) {b c : Nat} (m : Mode) (h : c ≠ b) : upd g b m c = g c := by simp [upd, h]
theorem push_new (w : World) (o : Obj) : (w.alloc o).heap[w.heap.size]? = some o := heap_alloc_new w o
theorem push_old (w : World) (o : Obj) {k : Nat} (h : k < w.heap.size) : (w.alloc o).heap[k]? = w.heap[k]? := heap_alloc_old w o k h
theorem size_alloc (w : World) (o : Obj) : (w.alloc o).heap.size = w.heap.size + 1 := by
  show (w.heap.push o).size = _
  exact Array.size_push _
theorem readable_lt {w : World} {g : Ghost} {b off n : Nat} {vs : List Value} (h : Readable w g b off n vs) : b < w.heap.size := by
  obtain ⟨c, e, fz, h1, _⟩ := h
  exact lt_of_heap h1
/-- A new block with a mode of its own. -/
theorem Step0.alloc {out tk : List Nat} {w w1 : World} {g : Ghost} {c : Array Value} {e : TypeId} {fz : Nat × Nat} {m : Mode} (hw : WRel out w g) (hw1 : w1.heap = (w.alloc (.cells c e fz)).heap) (ho : w1.os = w.os) (ht : w1.tape = w.tape) (hu : w1.output = w.output)
    (htk : ∀ b ∈ tk, b < w.heap.size) (hm : ∀ f, m = .tail f → fz = (0, 0) ∧ f ≤ c.size) : Step0 tk w g w1 (upd g w.heap.size m) := by
  have hs : w1.heap.size = w.heap.size + 1 := by rw [hw1, size_alloc]
  have hold : ∀ k, k < w.heap.size → w1.heap[k]? = w.heap[k]? := fun k hk => by rw [hw1]; exact push_old w _ hk
  refine ⟨ho, ht, hu, by omega, fun b hb _ => ⟨hold b hb, upd_ne _ _ (by omega)⟩, fun b hb f c e fz hf hc => ⟨c, fz, (hold b (htk b hb)).trans hc, rfl, .inr ⟨f, Nat.le_refl _, ?_⟩⟩, fun b hb => ?_, fun b f hf hd => ?_⟩
  · rw [upd_ne _ _ (by have := htk b hb; omega)]; exact hf
  · rw [upd_ne _ _ (by omega)]; exact hw.fresh b (by omega)
  · by_cases hb : b = w.heap.size
    · subst hb
      rw [upd_same] at hf
      obtain ⟨h1, h2⟩ := hm f hf
      subst h1
      exact ⟨c, e, by rw [hw1]; exact push_new w _, h2⟩
    · rw [upd_ne _ _ hb] at hf
      obtain ⟨c', e', h1, h2⟩ := hw.tl b f hf
      exact ⟨c', e', (hold b (lt_of_heap h1)).trans h1, h2⟩
def emptyOr (s sz : Nat) (xs : List PV) : Prop := s = sz ∨ (s = 0 ∧ xs.isEmpty = true)
instance (s sz : Nat) (xs : List PV) : Decidable (emptyOr s sz xs) := by unfold emptyOr; infer_instance
def appP (sz bytes : Nat) : PV → PV → Option PV
  | .lst s xs true, .lst s2 ys _ => if emptyOr s sz xs ∧ (s2 = sz ∨ ys.isEmpty = true) ∧ (xs.length + ys.length) * bytes ≤ 140737488355328 then some (.lst sz (xs ++ ys) true) else none
  | .lst s xs true, .str t => if emptyOr s sz xs ∧ sz = 1 ∧ (xs.length + t.length) * bytes ≤ 140737488355328 then some (.lst sz (xs ++ t.map (.int .u8)) true) else none
  | _, _ => none
theorem VRe_map_int {w : World} {g : Ghost} : ∀ (t : List UInt8), VRe w g 1 ((t.map fun c => (c.toNat : Int)).map (PV.int .u8)) (t.map fun b => Value.int .u8 b.toNat)
  | [] => rfl
  | c :: t => ⟨rfl, rfl, _, _, rfl, rfl, VRe_map_int t⟩
theorem VR_lst_cells {P : Program} {w : World} {g : Ghost} {o own : Bool} {s sz cap : Nat} {xs : List PV} {A : Option Addr} (h : VR o w g (.lst s xs own) (.slice A xs.length cap)) (hs : s = sz ∨ xs.isEmpty = true) :
    ∃ vs, vs.length = xs.length * sz ∧ VRe w g sz xs vs ∧ (∀ u ∈ vs, u.oneCell' = true) ∧ (∀ w' : World, w'.heap = w.heap → ∀ cap', (Builtin.firstCells sz xs.length (.slice A xs.length cap')).run P w' = .ok vs.toArray w') ∧
      (xs = [] ∨ ∃ b off, A = some ⟨b, off, none⟩ ∧ Readable w g b off (xs.length * sz) vs) := by
  obtain ⟨A', cap', e, _, _, hr, _⟩ := h
  cases e
  by_cases hn : xs = []
  · subst hn
    refine ⟨[], by simp, rfl, by simp, fun w' hw' cap' => ?_, .inl rfl⟩
    cases A with
    | none => simp [Builtin.firstCells]
    | some a => simp [Builtin.firstCells, loadCells, loadCellsFrom]
  · have hs' : s = sz := by
      rcases hs with hs | hs
      · exact hs
      · exact absurd (List.isEmpty_iff.1 hs) hn
    subst hs'
    rcases hr with hr | ⟨b, off, vs, rfl, hR, he⟩
    · exact absurd hr hn
    · refine ⟨vs, VRe_length he, he, VRe_oneCell he, fun w' hw' cap' => ?_, .inr ⟨b, off, rfl, hR⟩⟩
      refine run_firstCells_some w' s xs.length _ _ _ vs (VRe_length he) (fun j v hj => ?_)
      rw [addr_add]
      have := hR.cell hj
      unfold World.cell? at this ⊢
      rw [hw']
      exact this
theorem toks_lst {sz : Nat} {xs : List PV} {n cap b off : Nat} (hn : n = xs.length) : toks (.lst sz xs true) (.slice (some ⟨b, off, none⟩) n cap) = if n < cap then [b] else [] := by
  subst hn
  simp [toks]
theorem count_one (b c : Nat) (p : Prop) [Decidable p] : (if p then [b] else []).count c ≤ 1 := by
  split
  · by_cases h : b = c
    · subst h; simp
    · simp [h]
  · simp
/-- The step of an append. -/
theorem app_step {P : Program} {out : List Nat} {t tx ty e : TypeId} {dx : TypeDesc} {i : TypeInfo} {z : Value} (ht : P.underlying t = some (.slice e)) (hx : P.underlying tx = some dx) (hdx : dx = .string ∨ ∃ e2, dx = .slice e2)
    (hi : P.info? e = some i) (hz : i.zero = some z) (hzs : z.cells.size = i.size) (h0 : 0 < i.size) (hby : 1 ≤ i.bytes) {w : World} {g : Ghost} (hw : WRel out w g)
    {s : Nat} {xs ys : List PV} {v x : Value} {news : List Value} {m : Nat} (hv : VR true w g (.lst s xs true) v) (hs : emptyOr s i.size xs) (hm : m = ys.length) (hl : news.length = m * i.size)
    (hlen : ∀ w' : World, (Builtin.lenOf x).run P w' = .ok m w') (hnew : ∀ w' : World, w'.heap = w.heap → (Builtin.firstCells i.size m x).run P w' = .ok news.toArray w') (h1 : ∀ u ∈ news, u.oneCell' = true)
    (hys : ∀ w' g', Evol [] w g w' g' → VRe w' g' i.size ys news) (hb : (xs.length + m) * i.bytes ≤ 140737488355328) :
    ∃ v' w' g', (Builtin.append_ #[t, tx] ty #[v, x]).run P w = .ok v' w' ∧ Step (toks (.lst s xs true) v) w g w' g' (.lst i.size (xs ++ ys) true) v' := by
  have hv0 := hv
  obtain ⟨A, cap, rfl, c1, c2, c3, c4⟩ := hv
  have hs' : s = i.size ∨ xs.isEmpty = true := hs.imp id (fun h => h.2)
  obtain ⟨olds, o1, o2, o3, o4, o5⟩ := VR_lst_cells (P := P) hv0 hs'
  have h63 : xs.length + m ≤ maxLen := by
    have : (xs.length + m) * 1 ≤ (xs.length + m) * i.bytes := Nat.mul_le_mul_left _ hby
    simp only [maxLen]
    omega
  have htail : xs.length < cap → s = i.size ∧ ∃ b c e', A = some ⟨b, 0, none⟩ ∧ w.heap[b]? = some (.cells c e' (0, 0)) ∧ g b = .tail (xs.length * i.size) ∧ cap * i.size ≤ c.size := by
    intro hlt
    obtain ⟨q0, b, c, e', q1, q2, q3, q4⟩ := c4 rfl rfl hlt
    have : s = i.size := by
      rcases hs with hs | hs
      · exact hs
      · omega
    subst this
    exact ⟨rfl, b, c, e', q1, q2, q3, q4⟩
  obtain ⟨v', w', hrun, hways⟩ := append_ways (ty := ty) ht hx hdx hi hz hzs w A xs.length cap m x olds news hl o1 hlen hnew (fun w' hw' => o4 w' hw' cap) h1 c1 c2 h63 hb
    (fun hlt => by obtain ⟨_, b, c, e', q1, q2, _, q4⟩ := htail hlt; exact ⟨b, c, e', q1, q2, q4⟩)
  have hlen2 : (xs ++ ys).length = xs.length + m := by rw [List.length_append, hm]
  rcases hways with ⟨m0, rfl, rfl⟩ | ⟨m0, hroom, b, c, e', rfl, hc, hcs, rfl, rfl⟩ | ⟨cap', rest, k1, k2, k3, rfl, rfl, _, _⟩
  · -- nothing is appended
    have hy0 : ys = [] := List.eq_nil_of_length_eq_zero (by omega)
    subst hy0
    rw [List.append_nil]
    refine ⟨_, _, g, hrun, ?_⟩
    have hVR : VR true w' g (.lst i.size xs true) (.slice A xs.length cap) := by
      refine ⟨A, cap, rfl, c1, c2, ?_, fun _ _ hlt => ?_⟩
      · rcases o5 with o5 | ⟨b, off, o5, o6⟩
        · exact .inl o5
        · exact .inr ⟨b, off, olds, o5, o6, o2⟩
      · obtain ⟨_, b, c, e', q1, q2, q3, q4⟩ := htail hlt
        exact ⟨h0, b, c, e', q1, q2, q3, q4⟩
    have ht : toks (.lst i.size xs true) (.slice A xs.length cap) = toks (.lst s xs true) (.slice A xs.length cap) := by cases A <;> simp [toks]
    rw [← ht]
    refine Step.move hw hVR fun b => ?_
    cases A with
    | none => simp [toks]
    | some a => simp only [toks]; exact count_one _ _ _
  · -- in place
    have hlt : xs.length < cap := by omega
    obtain ⟨hsz, b', c', e'', q1, q2, q3, q4⟩ := htail hlt
    cases q1
    rw [hc] at q2
    cases q2
    have hbl : b < w.heap.size := lt_of_heap hc
    have hcap : (xs.length + m) * i.size ≤ c.size := Nat.le_trans (Nat.mul_le_mul_right _ hroom) hcs
    rw [Nat.add_mul] at hcap
    generalize hcc : (c.toList.take (xs.length * i.size) ++ news ++ c.toList.drop (xs.length * i.size + news.length)).toArray = cc at hrun
    have hccs : cc.size = c.size := by
      rw [← hcc]
      simp only [List.size_toArray, List.length_append, List.length_take, List.length_drop, Array.length_toList]
      omega
    have hnewb : (w.setRow b cc).heap[b]? = some (.cells cc e' (0, 0)) := setRow_heap w b c cc e' _ hc
    have hoth : ∀ k, k ≠ b → (w.setRow b cc).heap[k]? = w.heap[k]? := fun k hk => setRow_other w b k cc hk
    have hsize : (w.setRow b cc).heap.size = w.heap.size := by simp [World.setRow]
    have htk : toks (.lst s xs true) (.slice (some ⟨b, 0, none⟩) xs.length cap) = [b] := by rw [toks_lst rfl, if_pos hlt]
    rw [htk]
    have hccl : cc.toList.take (xs.length * i.size) = c.toList.take (xs.length * i.size) := by
      rw [← hcc]
      simp only [List.append_assoc]
      exact List.take_left' (by have hq : c.toList.length = c.size := rfl; rw [List.length_take]; omega)
    have hS : Step0 [b] w g (w.setRow b cc) (upd g b (.tail ((xs.length + m) * i.size))) := by
      refine ⟨rfl, rfl, rfl, by omega, fun k hk hkb => ?_, fun k hk f c2 e2 fz hf hc2 => ?_, fun k hk => ?_, fun k f hf hd => ?_⟩
      · simp only [List.mem_singleton] at hkb
        exact ⟨hoth k hkb, upd_ne _ _ hkb⟩
      · simp only [List.mem_singleton] at hk
        subst hk
        rw [hc] at hc2
        cases hc2
        rw [q3] at hf
        cases hf
        exact ⟨cc, _, hnewb, hccl, .inr ⟨(xs.length + m) * i.size, by rw [Nat.add_mul]; omega, upd_same _ _ _⟩⟩
      · rw [hsize] at hk
        rw [upd_ne _ _ (by omega)]
        exact hw.fresh k hk
      · by_cases hkb : k = b
        · subst hkb
          rw [upd_same] at hf
          cases hf
          exact ⟨cc, e', hnewb, by rw [Nat.add_mul]; omega⟩
        · rw [upd_ne _ _ hkb] at hf
          obtain ⟨c2, e2, h2, h3⟩ := hw.tl k f hf
          exact ⟨c2, e2, (hoth k hkb).trans h2, h3⟩
    have hE : Evol [] w g (w.setRow b cc) (upd g b (.tail ((xs.length + m) * i.size))) := hS.evol (fun k hk => by simp only [List.mem_singleton] at hk; subst hk; exact ⟨_, q3⟩) (by simp)
    refine ⟨_, _, _, hrun, { hS with rv := ?_, rt := ?_, rs := ?_ }⟩
    · refine ⟨some ⟨b, 0, none⟩, cap, by rw [hlen2], by omega, c2, .inr ⟨b, 0, olds ++ news, rfl, ⟨cc, e', _, hnewb, ?_, ?_, .inr ⟨_, upd_same _ _ _, by rw [hlen2]; omega⟩⟩, ?_⟩, fun _ _ _ => ⟨h0, b, cc, e', rfl, hnewb, by rw [hlen2]; exact upd_same _ _ _, by omega⟩⟩
      · rw [List.drop_zero, ← hcc, hlen2]
        have e1 : c.toList.take (xs.length * i.size) = olds := by
          rcases o5 with o5 | ⟨b2, off, o5, c2, e2, fz, o6, o7, _⟩
          · subst o5
            simp only [List.length_nil, Nat.zero_mul] at o1 ⊢
            rw [List.eq_nil_of_length_eq_zero o1, List.take_zero]
          · cases o5
            rw [hc] at o6
            cases o6
            rw [List.drop_zero] at o7
            exact o7
        rw [e1]
        exact List.take_left' (by rw [List.length_append, o1, hl, Nat.add_mul])
      · rw [List.length_append, o1, hl, hlen2, Nat.add_mul]
      · exact VRe_append (VRe_mono hE _ _ _ o2) (hys _ _ hE)
    · intro k
      rw [toks_lst hlen2.symm]
      exact count_one _ _ _
    · intro k hk
      rw [toks_lst hlen2.symm] at hk
      split at hk
      · exact .inl hk
      · cases hk
  · -- a new row
    have htl : ∀ b ∈ toks (.lst s xs true) (.slice A xs.length cap), ∃ f, g b = .tail f := toks_tail _ _ hv0
    have hsz : (olds.toArray ++ news.toArray ++ rest).size = cap' * i.size := by
      simp only [Array.size_append, List.size_toArray, o1, hl, k3, ← Nat.add_mul]
      congr 1
      omega
    have hfit : (xs.length + m) * i.size ≤ (olds.toArray ++ news.toArray ++ rest).size := by rw [hsz]; exact Nat.mul_le_mul_right _ k1
    have hS : Step0 (toks (.lst s xs true) (.slice A xs.length cap)) w g (w.drew.alloc (.cells (olds.toArray ++ news.toArray ++ rest) e)) (upd g w.heap.size (.tail ((xs.length + m) * i.size))) :=
      Step0.alloc hw rfl rfl rfl rfl (fun b hb => by obtain ⟨f, hf⟩ := htl b hb; exact hw.lt (by rw [hf]; simp)) (fun f hf => by cases hf; exact ⟨rfl, hfit⟩)
    have hE : Evol [] w g _ _ := hS.evol htl (by simp)
    have hnewb : (w.drew.alloc (.cells (olds.toArray ++ news.toArray ++ rest) e)).heap[w.heap.size]? = some (.cells (olds.toArray ++ news.toArray ++ rest) e (0, 0)) := push_new w.drew _
    refine ⟨_, _, _, hrun, { hS with rv := ?_, rt := ?_, rs := ?_ }⟩
    · refine ⟨_, cap', by rw [hlen2], by omega, k2, .inr ⟨w.heap.size, 0, olds ++ news, rfl, ⟨_, e, _, hnewb, ?_, ?_, .inr ⟨_, upd_same _ _ _, by rw [hlen2]; omega⟩⟩, ?_⟩, fun _ _ _ => ⟨h0, w.heap.size, _, e, rfl, hnewb, by rw [hlen2]; exact upd_same _ _ _, by omega⟩⟩
      · rw [List.drop_zero, hlen2]
        simp only [Array.toList_append]
        exact List.take_left' (by rw [List.length_append, o1, hl, Nat.add_mul])
      · rw [List.length_append, o1, hl, hlen2, Nat.add_mul]
      · exact VRe_append (VRe_mono hE _ _ _ o2) (hys _ _ hE)
    · intro k
      rw [toks_lst hlen2.symm]
      exact count_one _ _ _
    · intro k hk
      rw [toks_lst hlen2.symm] at hk
      split at hk
      · simp only [List.mem_singleton] at hk
        exact .inr (by omega)
      · cases hk
theorem appP_run {P : Program} {out : List Nat} {t tx ty e : TypeId} {dx : TypeDesc} {i : TypeInfo} {z : Value} (ht : P.underlying t = some (.slice e)) (hx : P.underlying tx = some dx) (hdx : dx = .string ∨ ∃ e2, dx = .slice e2)
    (hi : P.info? e = some i) (hz : i.zero = some z) (hzs : z.cells.size = i.size) (h0 : 0 < i.size) (hby : 1 ≤ i.bytes) {w : World} {g : Ghost} (hw : WRel out w g)
    {p q r : PV} {v x : Value} (h : appP i.size i.bytes p q = some r) (hv : VR true w g p v) (hxv : VR false w g q x) :
    ∃ v' w' g', (Builtin.append_ #[t, tx] ty #[v, x]).run P w = .ok v' w' ∧ Step (toks p v) w g w' g' r v' := by
  unfold appP at h
  split at h
  · rename_i s xs s2 ys own
    split at h
    · rename_i hc
      obtain ⟨hc1, hc2, hc3⟩ := hc
      cases h
      have hxv0 := hxv
      obtain ⟨A, cap, rfl, _⟩ := hxv
      obtain ⟨news, o1, o2, o3, o4, o5⟩ := VR_lst_cells (P := P) hxv0 hc2
      exact app_step ht hx hdx hi hz hzs h0 hby hw hv hc1 rfl o1 (fun w' => rfl) (fun w' hw' => o4 w' hw' cap) o3 (fun w' g' hE => VRe_mono hE _ _ _ o2) hc3
    · cases h
  · rename_i s xs t
    split at h
    · rename_i hc
      obtain ⟨hc1, hc2, hc3⟩ := hc
      cases h
      obtain ⟨b, rfl, rfl⟩ := hxv
      have hlen : (bytesOf b).length = b.size := bytesOf_length b
      refine app_step ht hx hdx hi hz hzs h0 hby hw hv hc1 (m := b.size) (news := b.data.toList.map fun c => .int .u8 c.toNat) (by simp [hlen]) (by rw [hc2]; simp) (fun w' => rfl) (fun w' hw' => ?_) (fun u hu => ?_) (fun w' g' hE => ?_) (by rw [← hlen]; exact hc3)
      · simp only [Builtin.firstCells, Sem.run_pure]
        congr 1
        have : b.extract 0 b.size = b := by simp
        rw [this]
        apply Array.toList_inj.1
        simp
      · obtain ⟨c, _, rfl⟩ := List.mem_map.1 hu
        rfl
      · rw [hc2]
        exact VRe_map_int b.data.toList
    · cases h
  · cases h
end Go.Proofs.Ytkjibelcaeanjaa.E
