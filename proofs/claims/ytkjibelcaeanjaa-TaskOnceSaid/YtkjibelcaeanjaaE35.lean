/- A logic of plain values, part 35: rows of structs as lists, and back. -/
import Derived.Test.YtkjibelcaeanjaaE34
namespace Go.Proofs.Ytkjibelcaeanjaa.E
open Go Go.RowKit
set_option linter.unusedVariables false
set_option linter.unusedSimpArgs false
/-- Elements of so many cells, that are lent. -/
def Flat (sz : Nat) (xs : List PV) : Prop := ∀ x ∈ xs, lend x = x ∧ ∃ cs, x = .agg cs ∧ cs.length = sz
theorem Flat.map {α : Type} {sz : Nat} {f : α → PV} (h : ∀ a, lend (f a) = f a ∧ ∃ cs, f a = .agg cs ∧ cs.length = sz) (l : List α) : Flat sz (l.map f) := fun x hx => by
  obtain ⟨a, _, rfl⟩ := List.mem_map.1 hx
  exact h a
theorem Flat.len {sz : Nat} : ∀ {xs : List PV}, Flat sz xs → (xs.flatMap cellsOf).length = xs.length * sz
  | [], _ => by simp
  | x :: xs, h => by
    obtain ⟨_, cs, rfl, hc⟩ := h x (List.mem_cons_self ..)
    rw [List.flatMap_cons, List.length_append, Flat.len (fun y hy => h y (List.mem_cons_of_mem _ hy)), List.length_cons, Nat.succ_mul]
    simp only [cellsOf, hc]
    omega
theorem chunk_flat {sz : Nat} (ys : List PV) : ∀ {xs : List PV}, Flat sz xs → chunk sz xs.length (xs.flatMap cellsOf ++ ys) = xs
  | [], _ => rfl
  | x :: xs, h => by
    obtain ⟨_, cs, rfl, hc⟩ := h x (List.mem_cons_self ..)
    rw [List.flatMap_cons, List.length_cons, chunk, List.append_assoc]
    simp only [cellsOf]
    rw [List.take_left' hc, List.drop_left' hc, chunk_flat ys (fun y hy => h y (List.mem_cons_of_mem _ hy))]
theorem lendL_append (xs ys : List PV) : lendL (xs ++ ys) = lendL xs ++ lendL ys := by simp [lendL_eq_map]
theorem lendL_idem (xs : List PV) : lendL (lendL xs) = lendL xs := lendL_lendL xs
theorem Flat.lend {sz : Nat} : ∀ {xs : List PV}, Flat sz xs → lendL (xs.flatMap cellsOf) = xs.flatMap cellsOf
  | [], _ => rfl
  | x :: xs, h => by
    obtain ⟨hl, cs, rfl, hc⟩ := h x (List.mem_cons_self ..)
    rw [List.flatMap_cons, lendL_append, Flat.lend (fun y hy => h y (List.mem_cons_of_mem _ hy))]
    simp only [E.lend, PV.agg.injEq] at hl
    simp only [cellsOf, hl]
theorem take_flat {sz : Nat} {xs : List PV} (h : Flat sz xs) (ys : List PV) : (xs.flatMap cellsOf ++ ys).take (xs.length * sz) = xs.flatMap cellsOf := List.take_left' h.len
theorem rowL_flat {sz : Nat} {xs : List PV} (h : Flat sz xs) (ys : List PV) {cap : Nat} (h1 : xs.length ≤ cap) (h2 : cap ≤ maxLen) : rowL sz true (xs.flatMap cellsOf ++ ys) xs.length cap = some (.lst sz xs false) := by
  unfold rowL
  have hl : xs.length * sz ≤ (xs.flatMap cellsOf ++ ys).length := by rw [List.length_append, h.len]; omega
  rw [if_pos ⟨h1, h2, hl, fun e => by cases e⟩, take_flat h, h.lend]
  have := chunk_flat [] h
  rw [List.append_nil] at this
  simp only [elemsOf, if_true, this]
theorem rowL_of {sz : Nat} {xs cs : List PV} {n cap : Nat} (h : Flat sz xs) (hn : xs.length = n) (h1 : n ≤ cap) (h2 : cap ≤ maxLen) (hl : n * sz ≤ cs.length) (he : lendL (cs.take (n * sz)) = xs.flatMap cellsOf) :
    rowL sz true cs n cap = some (.lst sz xs false) := by
  unfold rowL
  rw [if_pos ⟨h1, h2, hl, fun e => by cases e⟩, he]
  have := chunk_flat [] h
  rw [List.append_nil, hn] at this
  simp only [elemsOf, if_true, this]
theorem cellsY_lst {sz : Nat} {H : Heap} {xs : List PV} {o : Bool} : cellsY sz H (.lst sz xs o) = some (lendL (xs.flatMap cellsOf), xs.length) := by simp [cellsY]
theorem cellsY_flat {sz : Nat} {H : Heap} {xs : List PV} {o : Bool} (h : Flat sz xs) : cellsY sz H (.lst sz xs o) = some (xs.flatMap cellsOf, xs.length) := by simp [cellsY, h.lend]
theorem hget_cons_ne {H : Heap} {b c : Nat} {cs : List PV} (h : hget H b = none) (hc : hget ((c, cs) :: H) b = none) : c ≠ b := by
  intro e
  simp [hget, e] at hc
theorem hget_cons_none {H : Heap} {b c : Nat} {cs : List PV} : hget ((c, cs) :: H) b = none ↔ c ≠ b ∧ hget H b = none := by
  simp only [hget]
  by_cases e : c = b <;> simp [e]
/-- Cells in the midst. -/
theorem mid_get {A B : List PV} {c : PV} {o : Nat} (h : A.length = o) : (A ++ c :: B)[o]? = some c := by
  subst h
  simp
theorem mid_get1 {A B : List PV} {c0 c : PV} {o : Nat} (h : A.length = o) : (A ++ c0 :: c :: B)[o + 1]? = some c := by
  subst h
  simp
theorem mid_get2 {A B : List PV} {c0 c1 c : PV} {o : Nat} (h : A.length = o) : (A ++ c0 :: c1 :: c :: B)[o + 2]? = some c := by
  subst h
  simp
theorem mid_set {A B : List PV} {c v : PV} {o : Nat} (h : A.length = o) : (A ++ c :: B).take o ++ [v] ++ (A ++ c :: B).drop (o + 1) = A ++ v :: B := by
  subst h
  simp
theorem mid_drop {A B : List PV} {c : PV} {o : Nat} (h : A.length = o) : (A ++ c :: B).drop (o + 1) = B := by
  subst h
  simp
theorem frzL_append (b : Nat) (f : Nat → Nat → Option PV) (q : Nat → Option PV) (xs ys : List PV) : frzL b f q (xs ++ ys) = frzL b f q xs ++ frzL b f q ys := by simp [frzL_eq_map]
theorem frzH_id {b : Nat} {f : Nat → Nat → Option PV} {q : Nat → Option PV} {L : List Nat} : ∀ {H : Heap}, hget H b = none → (∀ x ∈ L, hget H x = none) → frzH b f q L H = H
  | [], _, _ => rfl
  | (c, cs) :: H, hb, hx => by
    obtain ⟨h1, h2⟩ := hget_cons_none.1 hb
    have hc : L.contains c = false := by
      cases h : L.contains c with
      | false => rfl
      | true =>
        have := hx c (by simpa using h)
        simp [hget] at this
    simp only [frzH, if_neg h1, hc]
    rw [frzH_id h2 (fun x hm => (hget_cons_none.1 (hx x hm)).2)]
    rfl
def frzA (b : Nat) (f : Nat → Nat → Option PV) (q : Nat → Option PV) : List (Nat × PV) → List (Nat × PV)
  | [] => []
  | (i, x) :: l => (i, frz b f q x) :: frzA b f q l
theorem getS_frzA (b : Nat) (f : Nat → Nat → Option PV) (q : Nat → Option PV) (i : Nat) : ∀ l, getS (frzA b f q l) i = frz b f q (getS l i)
  | [] => rfl
  | (j, x) :: l => by
    simp only [frzA, getS]
    split
    · rfl
    · exact getS_frzA b f q i l
theorem frzL_MS (b : Nat) (f : Nat → Nat → Option PV) (q : Nat → Option PV) (n : Nat) (l : List (Nat × PV)) : frzL b f q (MS n l) = MS n (frzA b f q l) := by
  rw [frzL_eq_map]
  unfold MS
  rw [List.map_map]
  apply List.map_congr_left
  intro i _
  exact (getS_frzA b f q i l).symm
theorem mid_set1 {A B : List PV} {c0 c v : PV} {o : Nat} (h : A.length = o) : (A ++ c0 :: c :: B).take (o + 1) ++ [v] ++ (A ++ c0 :: c :: B).drop (o + 1 + 1) = A ++ c0 :: v :: B := by
  have := mid_set (A := A ++ [c0]) (B := B) (c := c) (v := v) (o := o + 1) (by simp [h])
  simpa using this
theorem mid_set2 {A B : List PV} {c0 c1 c v : PV} {o : Nat} (h : A.length = o) : (A ++ c0 :: c1 :: c :: B).take (o + 2) ++ [v] ++ (A ++ c0 :: c1 :: c :: B).drop (o + 2 + 1) = A ++ c0 :: c1 :: v :: B := by
  have := mid_set (A := A ++ [c0, c1]) (B := B) (c := c) (v := v) (o := o + 2) (by simp [h])
  simpa using this
end Go.Proofs.Ytkjibelcaeanjaa.E
