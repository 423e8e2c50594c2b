import Derived.Test.YtjbnomkajfmlpaaLBase
import Derived.Test.YtjbnomkajfmlpaaPAx6
-- rising places by which a file is split
set_option linter.unusedVariables false
set_option linter.unusedSimpArgs false
namespace Go.Proofs.Ytjbnomkajfmlpaa.Pure
open Go.RowKit Go.Proofs.Ytjbnomkajfmlpaa.PA Go.Proofs.YtjbnomkajfmlpaaW.PrintWords Go.Proofs.YtjbnomkajfmlpaaW.PrintLast Go.Proofs.YtjbnomkajfmlpaaW.PrintMore
/-- Rising places, the first of which is 0, all of them below a number. -/
def Rising (A : List Nat) (i : Nat) : Prop := A.head? = some 0 ∧ A.Pairwise (· < ·) ∧ (∀ x ∈ A, x < i) ∧ A.length ≤ i
theorem Rising.snoc {A : List Nat} {i m : Nat} (h : Rising A i) (hm : i < m) : Rising (A ++ [i]) m := by
  obtain ⟨h0, h1, h2, h3⟩ := h
  refine ⟨by cases A with
    | nil => simp at h0
    | cons a A => simpa using h0, List.pairwise_append.2 ⟨h1, List.pairwise_singleton _ _, fun x hx y hy => ?_⟩, fun x hx => ?_, by simp; omega⟩
  · rw [List.mem_singleton] at hy; subst hy; exact h2 x hx
  · rcases List.mem_append.1 hx with hx | hx
    · have := h2 x hx; omega
    · rw [List.mem_singleton] at hx; omega
theorem Rising.more {A : List Nat} {i m : Nat} (h : Rising A i) (hm : i ≤ m) : Rising A m :=
  ⟨h.1, h.2.1, fun x hx => Nat.lt_of_lt_of_le (h.2.2.1 x hx) hm, Nat.le_trans h.2.2.2 hm⟩
/-- The places of a whole file. -/
structure Places (L : List Nat) (n : Nat) : Prop where
  first : L[0]? = some 0
  last : ∃ h : 0 < L.length, L[L.length - 1]'(by omega) = n
  up : ∀ i (h : i + 1 < L.length), L[i]'(by omega) < L[i + 1]
  le : ∀ i (h : i < L.length), L[i] ≤ n
  few : L.length ≤ n + 1
theorem Rising.places {A : List Nat} {n : Nat} (h : Rising A n) (hn : 0 < n) : Places (A ++ [n]) n := by
  have h' := h.snoc (Nat.lt_succ_self n)
  obtain ⟨h0, h1, h2, h3⟩ := h'
  exact ⟨by rw [← List.head?_eq_getElem?]; exact h0, ⟨by simp, by simp⟩, fun i hi => List.pairwise_iff_getElem.1 h1 i (i + 1) (by omega) hi (by omega), fun i hi => Nat.lt_succ_iff.1 (h2 _ (List.getElem_mem _)), h3⟩
theorem places_none : Places [0] 0 := ⟨rfl, ⟨by simp, rfl⟩, fun i h => by simp at h, fun i h => by simp at h; subst h; simp, by simp⟩
theorem cuts_inner (n i : Nat) (cs : List Int) (A : List Nat) (hc : cs.length ≤ 1000000) (hA : A.length ≤ 1000000) (hi : i ≤ 1000000) : ∀ d j : Nat, j + d = cs.length →
    ∃ B, (B = A ∨ B = A ++ [i]) ∧ ∀ r, Ev (fun k => threshingref05_Cuts.l0 k (n : Int) cs (ci B) ((i + 1 : Nat) : Int)) r → Ev (fun k => threshingref05_Cuts.l1 k (n : Int) cs (ci A) (i : Int) (j : Int)) r
  | 0, j, hj => ⟨A, .inl rfl, fun r h => Ev.succ (by
      simp only [threshingref05_Cuts.l1]
      refine Ev.neg (by omega) ?_
      rw [w64s i (by omega)]
      exact h)⟩
  | d + 1, j, hj => by
    by_cases hh : rd cs (j : Int) = (i : Int)
    · refine ⟨A ++ [i], .inr rfl, fun r h => Ev.succ ?_⟩
      simp only [threshingref05_Cuts.l1]
      refine Ev.pos (by omega) (Ev.pos (by omega) (Ev.pos hh (Ev.pos (by rw [ci_length]; omega) ?_)))
      rw [w64s i (by omega)]
      rw [ci_append] at h
      exact h
    · obtain ⟨B, hB, h⟩ := cuts_inner n i cs A hc hA hi d (j + 1) (by omega)
      refine ⟨B, hB, fun r h' => Ev.succ ?_⟩
      simp only [threshingref05_Cuts.l1]
      refine Ev.pos (by omega) (Ev.pos (by omega) (Ev.neg hh ?_))
      rw [w64s j (by omega)]
      exact h r h'
theorem cuts_outer (n : Nat) (cs : List Int) (hc : cs.length ≤ 1000000) (hn : n ≤ 1000000) (hn0 : 0 < n) : ∀ (d i : Nat) (A : List Nat), i + d = n → Rising A i → 
    ∃ L, Places L n ∧ Ev (fun k => threshingref05_Cuts.l0 k (n : Int) cs (ci A) (i : Int)) (ci L)
  | 0, i, A, hi, hA => by
    obtain rfl : i = n := by omega
    have := hA.2.2.2
    refine ⟨A ++ [i], hA.places hn0, Ev.succ ?_⟩
    simp only [threshingref05_Cuts.l0]
    exact Ev.neg (by omega) (Ev.pos (by omega) (Ev.pos (by rw [ci_length]; omega) (Ev.done (by rw [ci_append]; rfl))))
  | d + 1, i, A, hi, hA => by
    have := hA.2.2.2
    obtain ⟨B, hB, h⟩ := cuts_inner n i cs A hc (by omega) (by omega) cs.length 0 (by omega)
    obtain ⟨L, hL, h'⟩ := cuts_outer n cs hc hn hn0 d (i + 1) B (by omega) (by
      rcases hB with rfl | rfl
      · exact hA.more (by omega)
      · exact hA.snoc (by omega))
    refine ⟨L, hL, Ev.succ ?_⟩
    simp only [threshingref05_Cuts.l0]
    exact Ev.pos (by omega) (h _ h')
theorem cuts_ev (n : Nat) (cs : List Int) (hc : cs.length ≤ 1000000) (hn : n ≤ 1000000) :
    ∃ L, Places L n ∧ Ev (fun k => threshingref05_Cuts.f k (n : Int) cs) (ci L) := by
  simp only [threshingref05_Cuts.f]
  by_cases h : n = 0
  · subst h
    refine ⟨[0], places_none, Ev.succ ?_⟩
    simp only [threshingref05_Cuts.l0]
    exact Ev.neg (by omega) (Ev.neg (by omega) (Ev.done rfl))
  · obtain ⟨L, hL, h'⟩ := cuts_outer n cs hc hn (by omega) (n - 1) 1 [0] (by omega) ⟨rfl, by simp, by simp, by simp⟩
    exact ⟨L, hL, h'⟩
theorem Places.rd_at {L : List Nat} {n i : Nat} (h : Places L n) (hi : i < L.length) : rd (ci L) (i : Int) = ((L[i] : Nat) : Int) := by
  rw [rd_ci, List.getD_eq_getElem?_getD, List.getElem?_eq_getElem hi]; rfl
end Go.Proofs.Ytjbnomkajfmlpaa.Pure
