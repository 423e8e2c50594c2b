import Derived.Test.YtmpomnnaoggdkaaLBase
import Derived.Test.YtmpomnnaoggdkaaPAx1
-- records that are few, and short together
set_option linter.unusedVariables false
set_option linter.unusedSimpArgs false
namespace Go.Proofs.Ytmpomnnaoggdkaa.Pure
open Go.RowKit Go.Proofs.Ytmpomnnaoggdkaa.PA Go.Proofs.YtmpomnnaoggdkaaW.PrintWords Go.Proofs.YtmpomnnaoggdkaaW.PrintLast Go.Proofs.YtmpomnnaoggdkaaW.PrintMore
def cost (x : List ByteArray) : Nat := (x.map fun y => 1 + y.size).sum
def costs (l : List (List ByteArray)) : Nat := (l.map cost).sum
theorem cost_cons (y : ByteArray) (x : List ByteArray) : cost (y :: x) = 1 + y.size + cost x := by simp [cost]
theorem costs_cons (x : List ByteArray) (l : List (List ByteArray)) : costs (x :: l) = cost x + costs l := by simp [costs]
theorem rdOf_at {α : Type} (z : α) (x : List α) (i : Nat) (h : i < x.length) : rdOf z x (i : Int) = x[i] := by
  unfold rdOf
  rw [Int.toNat_natCast, List.getD_eq_getElem?_getD, List.getElem?_eq_getElem h]; rfl
theorem rdL1_at (l : List (List ByteArray)) (i : Nat) (h : i < l.length) : rd_L1 l (i : Int) = l[i] := by
  unfold rd_L1
  rw [Int.toNat_natCast, List.getD_eq_getElem?_getD, List.getElem?_eq_getElem h]; rfl
section
variable (l : List (List ByteArray)) (N m : Nat) (hm : m ≤ 1000000000) (hl : l.length ≤ 140737488351232) (hx : ∀ x ∈ l, x.length ≤ 140737488351232 ∧ ∀ y ∈ x, y.size ≤ 140737488351232)
include hm hl hx
theorem few_inner (i : Nat) (hi : i < l.length) : ∀ (d j n : Nat), j + d = l[i].length → n ≤ m →
    (n + cost (l[i].drop j) ≤ m → ∀ r, Ev (fun k => threshingref01_Few.l0 k l (N : Int) (m : Int) ((n + cost (l[i].drop j) : Nat) : Int) ((i + 1 : Nat) : Int)) r → Ev (fun k => threshingref01_Few.l1 k l (N : Int) (m : Int) (n : Int) (i : Int) (j : Int)) r) ∧
    (¬ n + cost (l[i].drop j) ≤ m → Ev (fun k => threshingref01_Few.l1 k l (N : Int) (m : Int) (n : Int) (i : Int) (j : Int)) false)
  | 0, j, n, hj, hn => by
    have e : l[i].drop j = [] := List.drop_eq_nil_of_le (by omega)
    rw [e]
    refine ⟨fun _ r h => Ev.succ ?_, fun h => absurd (show n + cost [] ≤ m by simpa [cost] using hn) h⟩
    simp only [threshingref01_Few.l1, rdL1_at l i hi]
    refine Ev.pos (by omega) (Ev.pos (by omega) (Ev.neg (by omega) ?_))
    rw [w64s i (by omega)]
    simpa [cost] using h
  | d + 1, j, n, hj, hn => by
    have hjl : j < l[i].length := by omega
    have hsz : l[i][j].size ≤ 140737488351232 := (hx _ (List.getElem_mem _)).2 _ (List.getElem_mem _)
    have hxl := (hx _ (List.getElem_mem hi)).1
    have e : l[i].drop j = l[i][j] :: l[i].drop (j + 1) := (List.drop_eq_getElem_cons hjl)
    have ih := few_inner i hi d (j + 1) (n + (1 + l[i][j].size)) (by omega)
    rw [e, cost_cons]
    by_cases hgo : n + (1 + l[i][j].size) ≤ m
    · obtain ⟨ih1, ih2⟩ := ih hgo
      refine ⟨fun h r hr => Ev.succ ?_, fun h => Ev.succ ?_⟩
      all_goals simp only [threshingref01_Few.l1, rdL1_at l i hi, rdOf_at ByteArray.empty l[i] j hjl]
      all_goals
        have c0 : (i : Int) < (l.length : Int) := by omega
        have c1 : (j : Int) < (l[i].length : Int) := by omega
        rw [w64s n (by omega), show wrap64 (((n + 1 : Nat) : Int) + (l[i][j].size : Int)) = ((n + (1 + l[i][j].size) : Nat) : Int) by rw [w64 (by omega) (by omega)]; omega, w64s j (by omega)]
        refine Ev.pos (by omega) (Ev.pos c0 (Ev.pos c1 (Ev.pos (by omega) (Ev.neg (by omega) ?_))))
      · exact ih1 (by omega) r (by rw [Nat.add_assoc]; exact hr)
      · exact ih2 (by omega)
    · refine ⟨fun h => by omega, fun h => Ev.succ ?_⟩
      simp only [threshingref01_Few.l1, rdL1_at l i hi, rdOf_at ByteArray.empty l[i] j hjl]
      have c0 : (i : Int) < (l.length : Int) := by omega
      have c1 : (j : Int) < (l[i].length : Int) := by omega
      rw [w64s n (by omega), show wrap64 (((n + 1 : Nat) : Int) + (l[i][j].size : Int)) = ((n + (1 + l[i][j].size) : Nat) : Int) by rw [w64 (by omega) (by omega)]; omega]
      exact Ev.pos (by omega) (Ev.pos c0 (Ev.pos c1 (Ev.pos (by omega) (Ev.pos (by omega) (Ev.now _)))))
theorem few_outer : ∀ (d i n : Nat), i + d = l.length → n ≤ m → Ev (fun k => threshingref01_Few.l0 k l (N : Int) (m : Int) (n : Int) (i : Int)) (decide (n + costs (l.drop i) ≤ m ∧ l.length ≤ N))
  | 0, i, n, hi, hn => by
    have e : l.drop i = [] := List.drop_eq_nil_of_le (by omega)
    refine Ev.succ ?_
    simp only [threshingref01_Few.l0]
    refine Ev.neg (by omega) (Ev.done ?_)
    rw [e]
    congr 1
    rw [decide_eq_decide]
    simp [costs]
    omega
  | d + 1, i, n, hi, hn => by
    have hil : i < l.length := by omega
    have e : l.drop i = l[i] :: l.drop (i + 1) := (List.drop_eq_getElem_cons hil)
    obtain ⟨h1, h2⟩ := few_inner l N m hm hl hx i hil l[i].length 0 n (by omega) hn
    rw [e, costs_cons]
    refine Ev.succ ?_
    simp only [threshingref01_Few.l0]
    refine Ev.pos (by omega) ?_
    rw [List.drop_zero] at h1 h2
    by_cases hgo : n + cost l[i] ≤ m
    · have ih := few_outer d (i + 1) (n + cost l[i]) (by omega) hgo
      rw [Nat.add_assoc] at ih
      exact h1 hgo _ ih
    · rw [decide_eq_false (by omega)]
      exact h2 hgo
theorem few_ev : Ev (fun k => threshingref01_Few.f k l (N : Int) (m : Int)) (decide (costs l ≤ m ∧ l.length ≤ N)) := by
  have := few_outer l N m hm hl hx l.length 0 0 (by omega) (by omega)
  rw [List.drop_zero, Nat.zero_add] at this
  simp only [threshingref01_Few.f]
  exact this
end
end Go.Proofs.Ytmpomnnaoggdkaa.Pure
