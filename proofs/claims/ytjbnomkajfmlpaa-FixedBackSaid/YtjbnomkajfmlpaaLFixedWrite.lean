import Derived.Test.YtjbnomkajfmlpaaLFixed
import Derived.Test.YtjbnomkajfmlpaaLFew
import Derived.Test.YtjbnomkajfmlpaaPAx1
import Derived.Test.YtjbnomkajfmlpaaPAx2
-- records of one width, written
set_option linter.unusedVariables false
set_option linter.unusedSimpArgs false
set_option linter.unusedSectionVars false
namespace Go.Proofs.Ytjbnomkajfmlpaa.Pure
open Go.RowKit Go.Proofs.Ytjbnomkajfmlpaa.PA Go.Proofs.YtjbnomkajfmlpaaW.PrintWords Go.Proofs.YtjbnomkajfmlpaaW.PrintLast Go.Proofs.YtjbnomkajfmlpaaW.PrintMore
/-- What is written: the bytes, and whether the records may be. -/
def writeS (a : Int) : List Int → List (List ByteArray) → List Int × Int
  | acc, [] => (acc, 0)
  | acc, x :: l => if x.length = 1 ∧ ((x.getD 0 ByteArray.empty).size : Int) = a then writeS a (acc ++ bytesOf (x.getD 0 ByteArray.empty)) l else ([], 10)
theorem bytesOf_length (s : ByteArray) : (bytesOf s).length = s.size := by
  rw [bytesOf, List.length_map, Array.length_toList]; rfl
theorem cost_one {x : List ByteArray} (h : x.length = 1) : cost x = 1 + (x.getD 0 ByteArray.empty).size := by
  match x, h with
  | [y], _ => simp [cost]
theorem rdOf_zero (x : List ByteArray) : rdOf ByteArray.empty x 0 = x.getD 0 ByteArray.empty := rfl
theorem write_loop (a : Int) (l : List (List ByteArray)) : ∀ (d i : Nat) (acc : List Int), i + d = l.length → acc.length + costs (l.drop i) ≤ 1000000 → l.length ≤ 1000000 →
    Ev (fun k => fixed_Write.l0 k a acc l (l.length : Int) (i : Int)) (writeS a acc (l.drop i)) ∧ Ev (fun k => threshingref09_Write.l0 k l a acc (i : Int)) (writeS a acc (l.drop i))
  | 0, i, acc, hi, hb, hl => by
    rw [List.drop_eq_nil_of_le (by omega)]
    refine ⟨Ev.succ ?_, Ev.succ ?_⟩
    · simp only [fixed_Write.l0]
      exact Ev.neg (by omega) (Ev.now _)
    · simp only [threshingref09_Write.l0]
      exact Ev.neg (by omega) (Ev.now _)
  | d + 1, i, acc, hi, hb, hl => by
    have hil : i < l.length := by omega
    have e : l.drop i = l[i] :: l.drop (i + 1) := List.drop_eq_getElem_cons hil
    rw [e] at hb ⊢
    rw [costs_cons] at hb
    have c0 : (i : Int) < (l.length : Int) := by omega
    have c1 : 0 ≤ (i : Int) := by omega
    unfold writeS
    by_cases h1 : l[i].length = 1
    · have h1' : (l[i].length : Int) = 1 := by omega
      have h0' : 0 < (l[i].length : Int) := by omega
      rw [cost_one h1] at hb
      by_cases h2 : ((l[i].getD 0 ByteArray.empty).size : Int) = a
      · rw [if_pos ⟨h1, h2⟩]
        have hlen := bytesOf_length (l[i].getD 0 ByteArray.empty)
        obtain ⟨p, q⟩ := write_loop a l d (i + 1) (acc ++ bytesOf (l[i].getD 0 ByteArray.empty)) (by omega) (by rw [List.length_append]; omega) hl
        have c2 : acc.length + (l[i].getD 0 ByteArray.empty).size < 140737488355328 := by omega
        refine ⟨Ev.succ ?_, Ev.succ ?_⟩
        · simp only [fixed_Write.l0, rdL1_at l i hil, rdOf_zero]
          rw [w64s i (by omega)]
          exact Ev.pos c0 (Ev.pos c1 (Ev.pos c0 (Ev.pos h1' (Ev.pos h0' (Ev.pos h2 (Ev.pos c2 p))))))
        · simp only [threshingref09_Write.l0, rdL1_at l i hil, rdOf_zero]
          rw [w64s i (by omega)]
          exact Ev.pos c0 (Ev.pos c1 (Ev.pos h1' (Ev.pos h0' (Ev.pos h2 (Ev.pos c2 q)))))
      · rw [if_neg (fun h => h2 h.2)]
        refine ⟨Ev.succ ?_, Ev.succ ?_⟩
        · simp only [fixed_Write.l0, rdL1_at l i hil, rdOf_zero]
          exact Ev.pos c0 (Ev.pos c1 (Ev.pos c0 (Ev.pos h1' (Ev.pos h0' (Ev.neg h2 (Ev.now _))))))
        · simp only [threshingref09_Write.l0, rdL1_at l i hil, rdOf_zero]
          exact Ev.pos c0 (Ev.pos c1 (Ev.pos h1' (Ev.pos h0' (Ev.neg h2 (Ev.now _)))))
    · have h1' : ¬ (l[i].length : Int) = 1 := by omega
      rw [if_neg (fun h => h1 h.1)]
      refine ⟨Ev.succ ?_, Ev.succ ?_⟩
      · simp only [fixed_Write.l0, rdL1_at l i hil, rdOf_zero]
        exact Ev.pos c0 (Ev.pos c1 (Ev.pos c0 (Ev.neg h1' (Ev.now _))))
      · simp only [threshingref09_Write.l0, rdL1_at l i hil, rdOf_zero]
        exact Ev.pos c0 (Ev.pos c1 (Ev.neg h1' (Ev.now _)))
def wrote (a : Int) (l : List (List ByteArray)) : List Int × Int := if isW a then writeS a [] l else ([], 1)
theorem write_ev (a : Int) (l : List (List ByteArray)) (hb : costs l ≤ 1000000) (hl : l.length ≤ 1000000) : Ev (fun k => fixed_Write.f k l a) (wrote a l) := by
  obtain ⟨p, _⟩ := write_loop a l l.length 0 [] (by omega) (by simpa using hb) hl
  simp only [fixed_Write.f, wrote]
  refine Ev.const (isWidth_eq _) ?_
  cases isW a
  · exact Ev.neg (by decide) (Ev.now _)
  · exact Ev.pos rfl p
theorem rwrite_ev (a : Int) (l : List (List ByteArray)) (hb : costs l ≤ 1000000) (hl : l.length ≤ 1000000) : Ev (fun k => threshingref09_Write.f k l a) (wrote a l) := by
  obtain ⟨_, p⟩ := write_loop a l l.length 0 [] (by omega) (by simpa using hb) hl
  simp only [threshingref09_Write.f, wrote]
  refine Ev.const (ris_eq _) ?_
  cases isW a
  · exact Ev.neg (by decide) (Ev.now _)
  · exact Ev.pos rfl p
end Go.Proofs.Ytjbnomkajfmlpaa.Pure
