import Derived.Test.YtkbdlgohmafglaaLBase
import Derived.Test.YtkbdlgohmafglaaPAx2
-- slices.Concat of rows of bytes
set_option linter.unusedVariables false
set_option linter.unusedSimpArgs false
namespace Go.Proofs.Ytkbdlgohmafglaa.Pure
open Go.RowKit Go.Proofs.Ytkbdlgohmafglaa.PA Go.Proofs.YtkbdlgohmafglaaW.PrintWords Go.Proofs.YtkbdlgohmafglaaW.PrintLast Go.Proofs.YtkbdlgohmafglaaW.PrintMore
theorem rdl_at (L : List (List Int)) (i : Nat) : rd_L2 L (i : Int) = L.getD i [] := by simp [rd_L2]
theorem flat_succ (L : List (List Int)) (i : Nat) (h : i < L.length) : (L.take (i + 1)).flatten = (L.take i).flatten ++ L.getD i [] := by
  rw [List.take_succ_eq_append_getElem h, List.flatten_append, List.getD_eq_getElem?_getD, List.getElem?_eq_getElem h]; simp
theorem flat_le (L : List (List Int)) (i : Nat) : (L.take i).flatten.length ≤ L.flatten.length := by
  conv => rhs; rw [← List.take_append_drop i L]
  rw [List.flatten_append, List.length_append]; omega
theorem concat_l1 {L : List (List Int)} (hl : L.length < 140737488355328) (hs : L.flatten.length < 140737488355328) (d : Nat) :
    ∀ i, i + d = L.length → Ev (fun k => slices_Concat_byte_byte.l1 k (L.take i).flatten L (L.length : Int) (i : Int)) L.flatten := by
  induction d with
  | zero =>
    intro i hi
    refine Ev.succ ?_
    simp only [slices_Concat_byte_byte.l1]
    rw [List.take_of_length_le (by omega)]
    exact Ev.neg (by omega) (Ev.now _)
  | succ d ih =>
    intro i hi
    have h2 := flat_le L (i + 1)
    rw [flat_succ L i (by omega), List.length_append] at h2
    have e := ih (i + 1) (by omega)
    rw [flat_succ L i (by omega)] at e
    refine Ev.succ ?_
    simp only [slices_Concat_byte_byte.l1, rdl_at]
    rw [w64s i (by omega)]
    exact Ev.pos (by omega) (Ev.pos (by omega) (Ev.pos (by omega) (Ev.pos (by omega) e)))
theorem concat_l0 {L : List (List Int)} (hl : L.length < 140737488355328) (hs : L.flatten.length < 140737488355328) (d : Nat) :
    ∀ i, i + d = L.length → Ev (fun k => slices_Concat_byte_byte.l0 k L ((L.take i).flatten.length : Int) L (L.length : Int) (i : Int)) L.flatten := by
  induction d with
  | zero =>
    intro i hi
    refine Ev.succ ?_
    simp only [slices_Concat_byte_byte.l0]
    rw [List.take_of_length_le (by omega)]
    refine Ev.neg (by omega) (Ev.pos (by omega) (Ev.pos (by omega) ?_))
    simpa using concat_l1 hl hs L.length 0 (by omega)
  | succ d ih =>
    intro i hi
    have h2 := flat_le L (i + 1)
    have h3 := flat_succ L i (by omega)
    rw [h3, List.length_append] at h2
    have e := ih (i + 1) (by omega)
    rw [h3, List.length_append] at e
    have ew : wrap64 (((L.take i).flatten.length : Int) + ((L.getD i []).length : Int)) = (((L.take i).flatten.length + (L.getD i []).length : Nat) : Int) := by rw [w64 (by omega) (by omega)]; omega
    refine Ev.succ ?_
    simp only [slices_Concat_byte_byte.l0, rdl_at]
    rw [ew, w64s i (by omega)]
    exact Ev.pos (by omega) (Ev.pos (by omega) (Ev.pos (by omega) (Ev.neg (by omega) e)))
theorem concat_ev (L : List (List Int)) (hl : L.length < 140737488355328) (hs : L.flatten.length < 140737488355328) : Ev (fun k => slices_Concat_byte_byte.f k L) L.flatten := by
  simp only [slices_Concat_byte_byte.f]
  simpa using concat_l0 hl hs L.length 0 (by omega)
end Go.Proofs.Ytkbdlgohmafglaa.Pure
