import Derived.Test.YtmpomnnaoggdkaaLText
import Derived.Test.YtmpomnnaoggdkaaPAx12
-- rows of texts, records and pieces that are alike
set_option linter.unusedVariables false
set_option linter.unusedSimpArgs false
namespace Go.Proofs.Ytmpomnnaoggdkaa.Pure
open Go.RowKit Go.Proofs.Ytmpomnnaoggdkaa.PA Go.Proofs.YtmpomnnaoggdkaaW.PrintWords Go.Proofs.YtmpomnnaoggdkaaW.PrintLast Go.Proofs.YtmpomnnaoggdkaaW.PrintMore
theorem strings_loop (a : List ByteArray) (hl : a.length ≤ 9000000000000000000) (d : Nat) : ∀ i : Nat, i + d = a.length → Ev (fun k => threshingref01_Strings.l0 k a a (i : Int)) true := by
  induction d with
  | zero =>
    intro i hi
    refine Ev.succ ?_
    simp only [threshingref01_Strings.l0]
    exact Ev.neg (by omega) (Ev.now _)
  | succ d ih =>
    intro i hi
    refine Ev.succ ?_
    simp only [threshingref01_Strings.l0]
    refine Ev.pos (by omega) (Ev.pos (by omega) (Ev.pos (by omega) (Ev.pos (by simp) ?_)))
    rw [w64s i (by omega)]
    exact ih (i + 1) (by omega)
theorem strings_ev (a : List ByteArray) (hl : a.length ≤ 9000000000000000000) : Ev (fun k => threshingref01_Strings.f k a a) true := by
  simp only [threshingref01_Strings.f]
  exact Ev.pos (by simp) (strings_loop a hl a.length 0 (by omega))
theorem recs_loop (a : List (List ByteArray)) (hl : a.length ≤ 9000000000000000000) (hi : ∀ x ∈ a, x.length ≤ 9000000000000000000) (d : Nat) : ∀ i : Nat, i + d = a.length → Ev (fun k => threshingref01_Recs.l0 k a a (i : Int)) true := by
  induction d with
  | zero =>
    intro i hi
    refine Ev.succ ?_
    simp only [threshingref01_Recs.l0]
    exact Ev.neg (by omega) (Ev.now _)
  | succ d ih =>
    intro i hid
    refine Ev.succ ?_
    simp only [threshingref01_Recs.l0]
    have hx : (rd_L1 a (i : Int)).length ≤ 9000000000000000000 := by
      unfold rd_L1
      rw [Int.toNat_natCast, List.getD_eq_getElem?_getD, List.getElem?_eq_getElem (by omega)]
      exact hi _ (List.getElem_mem _)
    refine Ev.pos (by omega) (Ev.pos (by omega) (Ev.pos (by omega) (Ev.bind (strings_ev _ hx) (Ev.pos rfl ?_))))
    rw [w64s i (by omega)]
    exact ih (i + 1) (by omega)
theorem recs_ev (a : List (List ByteArray)) (hl : a.length ≤ 9000000000000000000) (hi : ∀ x ∈ a, x.length ≤ 9000000000000000000) : Ev (fun k => threshingref01_Recs.f k a a) true := by
  simp only [threshingref01_Recs.f]
  exact Ev.pos (by simp) (recs_loop a hl hi a.length 0 (by omega))
end Go.Proofs.Ytmpomnnaoggdkaa.Pure
