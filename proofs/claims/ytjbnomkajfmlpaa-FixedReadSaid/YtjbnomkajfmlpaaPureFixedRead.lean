/- A split of any file of any width is as the document says; at most 3000 bytes. Condition: none beyond the row's own. -/
import Derived.Test.YtjbnomkajfmlpaaLFixedRead
import Derived.Test.YtjbnomkajfmlpaaLRecs
import Derived.Test.YtjbnomkajfmlpaaPAx5
namespace Go.Proofs.Ytjbnomkajfmlpaa.Pure
open Go.RowKit Go.Proofs.Ytjbnomkajfmlpaa.PA Go.Proofs.YtjbnomkajfmlpaaW.PrintWords Go.Proofs.YtjbnomkajfmlpaaW.PrintLast Go.Proofs.YtjbnomkajfmlpaaW.PrintMore
theorem FixedRead : threshinglaw09_FixedRead.Pure := by
  intro b p q a _ _ _ _ _ _
  refine Ev.rounds (g := fun k => threshinglaw09_FixedRead.f k b p q a) ?_
  simp only [threshinglaw09_FixedRead.f]
  by_cases g0 : (b.length : Int) > 3000
  · exact Ev.pos g0 (Ev.bind alive_ev (Ev.now _))
  refine Ev.neg g0 ?_
  have hl : b.length ≤ 1000000 := by omega
  by_cases hb : isW a = false ∨ p < 0 ∨ p > q ∨ q > (b.length : Int)
  · exact Ev.bind (read_bad b hb) (Ev.bind (rread_bad b hb) (Ev.bind alive_ev (Ev.pos rfl (Ev.bind (recs_ev _ (by simp) (by simp)) (Ev.pos rfl (Ev.done rfl))))))
  · obtain ⟨h1, h2, h3, h4⟩ : isW a = true ∧ 0 ≤ p ∧ p ≤ q ∧ q ≤ (b.length : Int) := ⟨by revert hb; cases isW a <;> simp, by omega, by omega, by omega⟩
    obtain ⟨w, rfl, hw1, hw2⟩ := isW_nat h1
    obtain ⟨p, rfl⟩ := Int.eq_ofNat_of_zero_le h2
    obtain ⟨q, rfl⟩ := Int.eq_ofNat_of_zero_le (show 0 ≤ q by omega)
    refine Ev.bind (read_ev hl hw1 hw2 (p := p) (q := q) (by omega) (by omega)) (Ev.bind (rread_ev hl hw1 hw2 (p := p) (q := q) (by omega) (by omega)) (Ev.bind alive_ev (Ev.pos rfl (Ev.bind (recs_ev _ (sel_len hl hw1 hw2 _ _) (sel_small b w _ _)) (Ev.pos rfl (Ev.done (by simp)))))))
end Go.Proofs.Ytjbnomkajfmlpaa.Pure
