/- Any records as a file of any width, or that they may not be, are as the document says; at most 120 records of 3000 bytes together. Condition: none beyond the row's own. -/
import Derived.Test.YtjbnomkajfmlpaaLFixedWrite
import Derived.Test.YtjbnomkajfmlpaaPAx3
namespace Go.Proofs.Ytjbnomkajfmlpaa.Pure
open Go.RowKit Go.Proofs.Ytjbnomkajfmlpaa.PA Go.Proofs.YtjbnomkajfmlpaaW.PrintWords Go.Proofs.YtjbnomkajfmlpaaW.PrintLast Go.Proofs.YtjbnomkajfmlpaaW.PrintMore
theorem FixedWrite : threshinglaw09_FixedWrite.Pure := by
  intro l a h1 h2 h3 _
  refine Ev.rounds (g := fun k => threshinglaw09_FixedWrite.f k l a) ?_
  simp only [threshinglaw09_FixedWrite.f]
  have hf := few_ev l 120 3000 (by omega) (by omega) (fun x hx => ⟨by have := (h3 x hx).2.1; omega, (h3 x hx).2.2⟩)
  refine Ev.bind hf ?_
  by_cases h : costs l ≤ 3000 ∧ l.length ≤ 120
  · refine Ev.pos (decide_eq_true h) (Ev.bind (write_ev a l (by omega) (by omega)) (Ev.bind (rwrite_ev a l (by omega) (by omega)) (Ev.bind alive_ev (Ev.pos rfl (Ev.pos rfl (Ev.done (by simp)))))))
  · exact Ev.neg (by simpa using h) (Ev.bind alive_ev (Ev.now _))
end Go.Proofs.Ytjbnomkajfmlpaa.Pure
