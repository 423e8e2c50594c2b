/- Any records as a bundle, or that they may not be, are as the document says; at most 120 records of 3000 bytes together. Condition: none beyond the row's own. -/
import Derived.Test.YtmpomnnaoggdkaaLBundleRef
import Derived.Test.YtmpomnnaoggdkaaLBundleAlive
import Derived.Test.YtmpomnnaoggdkaaPAx11
namespace Go.Proofs.Ytmpomnnaoggdkaa.Pure
open Go.RowKit Go.Proofs.Ytmpomnnaoggdkaa.PA Go.Proofs.YtmpomnnaoggdkaaW.PrintWords Go.Proofs.YtmpomnnaoggdkaaW.PrintLast Go.Proofs.YtmpomnnaoggdkaaW.PrintMore
theorem BundleWrite : threshinglaw10_BundleWrite.Pure := by
  intro l h1 h2 h3
  refine Ev.rounds (g := fun k => threshinglaw10_BundleWrite.f k l) ?_
  simp only [threshinglaw10_BundleWrite.f]
  have hf := few_ev l 120 3000 (by omega) (by omega) (fun x hx => ⟨by have := (h3 x hx).2.1; omega, (h3 x hx).2.2⟩)
  refine Ev.bind hf ?_
  by_cases h : costs l ≤ 3000 ∧ l.length ≤ 120
  · refine Ev.pos (decide_eq_true h) (Ev.bind (bwrite_ev l (by omega)) (Ev.bind (rbwrite_ev l (by omega)) (Ev.bind alive_ev (Ev.pos rfl (Ev.pos rfl (Ev.done (by simp)))))))
  · exact Ev.neg (by simpa using h) (Ev.bind alive_ev (Ev.now _))
end Go.Proofs.Ytmpomnnaoggdkaa.Pure
