/- The right part of any file of any width, what is left, and whether it is canonical, are as the document says; the file stays; at most 3000 bytes. Condition: none beyond the row's own. -/
import Derived.Test.YtjbnomkajfmlpaaLFixed
import Derived.Test.YtjbnomkajfmlpaaLRecs
import Derived.Test.YtjbnomkajfmlpaaPAx4
namespace Go.Proofs.Ytjbnomkajfmlpaa.Pure
open Go.RowKit Go.Proofs.Ytjbnomkajfmlpaa.PA Go.Proofs.YtjbnomkajfmlpaaW.PrintWords Go.Proofs.YtjbnomkajfmlpaaW.PrintLast Go.Proofs.YtjbnomkajfmlpaaW.PrintMore
theorem pcs_small (b : List Int) (w n : Nat) : ∀ x ∈ pcs b w n, smallP x := by
  intro x hx
  obtain ⟨i, _, rfl⟩ := List.mem_map.1 hx
  refine ⟨by simp [pc], fun y hy => ?_⟩
  simp only [pc, List.mem_singleton] at hy
  subst hy
  simp
theorem FixedScan : threshinglaw09_FixedScan.Pure := by
  intro b a _ _ _ _
  refine Ev.rounds (g := fun k => threshinglaw09_FixedScan.f k b a) ?_
  simp only [threshinglaw09_FixedScan.f, Option.bind_some, List.nil_append, List.length_nil]
  by_cases g0 : (b.length : Int) > 3000
  · exact Ev.pos g0 (Ev.bind alive_ev (Ev.now _))
  refine Ev.neg g0 (Ev.pos (by omega) ?_)
  have hl : b.length ≤ 1000000 := by omega
  cases hw : isW a with
  | false =>
    refine Ev.bind (scan_bad b hw) (Ev.bind (rscan_bad b hw) (Ev.bind alive_ev (Ev.pos rfl (Ev.bind (pieces_ev _ (by simp) (by simp)) (Ev.pos rfl (Ev.pos rfl (Ev.pos rfl (Ev.const (canon_bad b hw) (Ev.pos (by decide) (Ev.done (by simp)))))))))))
  | true =>
    obtain ⟨w, rfl, h1, h2⟩ := isW_nat hw
    have hq : b.length / w ≤ b.length := Nat.div_le_self _ _
    refine Ev.bind (scan_ev hl h1 h2) (Ev.bind (rscan_ev hl h1 h2) (Ev.bind alive_ev (Ev.pos rfl (Ev.bind (pieces_ev _ (by simp [pcs]; omega) (pcs_small b w _)) (Ev.pos rfl (Ev.pos rfl (Ev.pos rfl (Ev.const (canon_eq hl h1 h2) (Ev.pos ?_ (Ev.done (by simp)))))))))))
    have hg := good_le (b := b) h1
    unfold short
    by_cases h : b.length / w * w < b.length
    · rw [if_pos h, decide_eq_false (by omega)]; rfl
    · rw [if_neg h, decide_eq_true (by omega)]; rfl
end Go.Proofs.Ytjbnomkajfmlpaa.Pure
