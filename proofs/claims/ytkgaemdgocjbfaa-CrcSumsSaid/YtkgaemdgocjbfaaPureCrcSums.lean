/- By any table of at most 300 numbers any register goes on, and any bytes (at most 3000) are summed, sealed and opened, as the document says; the bytes stay. Condition: none beyond the row's own. -/
import Derived.Test.YtkgaemdgocjbfaaLCrcAlive
import Derived.Test.YtkgaemdgocjbfaaLCrcRef
import Derived.Test.YtkgaemdgocjbfaaPAx6
namespace Go.Proofs.Ytkgaemdgocjbfaa.Pure
open Go.RowKit Go.Proofs.Ytkgaemdgocjbfaa.PA Go.Proofs.YtkgaemdgocjbfaaW.PrintWords Go.Proofs.YtkgaemdgocjbfaaW.PrintLast Go.Proofs.YtkgaemdgocjbfaaW.PrintMore
theorem sums_in {t b : List Nat} (ht2 : ∀ x ∈ t, x < 4294967296) (hb : ∀ x ∈ b, x < 256) (hl : b.length ≤ 3000) (c : Nat) (hc : c < 4294967296) :
    Ev (fun k => threshinglaw02_CrcSums.j0 k (ci t) (c : Int) (ci b) false) true := by
  refine Ev.succ ?_
  simp only [threshinglaw02_CrcSums.j0, Option.bind_some, List.nil_append, ci_length, List.length_nil]
  refine Ev.neg (by decide) (Ev.pos (by omega) ?_)
  by_cases h : t.length = 256
  · refine Ev.bind (more_ev h ht2 hb (by omega) c hc) (Ev.bind (rmore_ev h ht2 hb (by omega) c hc) (Ev.bind (sum_ev h ht2 hb (by omega)) (Ev.bind (rsum_ev h ht2 hb (by omega)) (Ev.bind (seal_ev h ht2 hb (by omega)) (Ev.bind (rseal_ev h ht2 hb (by omega)) (Ev.bind (open_ev h ht2 hb (by omega)) (Ev.bind (ropen_ev h ht2 hb (by omega)) (Ev.bind alive_ev ?_))))))))
    refine Ev.pos (by simp) (Ev.pos (by simp) (Ev.pos (by simp) (Ev.pos (by simp) (Ev.pos (by simp) (Ev.pos (by simp) (Ev.pos (by simp) (Ev.pos (by simp) (Ev.pos (by simp) (Ev.done ?_)))))))))
    simp
  · refine Ev.bind (more_bad h _ _) (Ev.bind (rmore_bad h _ _) (Ev.bind (sum_bad h _) (Ev.bind (rsum_bad h _) (Ev.bind (seal_bad h _) (Ev.bind (rseal_bad h _) (Ev.bind (open_bad h _) (Ev.bind (ropen_bad h _) (Ev.bind alive_ev ?_))))))))
    refine Ev.pos (by simp) (Ev.pos (by simp) (Ev.pos (by simp) (Ev.pos (by simp) (Ev.pos (by simp) (Ev.pos (by simp) (Ev.pos (by simp) (Ev.pos (by simp) (Ev.pos (by simp) (Ev.done ?_)))))))))
    simp
theorem CrcSums : threshinglaw02_CrcSums.Pure := by
  intro l0 a1 l2 _ _ h0 h1 _ _ h2
  obtain ⟨t, rfl, ht⟩ := u32s h0
  obtain ⟨b, rfl, hb⟩ := u8s h2
  obtain ⟨h1a, h1b⟩ := wf_u32 h1
  obtain ⟨c, rfl⟩ := Int.eq_ofNat_of_zero_le h1a
  refine Ev.rounds (g := fun k => threshinglaw02_CrcSums.f k (ci t) (c : Int) (ci b)) ?_
  have out : ∀ x y z, Ev (fun k => threshinglaw02_CrcSums.j0 k x y z true) true := by
    intro x y z
    refine Ev.succ ?_
    simp only [threshinglaw02_CrcSums.j0]
    exact Ev.pos (by simp) (Ev.bind alive_ev (Ev.now _))
  simp only [threshinglaw02_CrcSums.f, ci_length]
  by_cases g0 : (t.length : Int) > 300
  · exact Ev.pos g0 (out _ _ _)
  refine Ev.neg g0 ?_
  by_cases g1 : (b.length : Int) > 3000
  · rw [decide_eq_true g1]; exact out _ _ _
  · rw [decide_eq_false g1]; exact sums_in ht hb (by omega) c (by omega)
end Go.Proofs.Ytkgaemdgocjbfaa.Pure
