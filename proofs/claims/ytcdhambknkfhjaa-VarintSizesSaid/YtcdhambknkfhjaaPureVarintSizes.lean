/- A number has from one to ten bytes, as many as are put; one with fewer bytes is the lesser one; a folded number of a number near 0 is small. Condition: none. -/
import Derived.Test.YtcdhambknkfhjaaLVarintEv
import Derived.Test.YtcdhambknkfhjaaLVarintFold
import Derived.Test.YtcdhambknkfhjaaLVarintAlive
import Derived.Test.YtcdhambknkfhjaaPAx3
namespace Go.Proofs.Ytcdhambknkfhjaa.Pure
open Go.RowKit Go.Proofs.Ytcdhambknkfhjaa.PA Go.Proofs.YtcdhambknkfhjaaW.PrintWords Go.Proofs.YtcdhambknkfhjaaW.PrintLast Go.Proofs.YtcdhambknkfhjaaW.PrintMore
theorem VarintSizes : threshinglaw01_VarintSizes.Pure := by
  intro a0 a1 a2 h0 h1 h2
  obtain ⟨h0a, h0b⟩ := wf_u64 h0
  obtain ⟨h1a, h1b⟩ := wf_u64 h1
  obtain ⟨h2a, h2b⟩ := wf_i64 h2
  obtain ⟨n, rfl⟩ := Int.eq_ofNat_of_zero_le h0a
  obtain ⟨m, rfl⟩ := Int.eq_ofNat_of_zero_le h1a
  refine Ev.rounds (g := fun k => threshinglaw01_VarintSizes.f k (n : Int) (m : Int) a2) ?_
  have h10 := vb_length_le10 (n := n) (by omega)
  have hp := vb_length_pos n
  have out : Ev (fun k => threshinglaw01_VarintSizes.j0 k a2 false) true := by
    refine Ev.succ ?_
    simp only [threshinglaw01_VarintSizes.j0]
    refine Ev.neg (by decide) (Ev.bind alive_ev (Ev.pos rfl ?_))
    by_cases g0 : a2 < -1000
    · exact Ev.pos g0 (Ev.now _)
    refine Ev.neg g0 ?_
    by_cases g1 : a2 > 1000
    · exact Ev.pos g1 (Ev.now _)
    refine Ev.neg g1 (Ev.const (fold_eq h2a h2b) (Ev.done ?_))
    rw [decide_eq_true]
    unfold fold
    split <;> omega
  simp only [threshinglaw01_VarintSizes.f]
  refine Ev.bind (size_ev n (by omega)) (Ev.bind (size_ev m (by omega)) (Ev.neg (by omega) (Ev.neg (by omega) (Ev.bind (put_ev (b := []) (by simp) n (by omega)) ?_))))
  rw [ci_length, List.nil_append]
  refine Ev.pos rfl ?_
  by_cases g2 : (vb n).length < (vb m).length
  · refine Ev.pos (by omega) ?_
    have := vb_length_mono g2
    rw [decide_eq_false (by omega)]
    exact out
  · exact Ev.neg (by omega) out
end Go.Proofs.Ytcdhambknkfhjaa.Pure
