/- What is taken off any bytes, put again, is the bytes that were taken; at most 3000 bytes. Condition: none beyond the row's own. -/
import Derived.Test.YtcdhambknkfhjaaLVarintFrame
import Derived.Test.YtcdhambknkfhjaaLVarintAlive
import Derived.Test.YtcdhambknkfhjaaPAx8
namespace Go.Proofs.Ytcdhambknkfhjaa.Pure
open Go.RowKit Go.Proofs.Ytcdhambknkfhjaa.PA Go.Proofs.YtcdhambknkfhjaaW.PrintWords Go.Proofs.YtcdhambknkfhjaaW.PrintLast Go.Proofs.YtcdhambknkfhjaaW.PrintMore
theorem VarintOnly : threshinglaw01_VarintOnly.Pure := by
  intro l0 _ _ h0
  obtain ⟨b, rfl, hb⟩ := u8s h0
  refine Ev.rounds (g := fun k => threshinglaw01_VarintOnly.f k (ci b)) ?_
  simp only [threshinglaw01_VarintOnly.f, ci_length]
  by_cases g0 : (b.length : Int) > 3000
  · exact Ev.pos g0 (Ev.bind alive_ev (Ev.now _))
  have hl : b.length ≤ 140737488351232 := by omega
  have hr := vtake_rest (s := b)
  have hp := vframe_rest b 3000
  have hs1 := vframe_size hb 3000
  have hs2 := vframe_size (fun x hx => hb x (hp.2 x hx)) 3000
  have hp2 := vframe_rest (vframe b 3000).2.1 3000
  have out : Ev (fun k => threshinglaw01_VarintOnly.j0 k (ci b) (ci (vpair b 3000).2.2.1) ((vpair b 3000).2.2.2 : Int) false (vpair b 3000).1 (vpair b 3000).2.1) true := by
    refine Ev.succ ?_
    simp only [threshinglaw01_VarintOnly.j0]
    refine Ev.neg (by simp) (Ev.bind alive_ev (Ev.pos (by simp) ?_))
    by_cases h : (vpair b 3000).2.2.2 = 0
    · have e := vpair_ok hb h
      have hlen := congrArg List.length e
      simp only [List.length_append] at hlen
      have f1 : (vpair b 3000).1.size ≤ (frm (vpair b 3000).1).length := by rw [frm, List.length_append, nats_length]; omega
      have f2 : (vpair b 3000).2.1.size ≤ (frm (vpair b 3000).2.1).length := by rw [frm, List.length_append, nats_length]; omega
      refine Ev.pos (by omega) (Ev.bind (pair_ev (b := []) (by simp; omega)) ?_)
      rw [ci_length, ci_length, List.nil_append, List.length_append, ← ci_append, e]
      exact Ev.pos (by omega) (Ev.done (by simp))
    · exact Ev.neg (by omega) (Ev.now _)
  refine Ev.neg g0 (Ev.bind (take_ev hb hl) (Ev.bind (takePair_ev hb hl (by omega) (by omega)) ?_))
  by_cases h : (vtake b).2.2 = 0
  · obtain ⟨e1, e2⟩ := vtake_ok hb h
    have h10 := vb_length_le10 e1
    refine Ev.pos (show ((vtake b).2.2 : Int) = 0 by omega) (Ev.bind (put_ev (b := []) (by simp) _ e1) ?_)
    rw [ci_length, ci_length, List.nil_append, ← ci_append, e2, bne_self_eq_false]
    exact Ev.pos (by omega) out
  · exact Ev.neg (show ¬ ((vtake b).2.2 : Int) = 0 by omega) out
end Go.Proofs.Ytcdhambknkfhjaa.Pure
