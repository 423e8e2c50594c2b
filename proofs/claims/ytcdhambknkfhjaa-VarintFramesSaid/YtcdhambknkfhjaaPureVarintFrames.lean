/- Any text, and any pair, behind any bytes is as the document says; at most 3000 bytes each. Condition: none beyond the row's own. -/
import Derived.Test.YtcdhambknkfhjaaLVarintFrame
import Derived.Test.YtcdhambknkfhjaaLVarintAlive
import Derived.Test.YtcdhambknkfhjaaPAx5
import Derived.Test.YtcdhambknkfhjaaPAx4
namespace Go.Proofs.Ytcdhambknkfhjaa.Pure
open Go.RowKit Go.Proofs.Ytcdhambknkfhjaa.PA Go.Proofs.YtcdhambknkfhjaaW.PrintWords Go.Proofs.YtcdhambknkfhjaaW.PrintLast Go.Proofs.YtcdhambknkfhjaaW.PrintMore
theorem rframe_ev {b : List Nat} {s : ByteArray} (h : b.length + s.size ≤ 140737488351232) : Ev (fun k => threshingref01_Frame.f k (ci b) s) (ci (b ++ frm s)) := by
  have h10 := vb_length_le10 (n := s.size) (by omega)
  simp only [threshingref01_Frame.f]
  rw [wu64, Nat.mod_eq_of_lt (by omega)]
  refine Ev.bind (rput_ev (by omega) s.size (by omega)) ?_
  rw [ci_length, List.length_append, bytesOf_nats, ← ci_append, List.append_assoc]
  exact Ev.pos (by omega) (Ev.now _)
theorem rpair_ev {b : List Nat} {s t : ByteArray} (h : b.length + s.size + t.size + 10 ≤ 140737488351232) : Ev (fun k => threshingref01_Pair.f k (ci b) s t) (ci (b ++ frm s ++ frm t)) := by
  have := frm_length s (by omega)
  simp only [threshingref01_Pair.f]
  exact Ev.bind (rframe_ev (by omega)) (Ev.bind (rframe_ev (by rw [List.length_append]; omega)) (Ev.now _))
theorem VarintFrames : threshinglaw01_VarintFrames.Pure := by
  intro l0 s t _ _ h0 _ _
  obtain ⟨b, rfl, hb⟩ := u8s h0
  refine Ev.rounds (g := fun k => threshinglaw01_VarintFrames.f k (ci b) s t) ?_
  have out : ∀ x z u, Ev (fun k => threshinglaw01_VarintFrames.j0 k x true z u) true := by
    intro x z u
    refine Ev.succ ?_
    simp only [threshinglaw01_VarintFrames.j0]
    exact Ev.pos (by simp) (Ev.bind alive_ev (Ev.now _))
  simp only [threshinglaw01_VarintFrames.f, ci_length]
  by_cases g0 : (b.length : Int) > 3000
  · exact Ev.pos g0 (out _ _ _)
  refine Ev.neg g0 ?_
  by_cases g1 : (s.size : Int) > 3000
  · exact Ev.pos g1 (out _ _ _)
  refine Ev.neg g1 ?_
  by_cases g2 : (t.size : Int) > 3000
  · rw [decide_eq_true g2]; exact out _ _ _
  rw [decide_eq_false g2]
  refine Ev.succ ?_
  simp only [threshinglaw01_VarintFrames.j0, Option.bind_some, List.nil_append, List.length_nil, ci_length]
  refine Ev.neg (by simp) (Ev.pos (by omega) (Ev.bind alive_ev (Ev.pos (by simp) (Ev.bind (frame_ev (by omega)) (Ev.bind (rframe_ev (by omega)) (Ev.pos (by simp) (Ev.bind (pair_ev (by omega)) (Ev.bind (rpair_ev (by omega)) (Ev.pos (by simp) (Ev.done (by simp)))))))))))
end Go.Proofs.Ytcdhambknkfhjaa.Pure
