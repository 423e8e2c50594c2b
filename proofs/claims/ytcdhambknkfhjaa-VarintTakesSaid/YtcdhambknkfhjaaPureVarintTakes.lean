/- The number, the frame, and the pair that any bytes begin with, or why there is none, and the rest, are as the document says; the bytes stay; at most 3000 bytes. Condition: none beyond the row's own. -/
import Derived.Test.YtcdhambknkfhjaaLVarintFrame
import Derived.Test.YtcdhambknkfhjaaLVarintAlive
import Derived.Test.YtcdhambknkfhjaaPAx7
namespace Go.Proofs.Ytcdhambknkfhjaa.Pure
open Go.RowKit Go.Proofs.Ytcdhambknkfhjaa.PA Go.Proofs.YtcdhambknkfhjaaW.PrintWords Go.Proofs.YtcdhambknkfhjaaW.PrintLast Go.Proofs.YtcdhambknkfhjaaW.PrintMore
theorem takes_loop (b : List Int) (d : Nat) : ∀ (i : Nat) (x : List Int), i + d = x.length → x.length ≤ 140737488355328 → Ev (fun k => threshinglaw01_VarintTakes.l0 k b b x true (i : Int)) true := by
  induction d with
  | zero =>
    intro i x hi hx
    refine Ev.succ ?_
    simp only [threshinglaw01_VarintTakes.l0]
    exact Ev.neg (by omega) (Ev.bind alive_ev (Ev.pos (by simp) (Ev.pos (by simp) (Ev.done (by simp)))))
  | succ d ih =>
    intro i x hi hx
    refine Ev.succ ?_
    simp only [threshinglaw01_VarintTakes.l0]
    refine Ev.pos (by omega) (Ev.pos (by omega) ?_)
    rw [w64s i (by omega)]
    exact ih (i + 1) _ (by rw [List.length_set]; omega) (by rw [List.length_set]; omega)
theorem VarintTakes : threshinglaw01_VarintTakes.Pure := by
  intro l0 a1 _ _ h0 h1
  obtain ⟨b, rfl, hb⟩ := u8s h0
  obtain ⟨h1a, h1b⟩ := wf_i64 h1
  refine Ev.rounds (g := fun k => threshinglaw01_VarintTakes.f k (ci b) a1) ?_
  simp only [threshinglaw01_VarintTakes.f, ci_length, Option.bind_some, List.nil_append, List.length_nil]
  by_cases g0 : (b.length : Int) > 3000
  · exact Ev.pos g0 (Ev.bind alive_ev (Ev.now _))
  have hl : b.length ≤ 140737488351232 := by omega
  have hr := (vtake_rest (s := b)).1
  refine Ev.neg g0 (Ev.pos (by omega) (Ev.bind (take_ev hb hl) (Ev.bind (rtake_ev hb hl) (Ev.bind (takeFrame_ev hb hl h1a h1b) (Ev.bind (rtakeFrame_ev hb hl h1a h1b) (Ev.bind (takePair_ev hb hl h1a h1b) (Ev.bind (rtakePair_ev hb hl h1a h1b) ?_)))))))
  refine Ev.pos (by simp) (Ev.pos (by simp) (Ev.pos (by simp) (Ev.pos (by simp) (Ev.pos (by simp) (Ev.pos (by simp) (Ev.pos (by simp) (Ev.pos (by simp) (Ev.succ ?_))))))))
  simp only [threshinglaw01_VarintTakes.j0, beq_self_eq_true]
  exact takes_loop (ci b) _ 0 _ (Nat.zero_add _) (by rw [ci_length]; omega)
end Go.Proofs.Ytcdhambknkfhjaa.Pure
