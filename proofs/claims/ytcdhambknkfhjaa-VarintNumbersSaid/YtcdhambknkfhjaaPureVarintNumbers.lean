/- Any number behind any bytes, its size, folded, and unfolded, is as the document says; the bytes stay; at most 3000 bytes. Condition: none beyond the row's own. -/
import Derived.Test.YtcdhambknkfhjaaLVarintEv
import Derived.Test.YtcdhambknkfhjaaLVarintRef
import Derived.Test.YtcdhambknkfhjaaLVarintAlive
import Derived.Test.YtcdhambknkfhjaaPAx3
namespace Go.Proofs.Ytcdhambknkfhjaa.Pure
open Go.RowKit Go.Proofs.Ytcdhambknkfhjaa.PA Go.Proofs.YtcdhambknkfhjaaW.PrintWords Go.Proofs.YtcdhambknkfhjaaW.PrintLast Go.Proofs.YtcdhambknkfhjaaW.PrintMore
theorem numbers_loop {b : List Nat} {n : Nat} (hn : n < 18446744073709551616) {a : Int} (h0 : -9223372036854775808 ≤ a) (h1 : a < 9223372036854775808) (d : Nat) : ∀ (i : Nat) (x : List Int), i + d = x.length → x.length ≤ 140737488355328 →
    Ev (fun k => threshinglaw01_VarintNumbers.l0 k (ci b) (n : Int) a (ci b) x true (i : Int)) true := by
  have h10 := vb_length_le10 hn
  induction d with
  | zero =>
    intro i x hi hx
    refine Ev.succ ?_
    simp only [threshinglaw01_VarintNumbers.l0]
    refine Ev.neg (by omega) (Ev.bind alive_ev (Ev.pos (by simp) (Ev.pos (by simp) (Ev.pos (by simp) (Ev.bind (size_ev n hn) (Ev.bind (rput_ev (b := []) (by simp) n hn) ?_))))))
    rw [ci_length, List.nil_append]
    exact Ev.pos rfl (Ev.const (fold_eq h0 h1) (Ev.const (rfold_eq h0 h1) (Ev.pos rfl (Ev.const (unfold_eq (by omega) (by omega)) (Ev.const (runfold_eq (by omega) (by omega)) (Ev.done (by simp)))))))
  | succ d ih =>
    intro i x hi hx
    refine Ev.succ ?_
    simp only [threshinglaw01_VarintNumbers.l0]
    refine Ev.pos (by omega) (Ev.pos (by omega) ?_)
    rw [w64s i (by omega)]
    exact ih (i + 1) _ (by rw [List.length_set]; omega) (by rw [List.length_set]; omega)
theorem VarintNumbers : threshinglaw01_VarintNumbers.Pure := by
  intro l0 a1 a2 _ _ h0 h1 h2
  obtain ⟨b, rfl, hb⟩ := u8s h0
  obtain ⟨h1a, h1b⟩ := wf_u64 h1
  obtain ⟨h2a, h2b⟩ := wf_i64 h2
  obtain ⟨n, rfl⟩ := Int.eq_ofNat_of_zero_le h1a
  refine Ev.rounds (g := fun k => threshinglaw01_VarintNumbers.f k (ci b) (n : Int) a2) ?_
  have h10 := vb_length_le10 (n := n) (by omega)
  simp only [threshinglaw01_VarintNumbers.f, ci_length, Option.bind_some, List.nil_append, List.length_nil]
  by_cases g0 : (b.length : Int) > 3000
  · exact Ev.pos g0 (Ev.bind alive_ev (Ev.now _))
  refine Ev.neg g0 (Ev.pos (by omega) (Ev.bind (put_ev (by omega) n (by omega)) (Ev.bind (rput_ev (by omega) n (by omega)) ?_)))
  rw [beq_self_eq_true]
  exact numbers_loop (by omega) h2a h2b (b ++ vb n).length 0 _ (by rw [ci_length]; omega) (by rw [ci_length, List.length_append]; omega)
end Go.Proofs.Ytcdhambknkfhjaa.Pure
