import Derived.Test.YtmpomnnaoggdkaaLVarintEv
import Derived.Test.YtmpomnnaoggdkaaPAx9
-- what the reference of layer 1 answers
set_option linter.unusedVariables false
set_option linter.unusedSimpArgs false
namespace Go.Proofs.Ytmpomnnaoggdkaa.Pure
open Go.RowKit Go.Proofs.Ytmpomnnaoggdkaa.PA Go.Proofs.YtmpomnnaoggdkaaW.PrintWords Go.Proofs.YtmpomnnaoggdkaaW.PrintLast Go.Proofs.YtmpomnnaoggdkaaW.PrintMore
theorem rbytes_loop (n : Nat) : ∀ acc : List Nat, n < 18446744073709551616 → acc.length + (vb n).length < 140737488355328 → Ev (fun k => threshingref01_bytesOf.l0 k (n : Int) (ci acc)) (ci (acc ++ vb n)) := by
  induction n using Nat.strongRecOn with
  | ind n ih =>
    intro acc hn hl
    refine Ev.succ ?_
    simp only [threshingref01_bytesOf.l0, ci_length]
    by_cases h : n < 128
    · rw [vb_small h] at hl ⊢
      refine Ev.neg (by omega) (Ev.pos (by simp at hl; omega) (Ev.done ?_))
      rw [show ((n : Int) % 256) = ((n : Nat) : Int) from by omega, ci_append, ci_cons, ci_nil]
    · rw [vb_big h] at hl ⊢
      rw [List.length_cons] at hl
      refine Ev.pos (by omega) (Ev.pos (by omega) ?_)
      rw [show (128 : Int) = ((128 : Nat) : Int) from rfl, tdiv_nat, tmod_nat, u64wrap, u64wrap]
      rw [show ((((n / 128 : Nat) : Int)) % 18446744073709551616) = ((n / 128 : Nat) : Int) from by omega, show ((((n % 128 : Nat) : Int) + ((128 : Nat) : Int)) % 18446744073709551616 % 256) = ((n % 128 + 128 : Nat) : Int) from by omega]
      have := ih (n / 128) (by omega) (acc ++ [n % 128 + 128]) (by omega) (by rw [List.length_append]; simp; omega)
      rw [ci_append, ci_cons, ci_nil, List.append_assoc, List.singleton_append] at this
      exact this
theorem rbytes_ev (n : Nat) (hn : n < 18446744073709551616) : Ev (fun k => threshingref01_bytesOf.f k (n : Int)) (ci (vb n)) := by
  have h10 := vb_length_le10 hn
  simp only [threshingref01_bytesOf.f]
  exact rbytes_loop n [] hn (by simp; omega)
theorem rput_ev {b : List Nat} (hl : b.length ≤ 140737488351232) (n : Nat) (h : n < 18446744073709551616) : Ev (fun k => threshingref01_Put.f k (ci b) (n : Int)) (ci (b ++ vb n)) := by
  have h10 := vb_length_le10 h
  simp only [threshingref01_Put.f, ci_length, Option.bind_some, List.length_nil, List.nil_append]
  refine Ev.pos (by omega) (Ev.bind (rbytes_ev n h) ?_)
  rw [ci_length, ← ci_append]
  exact Ev.pos (by omega) (Ev.now _)
end Go.Proofs.Ytmpomnnaoggdkaa.Pure
