import Derived.Test.YtmpomnnaoggdkaaLCrcSeal
import Derived.Test.YtmpomnnaoggdkaaPAx9
-- what the reference of crc answers: the same
set_option linter.unusedVariables false
set_option linter.unusedSimpArgs false
namespace Go.Proofs.Ytmpomnnaoggdkaa.Pure
open Go.RowKit Go.Proofs.Ytmpomnnaoggdkaa.PA Go.Proofs.YtmpomnnaoggdkaaW.PrintWords Go.Proofs.YtmpomnnaoggdkaaW.PrintLast Go.Proofs.YtmpomnnaoggdkaaW.PrintMore
theorem rfour_eq (c : Nat) (hc : c < 4294967296) : threshingref02_Four.f (c : Int) = some (ci (four c)) := by
  unfold threshingref02_Four.f four
  rw [show (256 : Int) = ((256 : Nat) : Int) from rfl, show (65536 : Int) = ((65536 : Nat) : Int) from rfl, show (16777216 : Int) = ((16777216 : Nat) : Int) from rfl, tdiv_nat, tdiv_nat, tdiv_nat]
  simp only [ci_cons, ci_nil]
  congr 1
  simp only [List.cons.injEq, and_true]
  refine ⟨?_, ?_, ?_, ?_⟩ <;> omega
end Go.Proofs.Ytmpomnnaoggdkaa.Pure
