import Derived.Test.YtcdhambknkfhjaaLBase
import Derived.Test.YtcdhambknkfhjaaPAx2
-- the live question of layer 1
namespace Go.Proofs.Ytcdhambknkfhjaa.Pure
open Go.RowKit Go.Proofs.Ytcdhambknkfhjaa.PA Go.Proofs.YtcdhambknkfhjaaW.PrintWords Go.Proofs.YtcdhambknkfhjaaW.PrintLast Go.Proofs.YtcdhambknkfhjaaW.PrintMore
theorem alive_val : threshinglaw01_alive.f 40 = some true := by decide +kernel
theorem alive_ev : Ev (fun k => threshinglaw01_alive.f k) true := Ev.of threshinglaw01_alive.mono alive_val
theorem u8s {l : List Int} (h : ∀ x ∈ l, (Lit.int .u8 x).wf = true) : ∃ m : List Nat, l = ci m ∧ ∀ x ∈ m, x < 256 := to_ci (b := 256) fun x hx => wf_u8 (h x hx)
end Go.Proofs.Ytcdhambknkfhjaa.Pure
