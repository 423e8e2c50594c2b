import Derived.Test.YtkgaemdgocjbfaaLCrc
import Derived.Test.YtkgaemdgocjbfaaPAx1
namespace Go.Proofs.Ytkgaemdgocjbfaa.Pure
open Go.RowKit Go.Proofs.Ytkgaemdgocjbfaa.PA Go.Proofs.YtkgaemdgocjbfaaW.PrintWords Go.Proofs.YtkgaemdgocjbfaaW.PrintLast Go.Proofs.YtkgaemdgocjbfaaW.PrintMore
theorem alive_val : threshinglaw02_alive.f 3000 = some true := by decide +kernel
theorem alive_ev : Ev (fun k => threshinglaw02_alive.f k) true := Ev.of threshinglaw02_alive.mono alive_val
theorem u8s {l : List Int} (h : ∀ x ∈ l, (Lit.int .u8 x).wf = true) : ∃ m : List Nat, l = ci m ∧ ∀ x ∈ m, x < 256 := to_ci (fun x hx => wf_u8 (h x hx))
theorem u32s {l : List Int} (h : ∀ x ∈ l, (Lit.int .u32 x).wf = true) : ∃ m : List Nat, l = ci m ∧ ∀ x ∈ m, x < 4294967296 := to_ci (fun x hx => wf_u32 (h x hx))
end Go.Proofs.Ytkgaemdgocjbfaa.Pure
