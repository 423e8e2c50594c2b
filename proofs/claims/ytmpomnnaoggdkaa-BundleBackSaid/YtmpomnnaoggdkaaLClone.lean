import Derived.Test.YtmpomnnaoggdkaaLBase
import Derived.Test.YtmpomnnaoggdkaaGClone
-- bytes.Clone's answer
namespace Go.Proofs.Ytmpomnnaoggdkaa.Pure
open Go.RowKit Go.Proofs.Ytmpomnnaoggdkaa.PA Go.Proofs.YtmpomnnaoggdkaaW.PrintWords Go.Proofs.YtmpomnnaoggdkaaW.PrintLast Go.Proofs.YtmpomnnaoggdkaaW.PrintMore
theorem clone_eq (l : List Int) (h : l.length < 140737488355328) : bytes_Clone.f l = some l := by unfold bytes_Clone.f; rw [if_pos h]
end Go.Proofs.Ytmpomnnaoggdkaa.Pure
