import Derived.Test.YtkbdlgohmafglaaLBase
import Derived.Test.YtkbdlgohmafglaaGClone
-- bytes.Clone's answer
namespace Go.Proofs.Ytkbdlgohmafglaa.Pure
open Go.RowKit Go.Proofs.Ytkbdlgohmafglaa.PA Go.Proofs.YtkbdlgohmafglaaW.PrintWords Go.Proofs.YtkbdlgohmafglaaW.PrintLast Go.Proofs.YtkbdlgohmafglaaW.PrintMore
theorem clone_eq (l : List Int) (h : l.length < 140737488355328) : bytes_Clone.f l = some l := by unfold bytes_Clone.f; rw [if_pos h]
end Go.Proofs.Ytkbdlgohmafglaa.Pure
