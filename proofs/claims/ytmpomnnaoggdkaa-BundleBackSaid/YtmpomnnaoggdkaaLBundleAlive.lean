import Derived.Test.YtmpomnnaoggdkaaLBase
import Derived.Test.YtmpomnnaoggdkaaPAx8
-- the live question of the chapter
namespace Go.Proofs.Ytmpomnnaoggdkaa.Pure
open Go.RowKit Go.Proofs.Ytmpomnnaoggdkaa.PA Go.Proofs.YtmpomnnaoggdkaaW.PrintWords Go.Proofs.YtmpomnnaoggdkaaW.PrintLast Go.Proofs.YtmpomnnaoggdkaaW.PrintMore
theorem alive_val : threshinglaw10_alive.f 3000 = some true := by decide +kernel
theorem alive_ev : Ev (fun k => threshinglaw10_alive.f k) true := Ev.of threshinglaw10_alive.mono alive_val
end Go.Proofs.Ytmpomnnaoggdkaa.Pure
