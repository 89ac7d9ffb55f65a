/- A call, run by the kernel piece by piece. Printed by program. -/
import Derived.Test.YtcaejedfjobooaaRoadN1
import Derived.Test.YtcaejedfjobooaaRoadN2
namespace Go.Proofs.Ytcaejedfjobooaa
open Go
namespace Ev
set_option maxRecDepth 1000000
theorem RoadN_body : Q.evQ cfgN (Q.callQ cfgN 29) 0 139 none (restP 0 af4.body) RoadN_t0 RoadN_d0 RoadN_h0 0 [] = .ret RoadN_t11 RoadN_d11 RoadN_h11 32 [] := (piece_step (by kernel_rfl) RoadN_p0 (piece_step (by kernel_rfl) RoadN_p1 (piece_step (by kernel_rfl) RoadN_p2 (piece_step (by kernel_rfl) RoadN_p3 (piece_step (by kernel_rfl) RoadN_p4 (piece_step (by kernel_rfl) RoadN_p5 (piece_step (by kernel_rfl) RoadN_p6 (piece_step (by kernel_rfl) RoadN_p7 (piece_step (by kernel_rfl) RoadN_p8 (piece_step (by kernel_rfl) RoadN_p9 RoadN_p10))))))))))
theorem RoadN_call : Q.callQ cfgN 30 (.fn (.func 4) [] []) [] (.e Q.cap) 0 = .cret (.bool true) (.e Q.cap) 0 [] := call_run (C := cfgN) (fn := af4) (k := 8) (by kernel_rfl) (by kernel_rfl) (by kernel_rfl) (by kernel_rfl) RoadN_body (by kernel_rfl)
end Ev
end Go.Proofs.Ytcaejedfjobooaa
