/- Pieces of a function, run by the kernel. Printed by program. -/
import Derived.Test.YtcaejedfjobooaaRoadNSt
import Derived.Test.YtcaejedfjobooaaEvPiece
import Derived.KernelRfl
namespace Go.Proofs.Ytcaejedfjobooaa
open Go
namespace Ev
set_option maxRecDepth 1000000
theorem RoadN_p0 : Q.evQ cfgN (Q.callQ cfgN 29) 0 139 none (fstP (restP 0 af4.body)) RoadN_t0 RoadN_d0 RoadN_h0 0 [] = .norm RoadN_t1 RoadN_d1 RoadN_h1 0 [] := by kernel_rfl
theorem RoadN_p3 : Q.evQ cfgN (Q.callQ cfgN 29) 0 139 none (fstP (restP 3 af4.body)) RoadN_t3 RoadN_d3 RoadN_h3 20 [] = .norm RoadN_t4 RoadN_d4 RoadN_h4 22 [] := by kernel_rfl
theorem RoadN_p6 : Q.evQ cfgN (Q.callQ cfgN 29) 0 139 none (fstP (restP 6 af4.body)) RoadN_t6 RoadN_d6 RoadN_h6 26 [] = .norm RoadN_t7 RoadN_d7 RoadN_h7 28 [] := by kernel_rfl
theorem RoadN_p9 : Q.evQ cfgN (Q.callQ cfgN 29) 0 139 none (fstP (restP 9 af4.body)) RoadN_t9 RoadN_d9 RoadN_h9 32 [] = .norm RoadN_t10 RoadN_d10 RoadN_h10 32 [] := by kernel_rfl
theorem RoadN_p10 : Q.evQ cfgN (Q.callQ cfgN 29) 0 139 none (restP 10 af4.body) RoadN_t10 RoadN_d10 RoadN_h10 32 [] = .ret RoadN_t11 RoadN_d11 RoadN_h11 32 [] := by kernel_rfl
end Ev
end Go.Proofs.Ytcaejedfjobooaa
