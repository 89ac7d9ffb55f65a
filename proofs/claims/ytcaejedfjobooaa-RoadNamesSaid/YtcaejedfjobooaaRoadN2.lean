/- Pieces of a function, run by the kernel. Printed by program. -/
import Derived.Test.YtcaejedfjobooaaRoadNSt
import Derived.Test.YtcaejedfjobooaaEvPiece
import Derived.KernelRfl
namespace Go.Proofs.Ytcaejedfjobooaa
open Go
namespace Ev
set_option maxRecDepth 1000000
theorem RoadN_p1 : Q.evQ cfgN (Q.callQ cfgN 29) 0 139 none (fstP (restP 1 af4.body)) RoadN_t1 RoadN_d1 RoadN_h1 0 [] = .norm RoadN_t2 RoadN_d2 RoadN_h2 17 [] := by kernel_rfl
theorem RoadN_p2 : Q.evQ cfgN (Q.callQ cfgN 29) 0 139 none (fstP (restP 2 af4.body)) RoadN_t2 RoadN_d2 RoadN_h2 17 [] = .norm RoadN_t3 RoadN_d3 RoadN_h3 20 [] := by kernel_rfl
theorem RoadN_p4 : Q.evQ cfgN (Q.callQ cfgN 29) 0 139 none (fstP (restP 4 af4.body)) RoadN_t4 RoadN_d4 RoadN_h4 22 [] = .norm RoadN_t5 RoadN_d5 RoadN_h5 24 [] := by kernel_rfl
theorem RoadN_p5 : Q.evQ cfgN (Q.callQ cfgN 29) 0 139 none (fstP (restP 5 af4.body)) RoadN_t5 RoadN_d5 RoadN_h5 24 [] = .norm RoadN_t6 RoadN_d6 RoadN_h6 26 [] := by kernel_rfl
theorem RoadN_p7 : Q.evQ cfgN (Q.callQ cfgN 29) 0 139 none (fstP (restP 7 af4.body)) RoadN_t7 RoadN_d7 RoadN_h7 28 [] = .norm RoadN_t8 RoadN_d8 RoadN_h8 30 [] := by kernel_rfl
theorem RoadN_p8 : Q.evQ cfgN (Q.callQ cfgN 29) 0 139 none (fstP (restP 8 af4.body)) RoadN_t8 RoadN_d8 RoadN_h8 30 [] = .norm RoadN_t9 RoadN_d9 RoadN_h9 32 [] := by kernel_rfl
end Ev
end Go.Proofs.Ytcaejedfjobooaa
