/- Pieces of a function, run by the kernel. Printed by program. -/
import Derived.Test.YtcaejedfjobooaaClampNSt
import Derived.Test.YtcaejedfjobooaaEvPiece
import Derived.KernelRfl
namespace Go.Proofs.Ytcaejedfjobooaa
open Go
namespace Ev
set_option maxRecDepth 1000000
theorem ClampN_p1 : Q.evQ cfgN (Q.callQ cfgN 29) 0 161 none (fstP (restP 1 af3.body)) ClampN_t1 ClampN_d1 ClampN_h1 0 [] = .norm ClampN_t2 ClampN_d2 ClampN_h2 3 [] := by kernel_rfl
theorem ClampN_p2 : Q.evQ cfgN (Q.callQ cfgN 29) 0 161 none (fstP (restP 2 af3.body)) ClampN_t2 ClampN_d2 ClampN_h2 3 [] = .norm ClampN_t3 ClampN_d3 ClampN_h3 6 [] := by kernel_rfl
theorem ClampN_p6 : Q.evQ cfgN (Q.callQ cfgN 29) 0 161 none (fstP (restP 6 af3.body)) ClampN_t6 ClampN_d6 ClampN_h6 14 [] = .norm ClampN_t7 ClampN_d7 ClampN_h7 16 [] := by kernel_rfl
theorem ClampN_p7 : Q.evQ cfgN (Q.callQ cfgN 29) 0 161 none (fstP (restP 7 af3.body)) ClampN_t7 ClampN_d7 ClampN_h7 16 [] = .norm ClampN_t8 ClampN_d8 ClampN_h8 18 [] := by kernel_rfl
theorem ClampN_p9 : Q.evQ cfgN (Q.callQ cfgN 29) 0 161 none (fstP (restP 9 af3.body)) ClampN_t9 ClampN_d9 ClampN_h9 20 [] = .norm ClampN_t10 ClampN_d10 ClampN_h10 22 [] := by kernel_rfl
theorem ClampN_p10 : Q.evQ cfgN (Q.callQ cfgN 29) 0 161 none (fstP (restP 10 af3.body)) ClampN_t10 ClampN_d10 ClampN_h10 22 [] = .norm ClampN_t11 ClampN_d11 ClampN_h11 24 [] := by kernel_rfl
end Ev
end Go.Proofs.Ytcaejedfjobooaa
