/- Pieces of a function, run by the kernel. Printed by program. -/
import Derived.Test.YtcaejedfjobooaaClampASt
import Derived.Test.YtcaejedfjobooaaEvPiece
import Derived.KernelRfl
namespace Go.Proofs.Ytcaejedfjobooaa
open Go
namespace Ev
set_option maxRecDepth 1000000
theorem ClampA_p0 : Q.evQ cfgA (Q.callQ cfgA 29) 0 129 none (fstP (restP 0 af14.body)) ClampA_t0 ClampA_d0 ClampA_h0 0 [] = .norm ClampA_t1 ClampA_d1 ClampA_h1 0 [] := by kernel_rfl
theorem ClampA_p2 : Q.evQ cfgA (Q.callQ cfgA 29) 0 129 none (fstP (restP 2 af14.body)) ClampA_t2 ClampA_d2 ClampA_h2 3 [] = .norm ClampA_t3 ClampA_d3 ClampA_h3 6 [] := by kernel_rfl
theorem ClampA_p4 : Q.evQ cfgA (Q.callQ cfgA 29) 0 129 none (fstP (restP 4 af14.body)) ClampA_t4 ClampA_d4 ClampA_h4 9 [] = .norm ClampA_t5 ClampA_d5 ClampA_h5 12 [] := by kernel_rfl
theorem ClampA_p5 : Q.evQ cfgA (Q.callQ cfgA 29) 0 129 none (fstP (restP 5 af14.body)) ClampA_t5 ClampA_d5 ClampA_h5 12 [] = .norm ClampA_t6 ClampA_d6 ClampA_h6 14 [] := by kernel_rfl
theorem ClampA_p6 : Q.evQ cfgA (Q.callQ cfgA 29) 0 129 none (fstP (restP 6 af14.body)) ClampA_t6 ClampA_d6 ClampA_h6 14 [] = .norm ClampA_t7 ClampA_d7 ClampA_h7 16 [] := by kernel_rfl
theorem ClampA_p7 : Q.evQ cfgA (Q.callQ cfgA 29) 0 129 none (fstP (restP 7 af14.body)) ClampA_t7 ClampA_d7 ClampA_h7 16 [] = .norm ClampA_t8 ClampA_d8 ClampA_h8 18 [] := by kernel_rfl
theorem ClampA_p9 : Q.evQ cfgA (Q.callQ cfgA 29) 0 129 none (fstP (restP 9 af14.body)) ClampA_t9 ClampA_d9 ClampA_h9 20 [] = .norm ClampA_t10 ClampA_d10 ClampA_h10 20 [] := by kernel_rfl
theorem ClampA_p10 : Q.evQ cfgA (Q.callQ cfgA 29) 0 129 none (restP 10 af14.body) ClampA_t10 ClampA_d10 ClampA_h10 20 [] = .ret ClampA_t11 ClampA_d11 ClampA_h11 20 [] := by kernel_rfl
end Ev
end Go.Proofs.Ytcaejedfjobooaa
