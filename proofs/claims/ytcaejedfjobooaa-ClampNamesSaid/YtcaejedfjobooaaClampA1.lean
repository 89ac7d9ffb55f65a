/- Pieces of a function, run by the kernel. Printed by program. -/
import Derived.Test.YtcaejedfjobooaaClampASt
import Derived.Test.YtcaejedfjobooaaEvPiece
import Derived.KernelRfl
namespace Go.Proofs.Ytcaejedfjobooaa
open Go
namespace Ev
set_option maxRecDepth 1000000
theorem ClampA_p1 : Q.evQ cfgA (Q.callQ cfgA 29) 0 129 none (fstP (restP 1 af14.body)) ClampA_t1 ClampA_d1 ClampA_h1 0 [] = .norm ClampA_t2 ClampA_d2 ClampA_h2 3 [] := by kernel_rfl
theorem ClampA_p3 : Q.evQ cfgA (Q.callQ cfgA 29) 0 129 none (fstP (restP 3 af14.body)) ClampA_t3 ClampA_d3 ClampA_h3 6 [] = .norm ClampA_t4 ClampA_d4 ClampA_h4 9 [] := by kernel_rfl
theorem ClampA_p8 : Q.evQ cfgA (Q.callQ cfgA 29) 0 129 none (fstP (restP 8 af14.body)) ClampA_t8 ClampA_d8 ClampA_h8 18 [] = .norm ClampA_t9 ClampA_d9 ClampA_h9 20 [] := by kernel_rfl
end Ev
end Go.Proofs.Ytcaejedfjobooaa
