/- Pieces of a function, run by the kernel. Printed by program. -/
import Derived.Test.YtcaejedfjobooaaClampNSt
import Derived.Test.YtcaejedfjobooaaEvPiece
import Derived.KernelRfl
namespace Go.Proofs.Ytcaejedfjobooaa
open Go
namespace Ev
set_option maxRecDepth 1000000
theorem ClampN_p0 : Q.evQ cfgN (Q.callQ cfgN 29) 0 161 none (fstP (restP 0 af3.body)) ClampN_t0 ClampN_d0 ClampN_h0 0 [] = .norm ClampN_t1 ClampN_d1 ClampN_h1 0 [] := by kernel_rfl
theorem ClampN_p3 : Q.evQ cfgN (Q.callQ cfgN 29) 0 161 none (fstP (restP 3 af3.body)) ClampN_t3 ClampN_d3 ClampN_h3 6 [] = .norm ClampN_t4 ClampN_d4 ClampN_h4 9 [] := by kernel_rfl
theorem ClampN_p4 : Q.evQ cfgN (Q.callQ cfgN 29) 0 161 none (fstP (restP 4 af3.body)) ClampN_t4 ClampN_d4 ClampN_h4 9 [] = .norm ClampN_t5 ClampN_d5 ClampN_h5 12 [] := by kernel_rfl
theorem ClampN_p5 : Q.evQ cfgN (Q.callQ cfgN 29) 0 161 none (fstP (restP 5 af3.body)) ClampN_t5 ClampN_d5 ClampN_h5 12 [] = .norm ClampN_t6 ClampN_d6 ClampN_h6 14 [] := by kernel_rfl
theorem ClampN_p8 : Q.evQ cfgN (Q.callQ cfgN 29) 0 161 none (fstP (restP 8 af3.body)) ClampN_t8 ClampN_d8 ClampN_h8 18 [] = .norm ClampN_t9 ClampN_d9 ClampN_h9 20 [] := by kernel_rfl
theorem ClampN_p11 : Q.evQ cfgN (Q.callQ cfgN 29) 0 161 none (fstP (restP 11 af3.body)) ClampN_t11 ClampN_d11 ClampN_h11 24 [] = .norm ClampN_t12 ClampN_d12 ClampN_h12 27 [] := by kernel_rfl
theorem ClampN_p12 : Q.evQ cfgN (Q.callQ cfgN 29) 0 161 none (fstP (restP 12 af3.body)) ClampN_t12 ClampN_d12 ClampN_h12 27 [] = .norm ClampN_t13 ClampN_d13 ClampN_h13 27 [] := by kernel_rfl
theorem ClampN_p13 : Q.evQ cfgN (Q.callQ cfgN 29) 0 161 none (restP 13 af3.body) ClampN_t13 ClampN_d13 ClampN_h13 27 [] = .ret ClampN_t14 ClampN_d14 ClampN_h14 27 [] := by kernel_rfl
end Ev
end Go.Proofs.Ytcaejedfjobooaa
