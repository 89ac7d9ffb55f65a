/- Pieces of a function, run by the kernel. Printed by program. -/
import Derived.Test.YtcaejedfjobooaaRoadASt
import Derived.Test.YtcaejedfjobooaaEvPiece
import Derived.KernelRfl
namespace Go.Proofs.Ytcaejedfjobooaa
open Go
namespace Ev
set_option maxRecDepth 1000000
theorem RoadA_p4 : Q.evQ cfgA (Q.callT cfgA RoadA_tab 29) 0 127 none (fstP (restP 4 af26.body)) RoadA_t4 RoadA_d4 RoadA_h4 8 [] = .norm RoadA_t5 RoadA_d5 RoadA_h5 10 [] := by kernel_rfl
end Ev
end Go.Proofs.Ytcaejedfjobooaa

namespace Go.Proofs.Ytcaejedfjobooaa
open Go
namespace Ev
set_option maxRecDepth 1000000
theorem RoadA_p0 : Q.evQ cfgA (Q.callT cfgA RoadA_tab 29) 0 127 none (fstP (restP 0 af26.body)) RoadA_t0 RoadA_d0 RoadA_h0 0 [] = .norm RoadA_t1 RoadA_d1 RoadA_h1 0 [] := by kernel_rfl
theorem RoadA_p1 : Q.evQ cfgA (Q.callT cfgA RoadA_tab 29) 0 127 none (fstP (restP 1 af26.body)) RoadA_t1 RoadA_d1 RoadA_h1 0 [] = .norm RoadA_t2 RoadA_d2 RoadA_h2 3 [] := by kernel_rfl
theorem RoadA_p2 : Q.evQ cfgA (Q.callT cfgA RoadA_tab 29) 0 127 none (fstP (restP 2 af26.body)) RoadA_t2 RoadA_d2 RoadA_h2 3 [] = .norm RoadA_t3 RoadA_d3 RoadA_h3 6 [] := by kernel_rfl
theorem RoadA_p3 : Q.evQ cfgA (Q.callT cfgA RoadA_tab 29) 0 127 none (fstP (restP 3 af26.body)) RoadA_t3 RoadA_d3 RoadA_h3 6 [] = .norm RoadA_t4 RoadA_d4 RoadA_h4 8 [] := by kernel_rfl
theorem RoadA_p5 : Q.evQ cfgA (Q.callT cfgA RoadA_tab 29) 0 127 none (fstP (restP 5 af26.body)) RoadA_t5 RoadA_d5 RoadA_h5 10 [] = .norm RoadA_t6 RoadA_d6 RoadA_h6 12 [] := by kernel_rfl
theorem RoadA_p6 : Q.evQ cfgA (Q.callT cfgA RoadA_tab 29) 0 127 none (fstP (restP 6 af26.body)) RoadA_t6 RoadA_d6 RoadA_h6 12 [] = .norm RoadA_t7 RoadA_d7 RoadA_h7 14 [] := by kernel_rfl
theorem RoadA_p7 : Q.evQ cfgA (Q.callT cfgA RoadA_tab 29) 0 127 none (fstP (restP 7 af26.body)) RoadA_t7 RoadA_d7 RoadA_h7 14 [] = .norm RoadA_t8 RoadA_d8 RoadA_h8 16 [] := by kernel_rfl
theorem RoadA_p8 : Q.evQ cfgA (Q.callT cfgA RoadA_tab 29) 0 127 none (fstP (restP 8 af26.body)) RoadA_t8 RoadA_d8 RoadA_h8 16 [] = .norm RoadA_t9 RoadA_d9 RoadA_h9 18 [] := by kernel_rfl
theorem RoadA_p9 : Q.evQ cfgA (Q.callT cfgA RoadA_tab 29) 0 127 none (fstP (restP 9 af26.body)) RoadA_t9 RoadA_d9 RoadA_h9 18 [] = .norm RoadA_t10 RoadA_d10 RoadA_h10 18 [] := by kernel_rfl
theorem RoadA_p10 : Q.evQ cfgA (Q.callT cfgA RoadA_tab 29) 0 127 none (restP 10 af26.body) RoadA_t10 RoadA_d10 RoadA_h10 18 [] = .ret RoadA_t11 RoadA_d11 RoadA_h11 18 [] := by kernel_rfl
end Ev
end Go.Proofs.Ytcaejedfjobooaa

namespace Go.Proofs.Ytcaejedfjobooaa
open Go
namespace Ev
set_option maxRecDepth 1000000
theorem RoadA_body : Q.evQ cfgA (Q.callT cfgA RoadA_tab 29) 0 127 none (restP 0 af26.body) RoadA_t0 RoadA_d0 RoadA_h0 0 [] = .ret RoadA_t11 RoadA_d11 RoadA_h11 18 [] := (piece_step (by kernel_rfl) RoadA_p0 (piece_step (by kernel_rfl) RoadA_p1 (piece_step (by kernel_rfl) RoadA_p2 (piece_step (by kernel_rfl) RoadA_p3 (piece_step (by kernel_rfl) RoadA_p4 (piece_step (by kernel_rfl) RoadA_p5 (piece_step (by kernel_rfl) RoadA_p6 (piece_step (by kernel_rfl) RoadA_p7 (piece_step (by kernel_rfl) RoadA_p8 (piece_step (by kernel_rfl) RoadA_p9 RoadA_p10))))))))))
theorem RoadA_call : Q.enterQ cfgA (Q.callT cfgA RoadA_tab 29) 26 [] (.e Q.cap) 0 = .cret (.bool true) (.e Q.cap) 0 [] := call_runT (C := cfgA) (fn := af26) (k := 7) (by kernel_rfl) (by kernel_rfl) (by kernel_rfl) (by kernel_rfl) RoadA_body (by kernel_rfl)
end Ev
end Go.Proofs.Ytcaejedfjobooaa
