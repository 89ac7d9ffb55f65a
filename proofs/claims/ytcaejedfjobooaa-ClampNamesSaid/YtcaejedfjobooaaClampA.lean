/- A call, run by the kernel piece by piece. Printed by program. -/
import Derived.Test.YtcaejedfjobooaaClampA1
import Derived.Test.YtcaejedfjobooaaClampA2
namespace Go.Proofs.Ytcaejedfjobooaa
open Go
namespace Ev
set_option maxRecDepth 1000000
theorem ClampA_body : Q.evQ cfgA (Q.callQ cfgA 29) 0 129 none (restP 0 af14.body) ClampA_t0 ClampA_d0 ClampA_h0 0 [] = .ret ClampA_t11 ClampA_d11 ClampA_h11 20 [] := (piece_step (by kernel_rfl) ClampA_p0 (piece_step (by kernel_rfl) ClampA_p1 (piece_step (by kernel_rfl) ClampA_p2 (piece_step (by kernel_rfl) ClampA_p3 (piece_step (by kernel_rfl) ClampA_p4 (piece_step (by kernel_rfl) ClampA_p5 (piece_step (by kernel_rfl) ClampA_p6 (piece_step (by kernel_rfl) ClampA_p7 (piece_step (by kernel_rfl) ClampA_p8 (piece_step (by kernel_rfl) ClampA_p9 ClampA_p10))))))))))
theorem ClampA_call : Q.callQ cfgA 30 (.fn (.func 14) [] []) [] (.e Q.cap) 0 = .cret (.bool true) (.e Q.cap) 0 [] := call_run (C := cfgA) (fn := af14) (k := 8) (by kernel_rfl) (by kernel_rfl) (by kernel_rfl) (by kernel_rfl) ClampA_body (by kernel_rfl)
end Ev
end Go.Proofs.Ytcaejedfjobooaa
