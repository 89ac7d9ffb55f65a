/- A call, run by the kernel piece by piece. Printed by program. -/
import Derived.Test.YtcaejedfjobooaaClampN1
import Derived.Test.YtcaejedfjobooaaClampN2
namespace Go.Proofs.Ytcaejedfjobooaa
open Go
namespace Ev
set_option maxRecDepth 1000000
theorem ClampN_body : Q.evQ cfgN (Q.callQ cfgN 29) 0 161 none (restP 0 af3.body) ClampN_t0 ClampN_d0 ClampN_h0 0 [] = .ret ClampN_t14 ClampN_d14 ClampN_h14 27 [] := (piece_step (by kernel_rfl) ClampN_p0 (piece_step (by kernel_rfl) ClampN_p1 (piece_step (by kernel_rfl) ClampN_p2 (piece_step (by kernel_rfl) ClampN_p3 (piece_step (by kernel_rfl) ClampN_p4 (piece_step (by kernel_rfl) ClampN_p5 (piece_step (by kernel_rfl) ClampN_p6 (piece_step (by kernel_rfl) ClampN_p7 (piece_step (by kernel_rfl) ClampN_p8 (piece_step (by kernel_rfl) ClampN_p9 (piece_step (by kernel_rfl) ClampN_p10 (piece_step (by kernel_rfl) ClampN_p11 (piece_step (by kernel_rfl) ClampN_p12 ClampN_p13)))))))))))))
theorem ClampN_call : Q.callQ cfgN 30 (.fn (.func 3) [] []) [] (.e Q.cap) 0 = .cret (.bool true) (.e Q.cap) 0 [] := call_run (C := cfgN) (fn := af3) (k := 8) (by kernel_rfl) (by kernel_rfl) (by kernel_rfl) (by kernel_rfl) ClampN_body (by kernel_rfl)
end Ev
end Go.Proofs.Ytcaejedfjobooaa
