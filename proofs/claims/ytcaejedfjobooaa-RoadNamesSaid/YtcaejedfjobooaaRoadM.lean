/- A call that is made again and again. Printed by program. -/
import Derived.Test.YtcaejedfjobooaaRoadMT
import Derived.KernelRfl
namespace Go.Proofs.Ytcaejedfjobooaa
open Go
namespace Ev
set_option maxRecDepth 1000000
theorem RoadM_c0 (a b : AC) : Q.callQ cfgA 25 (.fn (.func 100) [] [(.ptr 15 0)]) RoadM_r0.args (RoadM_hp (RoadM_r0.loop a b)) 22 = .cret RoadM_r0.v (RoadM_hp (RoadM_r0.loop a b)) 22 [] := by kernel_rfl
theorem RoadM_c4 (a b : AC) : Q.callQ cfgA 25 (.fn (.func 100) [] [(.ptr 15 0)]) RoadM_r4.args (RoadM_hp (RoadM_r4.loop a b)) 22 = .cret RoadM_r4.v (RoadM_hp (RoadM_r4.loop a b)) 22 [] := by kernel_rfl
theorem RoadM_c8 (a b : AC) : Q.callQ cfgA 25 (.fn (.func 100) [] [(.ptr 15 0)]) RoadM_r8.args (RoadM_hp (RoadM_r8.loop a b)) 22 = .cret RoadM_r8.v (RoadM_hp (RoadM_r8.loop a b)) 22 [] := by kernel_rfl
theorem RoadM_c12 (a b : AC) : Q.callQ cfgA 25 (.fn (.func 100) [] [(.ptr 15 0)]) RoadM_r12.args (RoadM_hp (RoadM_r12.loop a b)) 22 = .cret RoadM_r12.v (RoadM_hp (RoadM_r12.loop a b)) 22 [] := by kernel_rfl
theorem RoadM_c16 (a b : AC) : Q.callQ cfgA 25 (.fn (.func 100) [] [(.ptr 15 0)]) RoadM_r16.args (RoadM_hp (RoadM_r16.loop a b)) 22 = .cret RoadM_r16.v (RoadM_hp (RoadM_r16.loop a b)) 22 [] := by kernel_rfl
theorem RoadM_c20 (a b : AC) : Q.callQ cfgA 25 (.fn (.func 100) [] [(.ptr 15 0)]) RoadM_r20.args (RoadM_hp (RoadM_r20.loop a b)) 22 = .cret RoadM_r20.v (RoadM_hp (RoadM_r20.loop a b)) 22 [] := by kernel_rfl
theorem RoadM_c24 (a b : AC) : Q.callQ cfgA 25 (.fn (.func 100) [] [(.ptr 15 0)]) RoadM_r24.args (RoadM_hp (RoadM_r24.loop a b)) 22 = .cret RoadM_r24.v (RoadM_hp (RoadM_r24.loop a b)) 22 [] := by kernel_rfl
theorem RoadM_c28 (a b : AC) : Q.callQ cfgA 25 (.fn (.func 100) [] [(.ptr 15 0)]) RoadM_r28.args (RoadM_hp (RoadM_r28.loop a b)) 22 = .cret RoadM_r28.v (RoadM_hp (RoadM_r28.loop a b)) 22 [] := by kernel_rfl
theorem RoadM_c32 (a b : AC) : Q.callQ cfgA 25 (.fn (.func 100) [] [(.ptr 15 0)]) RoadM_r32.args (RoadM_hp (RoadM_r32.loop a b)) 22 = .cret RoadM_r32.v (RoadM_hp (RoadM_r32.loop a b)) 22 [] := by kernel_rfl
theorem RoadM_c36 (a b : AC) : Q.callQ cfgA 25 (.fn (.func 100) [] [(.ptr 15 0)]) RoadM_r36.args (RoadM_hp (RoadM_r36.loop a b)) 22 = .cret RoadM_r36.v (RoadM_hp (RoadM_r36.loop a b)) 22 [] := by kernel_rfl
theorem RoadM_c40 (a b : AC) : Q.callQ cfgA 25 (.fn (.func 100) [] [(.ptr 15 0)]) RoadM_r40.args (RoadM_hp (RoadM_r40.loop a b)) 22 = .cret RoadM_r40.v (RoadM_hp (RoadM_r40.loop a b)) 22 [] := by kernel_rfl
end Ev
end Go.Proofs.Ytcaejedfjobooaa

namespace Go.Proofs.Ytcaejedfjobooaa
open Go
namespace Ev
set_option maxRecDepth 1000000
theorem RoadM_c1 (a b : AC) : Q.callQ cfgA 25 (.fn (.func 100) [] [(.ptr 15 0)]) RoadM_r1.args (RoadM_hp (RoadM_r1.loop a b)) 22 = .cret RoadM_r1.v (RoadM_hp (RoadM_r1.loop a b)) 22 [] := by kernel_rfl
theorem RoadM_c5 (a b : AC) : Q.callQ cfgA 25 (.fn (.func 100) [] [(.ptr 15 0)]) RoadM_r5.args (RoadM_hp (RoadM_r5.loop a b)) 22 = .cret RoadM_r5.v (RoadM_hp (RoadM_r5.loop a b)) 22 [] := by kernel_rfl
theorem RoadM_c9 (a b : AC) : Q.callQ cfgA 25 (.fn (.func 100) [] [(.ptr 15 0)]) RoadM_r9.args (RoadM_hp (RoadM_r9.loop a b)) 22 = .cret RoadM_r9.v (RoadM_hp (RoadM_r9.loop a b)) 22 [] := by kernel_rfl
theorem RoadM_c13 (a b : AC) : Q.callQ cfgA 25 (.fn (.func 100) [] [(.ptr 15 0)]) RoadM_r13.args (RoadM_hp (RoadM_r13.loop a b)) 22 = .cret RoadM_r13.v (RoadM_hp (RoadM_r13.loop a b)) 22 [] := by kernel_rfl
theorem RoadM_c17 (a b : AC) : Q.callQ cfgA 25 (.fn (.func 100) [] [(.ptr 15 0)]) RoadM_r17.args (RoadM_hp (RoadM_r17.loop a b)) 22 = .cret RoadM_r17.v (RoadM_hp (RoadM_r17.loop a b)) 22 [] := by kernel_rfl
theorem RoadM_c21 (a b : AC) : Q.callQ cfgA 25 (.fn (.func 100) [] [(.ptr 15 0)]) RoadM_r21.args (RoadM_hp (RoadM_r21.loop a b)) 22 = .cret RoadM_r21.v (RoadM_hp (RoadM_r21.loop a b)) 22 [] := by kernel_rfl
theorem RoadM_c25 (a b : AC) : Q.callQ cfgA 25 (.fn (.func 100) [] [(.ptr 15 0)]) RoadM_r25.args (RoadM_hp (RoadM_r25.loop a b)) 22 = .cret RoadM_r25.v (RoadM_hp (RoadM_r25.loop a b)) 22 [] := by kernel_rfl
theorem RoadM_c29 (a b : AC) : Q.callQ cfgA 25 (.fn (.func 100) [] [(.ptr 15 0)]) RoadM_r29.args (RoadM_hp (RoadM_r29.loop a b)) 22 = .cret RoadM_r29.v (RoadM_hp (RoadM_r29.loop a b)) 22 [] := by kernel_rfl
theorem RoadM_c33 (a b : AC) : Q.callQ cfgA 25 (.fn (.func 100) [] [(.ptr 15 0)]) RoadM_r33.args (RoadM_hp (RoadM_r33.loop a b)) 22 = .cret RoadM_r33.v (RoadM_hp (RoadM_r33.loop a b)) 22 [] := by kernel_rfl
theorem RoadM_c37 (a b : AC) : Q.callQ cfgA 25 (.fn (.func 100) [] [(.ptr 15 0)]) RoadM_r37.args (RoadM_hp (RoadM_r37.loop a b)) 22 = .cret RoadM_r37.v (RoadM_hp (RoadM_r37.loop a b)) 22 [] := by kernel_rfl
theorem RoadM_c41 (a b : AC) : Q.callQ cfgA 25 (.fn (.func 100) [] [(.ptr 15 0)]) RoadM_r41.args (RoadM_hp (RoadM_r41.loop a b)) 22 = .cret RoadM_r41.v (RoadM_hp (RoadM_r41.loop a b)) 22 [] := by kernel_rfl
end Ev
end Go.Proofs.Ytcaejedfjobooaa

namespace Go.Proofs.Ytcaejedfjobooaa
open Go
namespace Ev
set_option maxRecDepth 1000000
theorem RoadM_c2 (a b : AC) : Q.callQ cfgA 25 (.fn (.func 100) [] [(.ptr 15 0)]) RoadM_r2.args (RoadM_hp (RoadM_r2.loop a b)) 22 = .cret RoadM_r2.v (RoadM_hp (RoadM_r2.loop a b)) 22 [] := by kernel_rfl
theorem RoadM_c6 (a b : AC) : Q.callQ cfgA 25 (.fn (.func 100) [] [(.ptr 15 0)]) RoadM_r6.args (RoadM_hp (RoadM_r6.loop a b)) 22 = .cret RoadM_r6.v (RoadM_hp (RoadM_r6.loop a b)) 22 [] := by kernel_rfl
theorem RoadM_c10 (a b : AC) : Q.callQ cfgA 25 (.fn (.func 100) [] [(.ptr 15 0)]) RoadM_r10.args (RoadM_hp (RoadM_r10.loop a b)) 22 = .cret RoadM_r10.v (RoadM_hp (RoadM_r10.loop a b)) 22 [] := by kernel_rfl
theorem RoadM_c14 (a b : AC) : Q.callQ cfgA 25 (.fn (.func 100) [] [(.ptr 15 0)]) RoadM_r14.args (RoadM_hp (RoadM_r14.loop a b)) 22 = .cret RoadM_r14.v (RoadM_hp (RoadM_r14.loop a b)) 22 [] := by kernel_rfl
theorem RoadM_c18 (a b : AC) : Q.callQ cfgA 25 (.fn (.func 100) [] [(.ptr 15 0)]) RoadM_r18.args (RoadM_hp (RoadM_r18.loop a b)) 22 = .cret RoadM_r18.v (RoadM_hp (RoadM_r18.loop a b)) 22 [] := by kernel_rfl
theorem RoadM_c22 (a b : AC) : Q.callQ cfgA 25 (.fn (.func 100) [] [(.ptr 15 0)]) RoadM_r22.args (RoadM_hp (RoadM_r22.loop a b)) 22 = .cret RoadM_r22.v (RoadM_hp (RoadM_r22.loop a b)) 22 [] := by kernel_rfl
theorem RoadM_c26 (a b : AC) : Q.callQ cfgA 25 (.fn (.func 100) [] [(.ptr 15 0)]) RoadM_r26.args (RoadM_hp (RoadM_r26.loop a b)) 22 = .cret RoadM_r26.v (RoadM_hp (RoadM_r26.loop a b)) 22 [] := by kernel_rfl
theorem RoadM_c30 (a b : AC) : Q.callQ cfgA 25 (.fn (.func 100) [] [(.ptr 15 0)]) RoadM_r30.args (RoadM_hp (RoadM_r30.loop a b)) 22 = .cret RoadM_r30.v (RoadM_hp (RoadM_r30.loop a b)) 22 [] := by kernel_rfl
theorem RoadM_c34 (a b : AC) : Q.callQ cfgA 25 (.fn (.func 100) [] [(.ptr 15 0)]) RoadM_r34.args (RoadM_hp (RoadM_r34.loop a b)) 22 = .cret RoadM_r34.v (RoadM_hp (RoadM_r34.loop a b)) 22 [] := by kernel_rfl
theorem RoadM_c38 (a b : AC) : Q.callQ cfgA 25 (.fn (.func 100) [] [(.ptr 15 0)]) RoadM_r38.args (RoadM_hp (RoadM_r38.loop a b)) 22 = .cret RoadM_r38.v (RoadM_hp (RoadM_r38.loop a b)) 22 [] := by kernel_rfl
theorem RoadM_c42 (a b : AC) : Q.callQ cfgA 25 (.fn (.func 100) [] [(.ptr 15 0)]) RoadM_r42.args (RoadM_hp (RoadM_r42.loop a b)) 22 = .cret RoadM_r42.v (RoadM_hp (RoadM_r42.loop a b)) 22 [] := by kernel_rfl
end Ev
end Go.Proofs.Ytcaejedfjobooaa

namespace Go.Proofs.Ytcaejedfjobooaa
open Go
namespace Ev
set_option maxRecDepth 1000000
theorem RoadM_c3 (a b : AC) : Q.callQ cfgA 25 (.fn (.func 100) [] [(.ptr 15 0)]) RoadM_r3.args (RoadM_hp (RoadM_r3.loop a b)) 22 = .cret RoadM_r3.v (RoadM_hp (RoadM_r3.loop a b)) 22 [] := by kernel_rfl
theorem RoadM_c7 (a b : AC) : Q.callQ cfgA 25 (.fn (.func 100) [] [(.ptr 15 0)]) RoadM_r7.args (RoadM_hp (RoadM_r7.loop a b)) 22 = .cret RoadM_r7.v (RoadM_hp (RoadM_r7.loop a b)) 22 [] := by kernel_rfl
theorem RoadM_c11 (a b : AC) : Q.callQ cfgA 25 (.fn (.func 100) [] [(.ptr 15 0)]) RoadM_r11.args (RoadM_hp (RoadM_r11.loop a b)) 22 = .cret RoadM_r11.v (RoadM_hp (RoadM_r11.loop a b)) 22 [] := by kernel_rfl
theorem RoadM_c15 (a b : AC) : Q.callQ cfgA 25 (.fn (.func 100) [] [(.ptr 15 0)]) RoadM_r15.args (RoadM_hp (RoadM_r15.loop a b)) 22 = .cret RoadM_r15.v (RoadM_hp (RoadM_r15.loop a b)) 22 [] := by kernel_rfl
theorem RoadM_c19 (a b : AC) : Q.callQ cfgA 25 (.fn (.func 100) [] [(.ptr 15 0)]) RoadM_r19.args (RoadM_hp (RoadM_r19.loop a b)) 22 = .cret RoadM_r19.v (RoadM_hp (RoadM_r19.loop a b)) 22 [] := by kernel_rfl
theorem RoadM_c23 (a b : AC) : Q.callQ cfgA 25 (.fn (.func 100) [] [(.ptr 15 0)]) RoadM_r23.args (RoadM_hp (RoadM_r23.loop a b)) 22 = .cret RoadM_r23.v (RoadM_hp (RoadM_r23.loop a b)) 22 [] := by kernel_rfl
theorem RoadM_c27 (a b : AC) : Q.callQ cfgA 25 (.fn (.func 100) [] [(.ptr 15 0)]) RoadM_r27.args (RoadM_hp (RoadM_r27.loop a b)) 22 = .cret RoadM_r27.v (RoadM_hp (RoadM_r27.loop a b)) 22 [] := by kernel_rfl
theorem RoadM_c31 (a b : AC) : Q.callQ cfgA 25 (.fn (.func 100) [] [(.ptr 15 0)]) RoadM_r31.args (RoadM_hp (RoadM_r31.loop a b)) 22 = .cret RoadM_r31.v (RoadM_hp (RoadM_r31.loop a b)) 22 [] := by kernel_rfl
theorem RoadM_c35 (a b : AC) : Q.callQ cfgA 25 (.fn (.func 100) [] [(.ptr 15 0)]) RoadM_r35.args (RoadM_hp (RoadM_r35.loop a b)) 22 = .cret RoadM_r35.v (RoadM_hp (RoadM_r35.loop a b)) 22 [] := by kernel_rfl
theorem RoadM_c39 (a b : AC) : Q.callQ cfgA 25 (.fn (.func 100) [] [(.ptr 15 0)]) RoadM_r39.args (RoadM_hp (RoadM_r39.loop a b)) 22 = .cret RoadM_r39.v (RoadM_hp (RoadM_r39.loop a b)) 22 [] := by kernel_rfl
end Ev
end Go.Proofs.Ytcaejedfjobooaa

namespace Go.Proofs.Ytcaejedfjobooaa
open Go
namespace Ev
theorem RoadM_ok : Q.EntOk cfgA RoadM_ent := by
  intro r h a b
  rw [show RoadM_ent.tpl = RoadM_tpl from rfl, RoadM_fill]
  have all : ∀ p ∈ RoadM_ent.tab, Q.callQ cfgA 25 (.fn (.func 100) [] [(.ptr 15 0)]) p.args (RoadM_hp (p.loop a b)) 22 = .cret p.v (RoadM_hp (p.loop a b)) 22 [] :=
    List.forall_mem_cons.2 ⟨RoadM_c0 a b, List.forall_mem_cons.2 ⟨RoadM_c1 a b, List.forall_mem_cons.2 ⟨RoadM_c2 a b, List.forall_mem_cons.2 ⟨RoadM_c3 a b, List.forall_mem_cons.2 ⟨RoadM_c4 a b, List.forall_mem_cons.2 ⟨RoadM_c5 a b, List.forall_mem_cons.2 ⟨RoadM_c6 a b, List.forall_mem_cons.2 ⟨RoadM_c7 a b, List.forall_mem_cons.2 ⟨RoadM_c8 a b, List.forall_mem_cons.2 ⟨RoadM_c9 a b, List.forall_mem_cons.2 ⟨RoadM_c10 a b, List.forall_mem_cons.2 ⟨RoadM_c11 a b, List.forall_mem_cons.2 ⟨RoadM_c12 a b, List.forall_mem_cons.2 ⟨RoadM_c13 a b, List.forall_mem_cons.2 ⟨RoadM_c14 a b, List.forall_mem_cons.2 ⟨RoadM_c15 a b, List.forall_mem_cons.2 ⟨RoadM_c16 a b, List.forall_mem_cons.2 ⟨RoadM_c17 a b, List.forall_mem_cons.2 ⟨RoadM_c18 a b, List.forall_mem_cons.2 ⟨RoadM_c19 a b, List.forall_mem_cons.2 ⟨RoadM_c20 a b, List.forall_mem_cons.2 ⟨RoadM_c21 a b, List.forall_mem_cons.2 ⟨RoadM_c22 a b, List.forall_mem_cons.2 ⟨RoadM_c23 a b, List.forall_mem_cons.2 ⟨RoadM_c24 a b, List.forall_mem_cons.2 ⟨RoadM_c25 a b, List.forall_mem_cons.2 ⟨RoadM_c26 a b, List.forall_mem_cons.2 ⟨RoadM_c27 a b, List.forall_mem_cons.2 ⟨RoadM_c28 a b, List.forall_mem_cons.2 ⟨RoadM_c29 a b, List.forall_mem_cons.2 ⟨RoadM_c30 a b, List.forall_mem_cons.2 ⟨RoadM_c31 a b, List.forall_mem_cons.2 ⟨RoadM_c32 a b, List.forall_mem_cons.2 ⟨RoadM_c33 a b, List.forall_mem_cons.2 ⟨RoadM_c34 a b, List.forall_mem_cons.2 ⟨RoadM_c35 a b, List.forall_mem_cons.2 ⟨RoadM_c36 a b, List.forall_mem_cons.2 ⟨RoadM_c37 a b, List.forall_mem_cons.2 ⟨RoadM_c38 a b, List.forall_mem_cons.2 ⟨RoadM_c39 a b, List.forall_mem_cons.2 ⟨RoadM_c40 a b, List.forall_mem_cons.2 ⟨RoadM_c41 a b, List.forall_mem_cons.2 ⟨RoadM_c42 a b, (fun _ h => by cases h)⟩⟩⟩⟩⟩⟩⟩⟩⟩⟩⟩⟩⟩⟩⟩⟩⟩⟩⟩⟩⟩⟩⟩⟩⟩⟩⟩⟩⟩⟩⟩⟩⟩⟩⟩⟩⟩⟩⟩⟩⟩⟩⟩
  exact all r h
end Ev
end Go.Proofs.Ytcaejedfjobooaa
