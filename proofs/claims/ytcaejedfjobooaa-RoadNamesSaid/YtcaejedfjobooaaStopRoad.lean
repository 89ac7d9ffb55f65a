/- Contracts of stopped. -/
import Derived.Test.YtcaejedfjobooaaRecCall
import Derived.Test.YtcaejedfjobooaaProg
import Derived.WalkKit
import Derived.KernelRfl
namespace Go.Proofs.Ytcaejedfjobooaa
open Go Go.Proofs Go.RowKit
set_option maxHeartbeats 400000 in
set_option maxRecDepth 100000 in
theorem stopped_road (B off : Nat) (y : Value) (k : IntKind) (n : Int) (W : World) (hc : W.cell? ⟨B, off, none⟩ = some y) (hz : W.frozen? ⟨B, off, none⟩ = false) :
    Calls Try.prog 65 #[.iface 142 (.agg #[.int k n]), .pointer (some ⟨B, off, none⟩)] W fun e W' => e = .returned (.tuple #[]) ∧ Below W.heap.size (W.setCell ⟨B, off, none⟩ (.int k n)) W' := by
  have hta : ∀ w : World, (Instr.typeAssert (.iface 142 (.agg #[.int k n])) 20 142 true).run Try.prog w = .ok (.tuple #[.agg #[.int k n], .bool true]) w := fun _ => by kernel_rfl
  have hlt : B < W.heap.size := by
    unfold World.cell? at hc
    cases hb : W.heap[B]? with
    | none => simp [hb] at hc
    | some x => exact (Array.getElem?_eq_some_iff.1 hb).1
  have hca : ∀ o, (W.alloc o).cell? ⟨B, off, none⟩ = some y := fun o => (World.cell?_of_block (Below.heap_alloc W o B hlt)).trans hc
  have hza : ∀ o, (W.alloc o).frozen? ⟨B, off, none⟩ = false := fun o => (World.frozen?_of_block (Below.heap_alloc W o B hlt)).trans hz
  have hbel : ∀ o, Below W.heap.size (W.setCell ⟨B, off, none⟩ (.int k n)) ((W.alloc o).setCell ⟨B, off, none⟩ (.int k n)) := fun o => by
    refine ⟨rfl, rfl, rfl, by simp, fun i hi => ?_⟩
    simp only [World.setCell, Array.getElem?_modify]
    rw [Below.heap_alloc W o i hi]
  clear hc hz hlt
  go_enter Try.func65, Try.ntmps65
  go_wp2
  exact ⟨rfl, _, results_none rfl _ _ _, rfl, hbel _⟩
theorem stopped_idle (x : Value) (W : World) : Calls Try.prog 65 #[.nilIface, x] W fun e W' => e = .returned (.tuple #[]) ∧ Below W.heap.size W W' := by
  go_enter Try.func65, Try.ntmps65
  go_wp2
  exact ⟨rfl, _, results_none rfl _ _ _, rfl, Below.refl _ _⟩

/-- What a deferred closure does that hands what is recovered to stopped. -/
theorem closure_road {f : Nat} {fn : Func} {id : Nat} {ops : Array Oper} {o0 o1 : Oper} (hf : Try.prog.funcs[f]? = some fn) (hb : fn.body = some (.region id ops false)) (hn : fn.ntmps = 3) (hr : fn.results = #[]) (hnm : (fn.name == "runtime.NumGoroutine") = false)
    (ho : ops = #[o0, o1]) (h0 : o0.op = .call { callee := .builtin .recover, args := #[], argTypes := #[] }) (hd0 : o0.dst = some 1) (hg0 : o0.guard = none) (hd1 : o1.dst = some 2) (hg1 : o1.guard = none) {ts : Array TypeId} (h1 : o1.op = .call { callee := .value (.func 65), args := #[.tmp 1, .tmp 0], argTypes := ts }) :
    (∀ (x : Value) (W : World), CallsDIn Fence.wide 0 Try.prog f #[x] .returning W fun e u' W' => (∃ v, e = .returned v) ∧ u' = .returning ∧ Below W.heap.size W W') ∧
    (∀ (B off : Nat) (y x : Value) (k : IntKind) (n : Int) (W : World), W.cell? ⟨B, off, none⟩ = some y → W.frozen? ⟨B, off, none⟩ = false → x = .agg #[.int k n] →
      CallsDIn Fence.wide 0 Try.prog f #[.pointer (some ⟨B, off, none⟩)] (.panicking [{ v := .iface 142 x, recovered := false }]) W fun e u' W' =>
        (∃ v, e = .returned v) ∧ u' = .panicking [{ v := .iface 142 x, recovered := true }] ∧ Below W.heap.size (W.setCell ⟨B, off, none⟩ (.int k n)) W') := by
  have hwalk : ∀ (x rv : Value) (u u' : FrameMode) (W : World) (R : World → Prop), (∀ (c₀ : Frame) (cs : List Frame), c₀.mode = u → recoverD (c₀ :: cs) = some (rv, { c₀ with mode := u' } :: cs) ∨ (recoverD (c₀ :: cs) = none ∧ rv = .nilIface ∧ { c₀ with mode := u' } :: cs = c₀ :: cs)) →
      Calls Try.prog 65 #[rv, x] W (fun e W' => e = .returned (.tuple #[]) ∧ R W') → CallsDIn Fence.wide 0 Try.prog f #[x] u W fun e v' W' => (∃ v, e = .returned v) ∧ v' = u' ∧ R W' := by
    intro x rv u u' W R hrec hcall
    refine callsDIn_of_wpSIn hf hb trivial fun c₀ cs hu => ?_
    refine wpSIn_region_recover (o := o0) (rest := [1]) (v := rv) (cs' := { c₀ with mode := u' } :: cs) (by rw [ho]; rfl) (by rw [ho]; rfl) (by simp [Region.wanted, hg0]) (by simp [execOp, h0, resolve, go_sem]) (hrec c₀ cs hu) ?_
    have hev : ∀ _ : Nat, (#[x] ++ Array.replicate (fn.ntmps - 1) undef : Array Value) = #[x, undef, undef] := fun _ => by rw [hn]; rfl
    simp only [List.size_toArray, List.length_cons, List.length_nil, Nat.zero_add, hev 0, Act.put, hd0]
    unfold wpOpsIn
    rw [show ops[1]? = some o1 by rw [ho]; rfl]
    simp only [Region.wanted, hg1, if_true]
    refine ⟨fun _ _ => trivial, ?_⟩
    have hrun : (o1.semAt Fence.wide.round (Act.eval { tmps := (#[x, undef, undef] : Array Value).setIfInBounds 1 rv, defers := [] })).run Try.prog W = .ok (.enter 65 #[rv, x]) W := by
      rw [Oper.semAt_eq _ _ _ (by rw [h1]; intro c hc; cases hc)]
      simp [execOp, h1, resolve, go_sem, Deferred.ofValue, Act.eval]
    rw [hrun, Oper.uponIn_enter]
    refine ⟨fun h => by simp [Fence.wide] at h, ((callsIn_wide (n := 0)).2 hcall).mono ?_⟩
    rintro e W' ⟨rfl, hR⟩
    simp only [wpOpsIn, Act.put, hd1]
    refine ⟨rfl, u', rfl, .tuple #[], results_none hr _ _ _, ⟨_, rfl⟩, rfl, hR⟩
  refine ⟨fun x W => ?_, fun B off y x k n W hc hz hx => ?_⟩
  · refine (hwalk x .nilIface .returning .returning W (Below W.heap.size W) (fun c₀ cs hu => .inr ⟨by simp [recoverD, hu], rfl, by cases c₀; simp_all⟩) (stopped_idle x W))
  · subst hx
    refine hwalk _ _ _ _ W _ (fun c₀ cs hu => .inl ?_) (stopped_road B off y k n W hc hz)
    simp [recoverD, hu]
end Go.Proofs.Ytcaejedfjobooaa
