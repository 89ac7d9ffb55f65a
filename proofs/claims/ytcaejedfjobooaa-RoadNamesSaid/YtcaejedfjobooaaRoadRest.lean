/- The contract of rest.after: what a rest does to a part. -/
import Derived.Test.YtcaejedfjobooaaQTail
import Derived.Test.YtcaejedfjobooaaProg
import Derived.WalkKit
import Derived.KernelRfl
import Derived.BigQuiet
import Derived.RangeFuncRecord
namespace Go.Proofs.Ytcaejedfjobooaa
open Go Go.Proofs Go.RowKit
/-- One quiet operation, by its run. -/
theorem quietV {P : Program} {S : Type} [Nonempty S] {f : S → World} {ops : Array Oper} {Q : Act → Prop} {o : Oper} {rest : List Oper} {a : Act} {v : Value}
    (h : ∀ s : S, (execOp a.eval o).run P (f s) = .ok (.value v) (f s)) (hg : Region.wanted o (yielded ops a.tmps) = true) (hq : wpQuiet P ops (fun w' => ∃ s, w' = f s) Q rest (a.put o.dst v)) : wpQuiet P ops (fun w' => ∃ s, w' = f s) Q (o :: rest) a := by
  refine wpQuiet_step fun K hK => ?_
  rw [if_pos hg]
  refine ⟨v, ?_, hK _ hq⟩
  rintro w ⟨s, rfl⟩
  unfold Oper.quietAt
  rw [h s]
  exact ⟨rfl, rfl⟩
set_option maxHeartbeats 400000 in
set_option maxRecDepth 100000 in
theorem rested_any (s k f h d : Int) (W : World) : Calls Try.prog 142 #[.agg #[.int .i64 s, .int .i64 k, .int .i64 f], .int .i64 h, .int .i64 d] W fun e W' =>
    e = .returned (.int .i64 (min f (IntKind.i64.wrap (h + IntKind.i64.wrap (d * k))))) ∧ Below W.heap.size W W' := by
  go_enter Try.func142, Try.ntmps142
  go_wp2
  all_goals refine ⟨rfl, _, results_tmp rfl _ _ _, ?_, (Below.refl _ _).alloc (Nat.le_refl _) _⟩
  · rename_i hlt
    simp only [Array.getD_eq_getD_getElem?, List.getElem?_toArray, List.getElem?_cons_succ, List.getElem?_cons_zero, Option.getD_some, Ending.returned.injEq, Value.int.injEq, true_and]
    have hw : ∀ n, IntKind.i64.wrap n = wrap64 n := fun n => by rw [IntKind.wrap_i64]; unfold wrap64; first | rfl | omega
    simp only [hw]
    omega
  · rename_i hlt
    simp only [Array.getD_eq_getD_getElem?, List.getElem?_toArray, List.getElem?_cons_succ, List.getElem?_cons_zero, Option.getD_some, Ending.returned.injEq, Value.int.injEq, true_and]
    have hw : ∀ n, IntKind.i64.wrap n = wrap64 n := fun n => by rw [IntKind.wrap_i64]; unfold wrap64; first | rfl | omega
    simp only [hw]
    omega
set_option maxHeartbeats 400000 in
set_option maxRecDepth 100000 in
theorem look_any (p : Value) (h l : Int) (W : World) : Calls Try.prog 173 #[.agg #[], p, .int .i64 h, .int .i64 l] W fun e W' =>
    e = .returned (.int .i64 h) ∧ Below W.heap.size W W' := by
  go_enter Try.func173, Try.ntmps173
  go_wp2
  all_goals refine ⟨rfl, _, results_tmp rfl _ _ _, rfl, ((Below.refl _ _).alloc (Nat.le_refl _) _).alloc (by simp) _⟩
theorem look_at (days : Int) (B : Nat) (W : World) (hb : W.heap[B]? = some (.cells #[.int .i64 days] 152 (0, 0))) : (Instr.fieldAt 152 (.pointer (some ⟨B, 0, none⟩)) 0).run Try.prog W = .ok (.pointer (some ⟨B, 0, none⟩)) W := by
  have h1 : Try.prog.cellsOf 152 = 1 := by kernel_rfl
  have h2 : ∀ w, (sizeOf 150).run Try.prog w = .ok 0 w := fun w => by kernel_rfl
  have hsh : (shape B).run Try.prog W = .ok (some (152, 1)) W := by simp [shape, Sem.run, World.shape?, hb]
  have h3 : byteOfCell Try.prog Try.prog.depth 152 0 = some 0 := by kernel_rfl
  have hs' : W.shape? B = some (152, 1) := by simp [World.shape?, hb]
  have hva : (viewAt B).run Try.prog W = .ok none W := by simp [viewAt, hs']
  have hnv : (noView ⟨B, 0, none⟩).run Try.prog W = .ok () W := by simp [noView, hva, Result.andThen]
  simp [Instr.fieldAt, run_underlying Try.underlying152, Instr.sureAddr, fieldPlace, h2, partAt, byteOf, hnv, hs', h1, h3, Result.andThen]

set_option maxHeartbeats 1000000 in
set_option maxRecDepth 100000 in
theorem rest_any (days s k f h l : Int) (W : World) : Calls Try.prog 174 #[.agg #[.int .i64 days], .agg #[.int .i64 s, .int .i64 k, .int .i64 f], .int .i64 h, .int .i64 l] W fun e W' =>
    e = .returned (.int .i64 (min f (IntKind.i64.wrap (h + IntKind.i64.wrap (days * k))))) ∧ Below W.heap.size W W' := by
  have hld : ∀ (B : Nat) (w : World), (Instr.loadAt 150 (.pointer (some ⟨B, 0, none⟩))).run Try.prog w = .ok (.agg #[]) w := fun B w => by
    have h2 : (sizeOf 150).run Try.prog w = .ok 0 w := by kernel_rfl
    simp [Instr.loadAt, Instr.sureAddr, loadVar, isAgg, run_underlying Try.underlying150, h2, loadCells, loadCellsFrom]
  go_enter Try.func174, Try.ntmps174
  go_wp2
  obtain ⟨W2, hW2⟩ : ∃ W2, W2 = (W.alloc (Obj.cells #[Value.int IntKind.i64 days] 152)).alloc (Obj.cells #[Value.int IntKind.i64 s, Value.int IntKind.i64 k, Value.int IntKind.i64 f] 103) := ⟨_, rfl⟩
  have g4 : W2.heap[W.heap.size]? = some (.cells #[.int .i64 days] 152 (0, 0)) := by
    rw [hW2, Below.heap_alloc _ _ _ (by simp)]; exact World.alloc_heap_new W _
  have g5 : W2.heap[W.heap.size + 1]? = some (.cells #[.int .i64 s, .int .i64 k, .int .i64 f] 103 (0, 0)) := by
    rw [hW2]; have := World.alloc_heap_new (W.alloc (Obj.cells #[Value.int IntKind.i64 days] 152)) (Obj.cells #[Value.int IntKind.i64 s, Value.int IntKind.i64 k, Value.int IntKind.i64 f] 103); rwa [World.size_alloc] at this
  have hbel : Below W.heap.size W W2 := by rw [hW2]; exact ((Below.refl _ _).alloc (Nat.le_refl _) _).alloc (by simp) _
  rw [← hW2]
  clear hW2
  have l4 : W.heap.size < W2.heap.size := (Array.getElem?_eq_some_iff.1 g4).1
  have l5 : W.heap.size + 1 < W2.heap.size := (Array.getElem?_eq_some_iff.1 g5).1
  have q4 : W2.cell? ⟨W.heap.size, 0, none⟩ = some (.int .i64 days) := by simp [World.cell?, g4]
  have q50 : W2.cell? ⟨W.heap.size + 1, 0, none⟩ = some (.int .i64 s) := by simp [World.cell?, g5]
  have q51 : W2.cell? ⟨W.heap.size + 1, 1, none⟩ = some (.int .i64 k) := by simp [World.cell?, g5]
  have q52 : W2.cell? ⟨W.heap.size + 1, 2, none⟩ = some (.int .i64 f) := by simp [World.cell?, g5]
  have hb4 : ∀ st : Cls (Below W2.heap.size W2), st.W.heap[W.heap.size]? = some (.cells #[.int .i64 days] 152 (0, 0)) := fun st => (st.ok.block _ l4).trans g4
  generalize hp : W.heap.size = p4 at *
  have hcl : ∃ s : Cls (Below (W2.heap.size) (W2)), (W2).drew = s.W := ⟨⟨_, (Below.refl _ _).drew⟩, rfl⟩
  have hne : Nonempty (Cls (Below (W2.heap.size) (W2))) := ⟨⟨_, Below.refl _ _⟩⟩
  have hS : ∀ (s : Cls (Below (W2.heap.size) (W2))) (b o : Nat), b < W2.heap.size → s.W.cell? ⟨b, o, none⟩ = (W2).cell? ⟨b, o, none⟩ := fun s b o h => s.ok.cell (p := ⟨b, o, none⟩) h
  have hSf : ∀ (s : Cls (Below (W2.heap.size) (W2))) (b o : Nat), b < W2.heap.size → s.W.frozen? ⟨b, o, none⟩ = (W2).frozen? ⟨b, o, none⟩ := fun s b o h => s.ok.frozen (p := ⟨b, o, none⟩) h
  refine wp_region_quiet_all (S := Cls (Below W2.heap.size W2)) Cls.W (by kernel_rfl) (by kernel_rfl) hcl ?_
  clear hcl
  go_big_quiet_step (fail)
  refine quietV (v := .pointer (some ⟨p4, 0, none⟩)) (fun st => ?_) rfl ?_
  · have := look_at days p4 st.W (hb4 st)
    simp [execOp, Act.eval, this]
  simp only [Act.put, List.setIfInBounds_toArray, List.set_cons_succ, List.set_cons_zero]
  refine quietV (v := .agg #[]) (fun st => ?_) rfl ?_
  · have := hld p4 st.W
    simp [execOp, Act.eval, this]
  simp only [Act.put, List.setIfInBounds_toArray, List.set_cons_succ, List.set_cons_zero]
  repeat (go_big_quiet_step ((first | (go_at_call 173; refine (look_any _ _ _ _).mono ?_; rintro e w2 ⟨rfl, hb⟩; exact ⟨rfl, Cls.step _ (Nat.le_refl _) hb⟩) | (go_at_call 142; refine (rested_any _ _ _ _ _ _).mono ?_; rintro e w2 ⟨rfl, hb⟩; exact ⟨rfl, Cls.step _ (Nat.le_refl _) hb⟩))))
  refine wpQuiet_nil ?_
  intro st
  have hfin := hbel.trans (st.ok.mono (Nat.le_of_lt l4))
  clear hS hSf hne hb4 g4 g5 q4 q50 q51 q52 l4 l5
  generalize st.W = W3 at *
  clear st
  go_wp2
  exact ⟨rfl, _, results_tmp rfl _ _ _, rfl, by rw [hp]; exact hfin⟩
end Go.Proofs.Ytcaejedfjobooaa
