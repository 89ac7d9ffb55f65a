/- From what the evaluator finds to what a call of the program comes to: a function without parameters that answers a bool. -/
import Derived.Test.YtcaejedfjobooaaGreatEvRange
import Derived.Test.YtcaejedfjobooaaGreatEvQ5
namespace Go.Proofs.YtcaejedfjobooaaGreat
open Go Go.RowKit
namespace Ev

theorem top_bool {P : Program} {C : Cfg} (hT : TblOk P C) {m f : Nat} {b : Bool} {H' : List AB} {tc : List Nat} (h : Ev.call C m (.fn (.func f) [] []) [] [] = some (.ret (.bool b), H', tc)) (W : World) (hG : Globs C W (fun _ => False)) :
    CallsIn Fence.wide 0 P f #[] W fun e W' => e = .returned (.bool b) ∧ Below W.heap.size W W' := by
  have hok := call_ok hT m
  have hsim : Sim P W (fun _ => False) nomu [] := { live := fun i B h => (by cases h), dead := fun i b h _ => (by cases h), out := fun _ _ => rfl, inj := fun i j B h _ => (by cases h), lt := fun b h => h.elim }
  obtain ⟨r, W1, h1, h2⟩ := hok.sound (tc0 := []) h (Hp.start (P := P) hsim) hG
    (rf := .func (.func f) #[] #[]) (rargs := #[]) (.fn (rf := []) (rc := []) (by intro l; simp) rfl (by intro i x r h; simp at h) rfl (by intro i x r h; simp at h)) VL.nil
  have e : (do let d ← Deferred.ofValue (.func (.func f) #[] #[]) #[]; invoke d.target d.args : Sem Next).run P W = .ok (.enter f #[]) W := by
    simp only [Deferred.ofValue, Sem.run_bind, Sem.run_pure, Result.andThen, invoke]
    exact hok.fn h _ _
  rw [e] at h1
  cases h1
  refine CallsIn.mono h2 ?_
  rintro en W' ⟨L', μ', c1, c2, _⟩
  cases en <;> simp only [CRel] at c1
  refine ⟨by rw [vr_bool c1], c2.env.1, c2.env.2.1, c2.env.2.2, c2.size, fun k hk => c2.same k hk fun i _ hi => by cases hi⟩

/-- The same, from the quick evaluator. -/
theorem top_quick {P : Program} {C : Cfg} (hT : TblOk P C) (hQ : Q.Quick C) {m f n : Nat} {b : Bool} {hp : Q.T AB} {tc : List Nat} (h : Q.callQ C m (.fn (.func f) [] []) [] (.e Q.cap) 0 = .cret (.bool b) hp n tc) (W : World) (hG : Globs C W (fun _ => False)) :
    CallsIn Fence.wide 0 P f #[] W fun e W' => e = .returned (.bool b) ∧ Below W.heap.size W W' :=
  top_bool hT (Q.found hQ Q.wh_empty h).1 W hG

/-- A piece of code behind another one. -/
theorem seq_step {C : Cfg} {call : Q.CallQ} {pin N : Nat} {rd : Option Nat} {a b : AC} {tr tr' : Q.T AV} {df df' : List ADef} {hp hp' : Q.T AB} {n n' : Nat} {tc tc' : List Nat} {r : Q.R} (h1 : Q.evQ C call pin N rd a tr df hp n tc = .norm tr' df' hp' n' tc')
    (h2 : Q.evQ C call pin N rd b tr' df' hp' n' tc' = r) : Q.evQ C call pin N rd (.seq a b) tr df hp n tc = r := by
  show Q.seqR (Q.evQ C call pin N rd a tr df hp n tc) (Q.evQ C call pin N rd b) = r
  rw [h1]; exact h2
end Ev
end Go.Proofs.YtcaejedfjobooaaGreat
