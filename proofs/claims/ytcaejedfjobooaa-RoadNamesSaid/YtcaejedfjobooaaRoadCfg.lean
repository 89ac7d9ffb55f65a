/- What the evaluator is told of the program. -/
import Derived.Test.YtcaejedfjobooaaAcRoad
import Derived.Test.YtcaejedfjobooaaEvQ
namespace Go.Proofs.Ytcaejedfjobooaa
open Go
namespace Ev
/-- The deferred closures. -/
def closures : List Nat := [64, 72, 78, 82, 87, 99, 132, 133]
noncomputable def memN : List Nat → Nat → Bool := fun l => List.rec (motive := fun _ => Nat → Bool) (fun _ => false) (fun x _ ih n => Bool.rec (ih n) true (Nat.beq n x)) l
/-- Who sees a part of the heap alone. -/
def apis : List Nat := [19, 20, 21, 22, 23, 24, 101, 102, 16, 18, 25]
/-- What a rest does, where the numbers are small enough. -/
noncomputable def restV (d k f h : Int) : Option AV := Bool.rec none (some (.int .i64 (Bool.rec (Q.addI h (d * k)) f (Q.leI f (Q.addI h (d * k)))))) (Q.andB (Q.fits .i64 (d * k)) (Q.fits .i64 (Q.addI h (d * k))))
noncomputable def restG (args : List AV) : Option AV := match args with
  | [.agg [.int .i64 d], .agg [.int .i64 _, .int .i64 k, .int .i64 f], .int .i64 h, .int .i64 _] => restV d k f h
  | _ => none
noncomputable def cfgA : Cfg where
  fns := FT.find fnTree
  glob := fun _ => none
  dfk := fun f => Bool.rec none (some (142, true)) (memN closures f)
  ext := fun f => Bool.rec none (some restG) (Nat.beq f 174)
  gcAt := 20
  whole := fun f => Q.notB (memN apis f)
/-- The same, where 'alive' is told. -/
noncomputable def cfgN : Cfg where
  fns := FT.find fnTree
  glob := fun _ => none
  dfk := fun f => Bool.rec none (some (142, true)) (memN closures f)
  ext := fun f => Bool.rec (Bool.rec none (some restG) (Nat.beq f 174)) (some fun args => List.rec (some (.bool true)) (fun _ _ _ => none) args) (Nat.beq f 26)
  gcAt := 20
  whole := fun f => Q.notB (memN apis f)
end Ev
end Go.Proofs.Ytcaejedfjobooaa
