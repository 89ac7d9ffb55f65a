/- What the evaluator is told of the program. -/
import Derived.Test.YtcaejedfjobooaaAcClamp
import Derived.Test.YtcaejedfjobooaaEvQ
namespace Go.Proofs.Ytcaejedfjobooaa
open Go
namespace Ev
/-- The deferred closures. -/
def closures : List Nat := [27, 37, 39, 41, 48, 53, 114, 115]
noncomputable def memN : List Nat → Nat → Bool := fun l => List.rec (motive := fun _ => Nat → Bool) (fun _ => false) (fun x _ ih n => Bool.rec (ih n) true (Nat.beq n x)) l
/-- Who sees a part of the heap alone. -/
def apis : List Nat := [5, 7, 8, 9, 10, 11, 59, 60, 6, 12, 13]
noncomputable def cfgA : Cfg where
  fns := FT.find fnTree
  glob := fun _ => none
  dfk := fun f => Bool.rec none (some (128, true)) (memN closures f)
  ext := fun _ => none
  gcAt := 20
  whole := fun f => Q.notB (memN apis f)
/-- The same, where 'alive' is told. -/
noncomputable def cfgN : Cfg where
  fns := FT.find fnTree
  glob := fun _ => none
  dfk := fun f => Bool.rec none (some (128, true)) (memN closures f)
  ext := fun f => Bool.rec none (some fun args => List.rec (some (.bool true)) (fun _ _ _ => none) args) (Nat.beq f 14)
  gcAt := 20
  whole := fun f => Q.notB (memN apis f)
end Ev
end Go.Proofs.Ytcaejedfjobooaa
