/- What the evaluator is told of the program. -/
import Derived.Test.YtcaejedfjobooaaGreatDoorAcTally
import Derived.Test.YtcaejedfjobooaaGreatDoorEvQ
namespace Go.Proofs.YtcaejedfjobooaaGreatDoor
open Go
namespace Ev
/-- The deferred closures. -/
def closT : List Nat := [16, 26, 29, 34, 40, 45, 75]
def closC : List Nat := [59, 70]
noncomputable def memN : List Nat → Nat → Bool := fun l => List.rec (motive := fun _ => Nat → Bool) (fun _ => false) (fun x _ ih n => Bool.rec (ih n) true (Nat.beq n x)) l
/-- Who sees a part of the heap alone. -/
def apis : List Nat := [4, 8, 9, 10, 11, 12, 49, 38, 47, 43, 48, 5, 6]
noncomputable def numG (args : List AV) : Option AV := match args with
  | [.agg []] => some (.int .i64 2)
  | _ => none
noncomputable def dueG (args : List AV) : Option AV := match args with
  | [.agg [], .agg [.int .i64 _, .int .i64 h]] => some (.int .i64 h)
  | _ => none
noncomputable def paidG (args : List AV) : Option AV := match args with
  | [.agg [], .agg [.int .i64 l, .int .i64 _]] => some (.int .i64 l)
  | _ => none
noncomputable def dfkT (f : Nat) : Option (Nat × Bool) := Bool.rec (Bool.rec (Bool.rec none (some (99, true)) (memN closT f)) (some (137, true)) (memN closC f)) (some (153, false)) (Nat.beq f 64)
noncomputable def extT (f : Nat) : Option (List AV → Option AV) := Bool.rec (Bool.rec (Bool.rec none (some numG) (Nat.beq f 147)) (some dueG) (Nat.beq f 156)) (some paidG) (Nat.beq f 157)
noncomputable def cfgA : Cfg where
  fns := FT.find fnTree
  glob := fun _ => none
  dfk := dfkT
  ext := extT
  gcAt := 20
  whole := fun f => Q.notB (memN apis f)
/-- The same, where 'alive' is told. -/
noncomputable def cfgN : Cfg where
  fns := FT.find fnTree
  glob := fun _ => none
  dfk := dfkT
  ext := fun f => Bool.rec (extT f) (some fun args => List.rec (some (.bool true)) (fun _ _ _ => none) args) (Nat.beq f 13)
  gcAt := 20
  whole := fun f => Q.notB (memN apis f)
end Ev
end Go.Proofs.YtcaejedfjobooaaGreatDoor
