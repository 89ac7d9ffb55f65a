/- What the evaluator is told of the program, 'alive' too. -/
import Derived.Test.YtcaejedfjobooaaGreatDoorTallyCfg
namespace Go.Proofs.YtcaejedfjobooaaGreatDoor
open Go
namespace Ev
noncomputable def aliveG (args : List AV) (_ : List AB) : Option AV := List.rec (some (.bool true)) (fun _ _ _ => none) args
noncomputable def cfgM : Cfg where
  fns := FT.find fnTree
  glob := fun _ => none
  dfk := dfkT
  ext := extT
  exth := fun f => Bool.rec none (some aliveG) (Nat.beq f 13)
  gcAt := 20
  whole := fun f => Q.notB (memN apis f)
end Ev
end Go.Proofs.YtcaejedfjobooaaGreatDoor
