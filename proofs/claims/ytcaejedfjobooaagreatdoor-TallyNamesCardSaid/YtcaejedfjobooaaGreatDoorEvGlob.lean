/- What the variables of packages hold that are only read. -/
import Derived.Test.YtcaejedfjobooaaGreatDoorEvDefs
namespace Go.Proofs.YtcaejedfjobooaaGreatDoor
open Go
namespace Ev
def globA : Nat → Option (List AV) := fun g => bif Nat.beq g 0 then some [.iface 238 (.agg []), .iface 240 (.agg [])] else none
end Ev
end Go.Proofs.YtcaejedfjobooaaGreatDoor
