/- What the variables of packages hold that are only read. -/
import Derived.Test.YtcaejedfjobooaaGreatEvDefs
namespace Go.Proofs.YtcaejedfjobooaaGreat
open Go
namespace Ev
def globA : Nat → Option (List AV) := fun _ => none
end Ev
end Go.Proofs.YtcaejedfjobooaaGreat
