/- The reference's Times (layer 5): the walk. -/
import Derived.Test.YtaggpodckafbgaaGreatDoorZQFast
import Derived.Test.YtaggpodckafbgaaGreatDoorZPM
namespace Go.Proofs.YtaggpodckafbgaaGreatDoor
open Go.RowKit
end Go.Proofs.YtaggpodckafbgaaGreatDoor
