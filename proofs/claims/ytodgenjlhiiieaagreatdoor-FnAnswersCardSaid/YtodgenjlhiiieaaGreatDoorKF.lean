/- strconv.FormatInt at base 10 as a typed call: numbers below 100; no condition on the world. -/
import Derived.Test.YtodgenjlhiiieaaGreatDoorKA
import Derived.Shelf.Strconv.Itoa4
namespace Go.Proofs.YtodgenjlhiiieaaGreatDoor.Sh
open Go.RowKit Go.Shelf Go.Lib
end Go.Proofs.YtodgenjlhiiieaaGreatDoor.Sh
