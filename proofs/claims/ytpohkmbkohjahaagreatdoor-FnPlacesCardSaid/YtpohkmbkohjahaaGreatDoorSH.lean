/- Calls without results that change several objects which name each other (closures that call themselves and change captured variables). -/
import Derived.Test.YtpohkmbkohjahaaGreatDoorSB
namespace Go.Proofs.YtpohkmbkohjahaaGreatDoor.Sh
open Go.RowKit
end Go.Proofs.YtpohkmbkohjahaaGreatDoor.Sh
