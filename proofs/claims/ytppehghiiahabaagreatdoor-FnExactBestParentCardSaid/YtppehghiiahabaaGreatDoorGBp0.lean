/- Typed functions and the calls that do what they say. -/
import Derived.Test.YtppehghiiahabaaGreatDoorSB
import Derived.Test.YtppehghiiahabaaGreatDoorFB
import Derived.Test.YtppehghiiahabaaGreatDoorKA
import Derived.Test.YtppehghiiahabaaGreatDoorKO
import Derived.Test.YtppehghiiahabaaGreatDoorKQ
import Derived.Test.YtppehghiiahabaaGreatDoorKS
import Derived.Test.YtppehghiiahabaaGreatDoorSF
import Derived.Test.YtppehghiiahabaaGreatDoorH1
import Derived.Test.YtppehghiiahabaaGreatDoorGA
namespace Go.Proofs.YtppehghiiahabaaGreatDoor.Sh
open Go.RowKit
set_option maxRecDepth 100000
set_option maxHeartbeats 4000000
structure l01Source where
  code : (List Int)
  at' : Int
  seed : Int
noncomputable def spec_l01From (aCode : (List Int)) : Option (l01Source) :=
  (((forH (fun (i3 : Int) (_ : l01Source) => ((decide (i3 < (aCode.length : Int))) && (decide (i3 < 64)))) (fun (i3 : Int) (s3 : l01Source) => ((at' aCode i3).bind fun x7 => some (l01Source.mk s3.code s3.at' (Int.tmod (w64 ((w64 (s3.seed * 73)) + (w64 x7))) 2147483647)))) (fun (s3 : l01Source) => s3) 0 (l01Source.mk aCode 0 51031))).bind fun (j1 : l01Source) => some j1)
noncomputable def spec_l01Next (aS : l01Source) (aN : Int) : Option (Int × l01Source) :=
  (bif (decide (aN ≤ 1)) then some (0, aS) else (((bif (decide (aS.at' < (aS.code.length : Int))) then ((at' aS.code aS.at').bind fun x3 => (bif ((decide (aN ≤ 256)) && ((Int.tmod (w64 (aS.at' + 1)) 2) == 0)) then ((at' aS.code (w64 ((w64 (aS.at' + 1)) - 1))).bind fun x4 => some ((w64 x4), (l01Source.mk aS.code (w64 (aS.at' + 1)) (Int.tmod (w64 ((w64 (aS.seed * 48271)) + 29)) 2147483647)))) else some ((w64 ((w64 (Int.tdiv (Int.tmod (w64 ((w64 (aS.seed * 48271)) + 29)) 2147483647) 31)) + (w64 x3))), (l01Source.mk aS.code (w64 (aS.at' + 1)) (Int.tmod (w64 ((w64 (aS.seed * 48271)) + 29)) 2147483647))))) else some ((w64 (Int.tdiv (Int.tmod (w64 ((w64 (aS.seed * 48271)) + 29)) 2147483647) 31)), (l01Source.mk aS.code aS.at' (Int.tmod (w64 ((w64 (aS.seed * 48271)) + 29)) 2147483647))))).bind fun (j1 : Int × l01Source) => ((nz' aN).bind fun _ => some ((Int.tmod j1.1 aN), j1.2))))
noncomputable def spec_l01Pick (aS : l01Source) (aList : (List Int)) : Option (Int × l01Source) :=
  ((spec_l01Next aS (aList.length : Int)).bind fun x1 => ((at' aList x1.1).bind fun x2 => some (x2, x1.2)))
noncomputable def impl_chosen (aList : (List Claim)) (aIndices : (List Int)) : Option ((List Claim)) :=
  (((forS (aIndices.length : Int) (fun (i3 : Int) (s3 : (List Claim)) => ((at' aIndices i3).bind fun x7 => ((at' aList x7).bind fun x8 => ((app' s3 ([x8] : List Claim)).bind fun x9 => some x9)))) (fun (s3 : (List Claim)) => s3) 0 ([] : List Claim))).bind fun (j1 : (List Claim)) => some j1)
end Go.Proofs.YtppehghiiahabaaGreatDoor.Sh
