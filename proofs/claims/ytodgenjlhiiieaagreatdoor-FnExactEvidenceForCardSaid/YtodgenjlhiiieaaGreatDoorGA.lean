/- Typed functions and the calls that do what they say. -/
import Derived.Test.YtodgenjlhiiieaaGreatDoorGAp1
import Derived.Test.YtodgenjlhiiieaaGreatDoorKA
import Derived.Test.YtodgenjlhiiieaaGreatDoorKC
import Derived.Test.YtodgenjlhiiieaaGreatDoorKF
import Derived.Test.YtodgenjlhiiieaaGreatDoorKS
import Derived.Test.YtodgenjlhiiieaaGreatDoorSN
import Derived.Test.YtodgenjlhiiieaaGreatDoorH1
namespace Go.Proofs.YtodgenjlhiiieaaGreatDoor.Sh
open Go.RowKit
set_option maxRecDepth 100000
set_option maxHeartbeats 4000000
noncomputable def slices_insertionSortCmpFunc_Answer_impl_question_answers_1 (aData : (List Answer)) (aA : Int) (aB : Int) : Option ((List Answer)) :=
  (forS aB (fun (i1 : Int) (s1 : (List Answer)) => (loop (fun (s5 : Int × (List Answer)) => (((bif (decide (s5.1 > aA)) then ((at' s5.2 s5.1).bind fun x7 => ((at' s5.2 (w64 (s5.1 - 1))).bind fun x8 => ((impl_question_answers_1 x7 x8).bind fun x9 => some (decide (x9 < 0))))) else some false)).bind fun (j10 : Bool) => (bif j10 then ((((at' s5.2 (w64 (s5.1 - 1))).bind fun x14 => ((at' s5.2 s5.1).bind fun x15 => ((at' s5.2 s5.1).bind fun _ => ((at' (List.set s5.2 (Int.toNat s5.1) x14) (w64 (s5.1 - 1))).bind fun _ => some (List.set (List.set s5.2 (Int.toNat s5.1) x14) (Int.toNat (w64 (s5.1 - 1))) x15)))))).bind fun (j12 : (List Answer)) => some (.inl ((w64 (s5.1 - 1)), j12))) else some (.inr s5.2)))) (i1, s1))) (fun (s1 : (List Answer)) => s1) (w64 (aA + 1)) aData)
noncomputable def slices_pdqsortCmpFunc_Answer_impl_question_answers_1 (aData : (List Answer)) (aA : Int) (aB : Int) (aLimit : Int) : Option ((List Answer)) :=
  (loop (fun (s1 : Int × Int × Int × Bool × Bool × (List Answer)) => (bif (decide ((w64 (s1.2.1 - s1.1)) ≤ 12)) then ((slices_insertionSortCmpFunc_Answer_impl_question_answers_1 s1.2.2.2.2.2 s1.1 s1.2.1).bind fun x3 => some (.inr x3)) else (bif (s1.2.2.1 == 0) then none else (((bif (!s1.2.2.2.1) then none else some s1.2.2.1)).bind fun (_ : Int) => none)))) (aA, aB, aLimit, true, true, aData))
noncomputable def slices_SortFunc_Answer_impl_question_answers_1 (aX : (List Answer)) : Option ((List Answer)) :=
  ((bits_Len (IntKind.wrap .u64 (aX.length : Int))).bind fun x1 => ((slices_pdqsortCmpFunc_Answer_impl_question_answers_1 aX 0 (aX.length : Int) x1).bind fun x2 => some x2))
noncomputable def impl_question_answers (aQ : question) (aList : (List Candidate)) : Option ((List Answer)) :=
  (((forS (aList.length : Int) (fun (i3 : Int) (s3 : (List Answer)) => ((at' aList i3).bind fun x7 => ((impl_question_answer aQ x7).bind fun x8 => ((app' s3 ([x8] : List Answer)).bind fun x9 => some x9)))) (fun (s3 : (List Answer)) => s3) 0 ([] : List Answer))).bind fun (j1 : (List Answer)) => ((slices_SortFunc_Answer_impl_question_answers_1 j1).bind fun x10 => some x10))
end Go.Proofs.YtodgenjlhiiieaaGreatDoor.Sh
