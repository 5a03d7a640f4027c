/- A place's names marked through the place: a call that changes an own slice which lies in a struct; no condition. -/
import Derived.Test.YtpohkmbkohjahaaGreatDoorKJ
namespace Go.Proofs.YtpohkmbkohjahaaGreatDoor.Sh
open Go.RowKit
theorem GlobOk.keep {S : Nat → Prop} {w w' : World} (h : GlobOk S w) (hk : ∀ b, S b → w'.heap[b]? = w.heap[b]?) (hs : w.heap.size ≤ w'.heap.size) : GlobOk S w' := by
  refine ⟨fun p hp => ?_, fun g hg => ?_, fun p hp => ?_⟩
  · obtain ⟨h1, h2, h3⟩ := h.1 p hp
    exact ⟨h1, Nat.lt_of_lt_of_le h2 hs, fun j v hj => (World.cell?_of_block (w := w) (hk _ h1)).trans (h3 j v hj)⟩
  · obtain ⟨h1, h2, t, u, h3⟩ := h.2.1 g hg
    exact ⟨h1, Nat.lt_of_lt_of_le h2 hs, t, u, (World.cell?_of_block (w := w) (hk _ h1)).trans h3⟩
  · obtain ⟨h1, h2, t, x, h3⟩ := h.2.2 p hp
    exact ⟨h1, Nat.lt_of_lt_of_le h2 hs, t, x, (hk _ h1).trans h3⟩
end Go.Proofs.YtpohkmbkohjahaaGreatDoor.Sh
