/- Operations within their bounds; no condition. -/
import Derived.Test.YthfcdicfcepfhaaDoorJ3
import Derived.Test.YthfcdicfcepfhaaDoorQM
namespace Go.Proofs.YthfcdicfcepfhaaDoor.Sh
open Go.RowKit Go.Lib
theorem opR_of {L : List Op} (hk : L.length ≤ maxLen ∧ ∀ x ∈ L, okOp x) (hs : ∀ x ∈ L, smOp x) : ∀ x ∈ L, OpR x := fun x hx => ⟨(hk.2 x hx).Office, (hk.2 x hx).Number, (hs x hx).s2, (hs x hx).s3, (hs x hx).s4, (hk.2 x hx).Seen.2⟩
theorem resOk_sm {r : List Op × Int} (h : resOk r) : r.1.length ≤ 1048576 ∧ ∀ x ∈ r.1, smOp x := ⟨by have := h.1; omega, fun x hx => ⟨(h.2 x hx).k, (h.2 x hx).t, (h.2 x hx).s⟩⟩
end Go.Proofs.YthfcdicfcepfhaaDoor.Sh
