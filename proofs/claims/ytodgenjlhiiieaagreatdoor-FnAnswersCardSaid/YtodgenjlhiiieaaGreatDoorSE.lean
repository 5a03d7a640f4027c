/- Deep objects: inner slices taken out, elements stored, zeros made; no condition. -/
import Derived.Test.YtodgenjlhiiieaaGreatDoorSD
namespace Go.Proofs.YtodgenjlhiiieaaGreatDoor.Sh
open Go.RowKit
section
variable {P : Program} {tb : Tb} {ops : Array Oper} {o : Oper} {c : Cx} {S : Nat → Prop} {β : Nat → Value} {ν σ : SS} {a : Act} {w : World}
/-- Zero cells, seen as own values of a shape. -/
inductive ZeroD : List Tr → List Sh → Prop
  | nil : ZeroD [] []
  | flat (t : Tr) (ts : List Tr) (ss : List Sh) (h : t.flat = true) (k : ZeroD ts ss) : ZeroD (t :: ts) (.flat :: ss)
  | sl (e m : Nat) (ss' : List Sh) (ts : List Tr) (ss : List Sh) (h : ss'.length = m) (k : ZeroD ts ss) : ZeroD (.sl 0 [] :: ts) (.sl e m ss' :: ss)
theorem ZeroD.ok {ts : List Tr} {ss : List Sh} (h : ZeroD ts ss) {vs : List Value} (hz : zvals ts = some vs) : ts.length = ss.length ∧ ∀ (j : Nat) s t v, ss[j]? = some s → ts[j]? = some t → vs[j]? = some v → (∀ w, DV w s t v) ∧ ∀ w g, ¬ FP w s v g := by
  induction h generalizing vs with
  | nil => exact ⟨rfl, by simp⟩
  | flat t ts ss h k ih =>
    unfold zvals at hz
    split at hz
    · rename_i v vs' hv hvs
      injection hz with hz
      subst hz
      obtain ⟨h1, h2⟩ := ih hvs
      refine ⟨by simp [h1], fun j s t' v' hs ht hv' => ?_⟩
      cases j with
      | zero =>
        simp at hs ht hv'
        subst hs ht hv'
        exact ⟨fun w => .flat _ _ h (zval_ok hv), fun w g hg => by cases hg⟩
      | succ j => exact h2 j s t' v' (by simpa using hs) (by simpa using ht) (by simpa using hv')
    · cases hz
  | sl e m ss' ts ss h k ih =>
    unfold zvals at hz
    split at hz
    · rename_i v vs' hv hvs
      injection hz with hz
      subst hz
      have hv2 : v = .slice none 0 0 := by simpa [Tr.zval] using hv.symm
      subst hv2
      obtain ⟨h1, h2⟩ := ih hvs
      refine ⟨by simp [h1], fun j s t' v' hs ht hv' => ?_⟩
      cases j with
      | zero =>
        simp at hs ht hv'
        subst hs ht hv'
        refine ⟨fun w => (DRow.nil (xs := []) ⟨by simp, .inl ⟨rfl, rfl⟩⟩ h).dv, fun w g hg => ?_⟩
        cases hg with
        | here _ _ _ _ _ hb => cases hb
      | succ j => exact h2 j s t' v' (by simpa using hs) (by simpa using ht) (by simpa using hv')
    · cases hz
end
section
variable {P : Program} {s : SS}
theorem finP {t : ResultVar} {d e m n : Nat} {es : List (List Tr)} (pre post : List SV) (h : Holds P s (.agg (pre ++ .own d :: post)) t) (ho : find d s.o = some (.arr e m n es)) (hfl : FlatE es) (h1 : SV.names.namesL pre = []) (h2 : SV.names.namesL post = []) (hf1 : SV.Flat.FlatL pre) (hf2 : SV.Flat.FlatL post) (hd : Nat.blt d s.n = true) {dep : Bool} : FinS P s dep t (.part pre post (.arr e m n es)) :=
  ⟨d, h, mem_of_find ho, h1, h2, .inr ⟨hf1, hf2⟩, .inr hfl, by simpa using hd⟩
end
end Go.Proofs.YtodgenjlhiiieaaGreatDoor.Sh
