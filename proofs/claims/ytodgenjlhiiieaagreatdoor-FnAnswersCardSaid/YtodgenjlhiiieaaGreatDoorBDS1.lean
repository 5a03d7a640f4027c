/- Plain laws of desks: codes, sites, IsDesk of both; bounds on lengths alone. -/
import Derived.Test.YtodgenjlhiiieaaGreatDoorBN1
namespace Go.Proofs.YtodgenjlhiiieaaGreatDoor.Sh
open Go.RowKit Go.Lib
theorem contains_eq {L : List ByteArray} (hL : L.length ≤ 1000000000) (v : ByteArray) : slices_Contains_string L v = some (L.any fun x => v.toList == x.toList) := by
  unfold slices_Contains_string slices_Index_string
  rw [loop_idx (by omega) (fun x => v.toList == x.toList) (fun i x hx => by rw [at_nat, hx]; rfl), Option.bind_some, idxP_any]
def w9 : List ByteArray := [(ByteArray.mk #[97, 116]), (ByteArray.mk #[110, 101, 97, 114]), (ByteArray.mk #[111, 102]), (ByteArray.mk #[98, 101, 116, 119, 101, 101, 110]), (ByteArray.mk #[97, 110, 100]), (ByteArray.mk #[109, 105, 108, 101]), (ByteArray.mk #[109, 105, 108, 101, 115]), (ByteArray.mk #[108, 101, 97, 103, 117, 101]), (ByteArray.mk #[108, 101, 97, 103, 117, 101, 115])]
theorem own_eq (s : ByteArray) : impl_isOwnWord s = some ((w9.any fun x => s.toList == x.toList) || glob0.any fun x => s.toList == x.toList) := by
  unfold impl_isOwnWord
  have e : slices_Contains_string ([(ByteArray.mk #[97, 116]), (ByteArray.mk #[110, 101, 97, 114]), (ByteArray.mk #[111, 102]), (ByteArray.mk #[98, 101, 116, 119, 101, 101, 110]), (ByteArray.mk #[97, 110, 100]), (ByteArray.mk #[109, 105, 108, 101]), (ByteArray.mk #[109, 105, 108, 101, 115]), (ByteArray.mk #[108, 101, 97, 103, 117, 101]), (ByteArray.mk #[108, 101, 97, 103, 117, 101, 115])] : List ByteArray) s = some (w9.any fun x => s.toList == x.toList) := contains_eq (L := w9) (by decide) s
  rw [e, contains_eq (L := glob0) (by decide) s]
  cases (w9.any fun x => s.toList == x.toList) <;> rfl
def codeB (s : ByteArray) : Bool := wordB s && !((w9.any fun x => s.toList == x.toList) || glob0.any fun x => s.toList == x.toList)
theorem impl_code (s : ByteArray) (hs : s.size ≤ maxLen) : impl_isCode s = some (codeB s) := by
  unfold impl_isCode codeB
  rw [impl_isWord s hs, own_eq]
  cases wordB s <;> rfl
theorem dir_eq (s : ByteArray) : spec_l28Direction s = some (idxP (fun x : ByteArray => x.toList == s.toList) glob0) := by
  unfold spec_l28Direction
  exact loop_idx (L := glob0) (by decide) (fun x : ByteArray => x.toList == s.toList) (fun i x hx => by
    have e : spec_l26Word (i : Int) = some x := by
      have h : at' glob0 (i : Int) = some x := by rw [at_nat, hx]
      show ((at' glob0 (i : Int)).bind fun x1 => some x1) = some x
      rw [h]
      rfl
    rw [e]
    rfl)
theorem spec_code (s : ByteArray) (hs : s.size ≤ maxLen) : spec_l28Code s = some (codeB s) := by
  unfold spec_l28Code codeB
  rw [spec_isWord s hs, dir_eq]
  have hd : decide (idxP (fun x : ByteArray => x.toList == s.toList) glob0 < 0) = !(glob0.any fun x => s.toList == x.toList) := by
    rw [idxP_neg]
    congr 1
    congr 1
    funext x
    exact BEq.comm
  simp only [Option.bind_some, hd, w9, List.any_cons, List.any_nil, Bool.or_false]
  generalize (glob0.any fun x => s.toList == x.toList) = g
  generalize (s.toList == (ByteArray.mk #[97, 116]).toList) = b1
  generalize (s.toList == (ByteArray.mk #[110, 101, 97, 114]).toList) = b2
  generalize (s.toList == (ByteArray.mk #[111, 102]).toList) = b3
  generalize (s.toList == (ByteArray.mk #[98, 101, 116, 119, 101, 101, 110]).toList) = b4
  generalize (s.toList == (ByteArray.mk #[97, 110, 100]).toList) = b5
  generalize (s.toList == (ByteArray.mk #[109, 105, 108, 101]).toList) = b6
  generalize (s.toList == (ByteArray.mk #[109, 105, 108, 101, 115]).toList) = b7
  generalize (s.toList == (ByteArray.mk #[108, 101, 97, 103, 117, 101]).toList) = b8
  generalize (s.toList == (ByteArray.mk #[108, 101, 97, 103, 117, 101, 115]).toList) = b9
  generalize wordB s = w
  cases b1
  · cases b2
    · cases b3
      · cases b4
        · cases b5
          · cases b6
            · cases b7
              · cases b8
                · cases b9 <;> cases w <;> cases g <;> rfl
                · cases w <;> rfl
              · cases w <;> rfl
            · cases w <;> rfl
          · cases w <;> rfl
        · cases w <;> rfl
      · cases w <;> rfl
    · cases w <;> rfl
  · cases w <;> rfl
def ptB (p : Point) : Bool := inB p.X (-1000) 1000 && inB p.Y (-1000) 1000
theorem impl_pt (p : Point) : impl_IsPoint p = some (ptB p) := by
  unfold impl_IsPoint ptB
  rw [within_eq, within_eq]
  cases inB p.X (-1000) 1000 <;> rfl
theorem spec_pt (p : Point) : spec_IsPoint p = some (ptB p) := by
  unfold spec_IsPoint ptB
  rw [l01In_eq, l01In_eq]
  cases inB p.X (-1000) 1000 <;> rfl
/-- Is a site none as described, at its place? -/
def siteN (L : List Site) (i : Nat) (x : Site) : Bool := !codeB x.Code || (!ptB x.At || (decide ((i : Int) > 0) && match L[i - 1]? with
  | some y => !(Op.bytesLess y.Code.toList x.Code.toList)
  | none => false))
def sitesR (L : List Site) : Option Bool := match firstI (siteN L) (fun _ _ => false) L 0 with
  | some r => some r
  | none => some (decide ((L.length : Int) ≤ 10))
theorem impl_sites {L : List Site} (hL : L.length ≤ 1048576) (h : ∀ x ∈ L, smSite x) : impl_AreSites L = sitesR L := by
  unfold impl_AreSites
  rw [loop_first (by omega) (siteN L) (fun _ _ => false) (fun i x hx => by
    have hi : i < L.length := (List.getElem?_eq_some_iff.1 hx).1
    have hs := (h x (List.mem_of_getElem? hx)).s0
    rw [at_nat, hx, Option.bind_some, impl_code x.Code (by unfold maxLen; omega), impl_pt]
    unfold siteN
    by_cases h0 : (i : Int) > 0
    · have hy : L[i - 1]? = some (L[i - 1]'(by omega)) := List.getElem?_eq_getElem _
      have e : at' L (w64 ((i : Int) - 1)) = some (L[i - 1]'(by omega)) := by
        rw [w64_id (by omega) (by omega), show (i : Int) - 1 = ((i - 1 : Nat) : Int) by omega, at_nat, hy]
      rw [decide_eq_true h0, e, hy]
      cases codeB x.Code <;> cases ptB x.At <;> rfl
    · rw [decide_eq_false h0]
      cases codeB x.Code <;> cases ptB x.At <;> rfl)]
  unfold sitesR
  cases firstI (siteN L) (fun _ _ => false) L 0 <;> rfl
theorem spec_sites {L : List Site} (hL : L.length ≤ 1048576) (h : ∀ x ∈ L, smSite x) : spec_AreSites L = sitesR L := by
  unfold spec_AreSites
  rw [loop_first (by omega) (siteN L) (fun _ _ => false) (fun i x hx => by
    have hi : i < L.length := (List.getElem?_eq_some_iff.1 hx).1
    have hs := (h x (List.mem_of_getElem? hx)).s0
    rw [at_nat, hx, Option.bind_some, spec_code x.Code (by unfold maxLen; omega)]
    simp only [Option.bind_some, spec_pt]
    unfold siteN
    by_cases h0 : (i : Int) > 0
    · have hy : L[i - 1]? = some (L[i - 1]'(by omega)) := List.getElem?_eq_getElem _
      have e : at' L (w64 ((i : Int) - 1)) = some (L[i - 1]'(by omega)) := by
        rw [w64_id (by omega) (by omega), show (i : Int) - 1 = ((i - 1 : Nat) : Int) by omega, at_nat, hy]
      rw [decide_eq_true h0, e, hy]
      cases codeB x.Code <;> cases ptB x.At <;> rfl
    · rw [decide_eq_false h0]
      cases codeB x.Code <;> cases ptB x.At <;> rfl)]
  unfold sitesR
  cases firstI (siteN L) (fun _ _ => false) L 0 <;> rfl
end Go.Proofs.YtodgenjlhiiieaaGreatDoor.Sh
