/- Plain laws of descriptions: units, IsDescription and the code of sites and descriptions, of both; bounds on lengths alone. -/
import Derived.Test.YtodgenjlhiiieaaGreatDoorBLC1
namespace Go.Proofs.YtodgenjlhiiieaaGreatDoor.Sh
open Go.RowKit Go.Lib
section
variable {α A : Type}
theorem loop_any0 {L : List α} (hL : L.length ≤ 9223372036854775807) {B : Int → Unit → Option (Unit ⊕ A)} {D : Unit → A} (p : α → Bool) (a : A) (h : ∀ (i : Nat) x, L[i]? = some x → B (i : Int) () = bif p x then some (.inr a) else some (.inl ())) :
    forN (L.length : Int) B D 0 () = bif L.any p then some a else some (D ()) := by
  rw [forN_list L hL B (fun _ x _ => bif p x then some (.inr a) else some (.inl ())) _ () (fun j x _ hx => h j x hx), overI_any]
  cases L.any p <;> rfl
end
abbrev tMile : ByteArray := ByteArray.mk #[109, 105, 108, 101]
abbrev tMiles : ByteArray := ByteArray.mk #[109, 105, 108, 101, 115]
abbrev tLeague : ByteArray := ByteArray.mk #[108, 101, 97, 103, 117, 101]
abbrev tLeagues : ByteArray := ByteArray.mk #[108, 101, 97, 103, 117, 101, 115]
abbrev tNo : ByteArray := ByteArray.mk #[]
def unitB (u : ByteArray) (c : Int) : Bool := bif c == 1 then (u.toList == tMile.toList) || (u.toList == tLeague.toList) else (u.toList == tMiles.toList) || (u.toList == tLeagues.toList)
def unitN (u : ByteArray) (c : Int) : Int := bif c == 1 then (bif u.toList == tMile.toList then 4 else bif u.toList == tLeague.toList then 12 else 0) else (bif u.toList == tMiles.toList then 4 else bif u.toList == tLeagues.toList then 12 else 0)
theorem impl_unit (u : ByteArray) (c : Int) : impl_isUnit u c = some (unitB u c) := by
  unfold impl_isUnit unitB
  cases (c == 1) <;> rfl
theorem unitN_pos (u : ByteArray) (c : Int) : decide (unitN u c > 0) = unitB u c := by
  unfold unitN unitB
  cases (c == 1) <;> simp only [cond_true, cond_false]
  · cases (u.toList == tMiles.toList) <;> cases (u.toList == tLeagues.toList) <;> rfl
  · cases (u.toList == tMile.toList) <;> cases (u.toList == tLeague.toList) <;> rfl
theorem snoc_beq (l m : List UInt8) (b : UInt8) : ((l ++ [b]) == (m ++ [b])) = (l == m) := by
  rw [Bool.eq_iff_iff, beq_iff_eq, beq_iff_eq, List.append_left_inj]
theorem mk_list (l : List UInt8) : (ByteArray.mk l.toArray).toList = l := by rw [toList_eq]
theorem q_mile : tMile.toList = [109, 105, 108, 101] := mk_list _
theorem q_miles : tMiles.toList = [109, 105, 108, 101] ++ [115] := mk_list _
theorem q_league : tLeague.toList = [108, 101, 97, 103, 117, 101] := mk_list _
theorem q_leagues : tLeagues.toList = [108, 101, 97, 103, 117, 101] ++ [115] := mk_list _
theorem spec_unit (u : ByteArray) (c : Int) (hu : u.size ≤ 1048576) : spec_l28Unit u c = some (unitN u c) := by
  unfold spec_l28Unit unitN
  rw [q_mile, q_miles, q_league, q_leagues]
  cases hc : (c == 1) with
  | true =>
    rw [show (c != 1) = false by rw [bne, hc]; rfl]
    simp only [cond_false, cond_true, Option.bind_some, Sum.elim_inl]
    cases (u.toList == [109, 105, 108, 101]) <;> cases (u.toList == [108, 101, 97, 103, 117, 101]) <;> rfl
  | false =>
    rw [show (c != 1) = true by rw [bne, hc]; rfl]
    simp only [cond_false, cond_true]
    have hsz := size_list u
    rcases List.eq_nil_or_concat u.data.toList with hn | ⟨l, b, hl⟩
    · have h0 : u.size = 0 := by rw [← hsz, hn]; rfl
      have hu0 : u.toList = [] := by rw [toList_eq, hn]
      rw [h0, hu0]
      rfl
    · rw [List.concat_eq_append] at hl
      have hs : u.size = l.length + 1 := by rw [← hsz, hl]; simp
      have e0 : ((u.size : Int) == 0) = false := by rw [beq_eq_false_iff_ne]; omega
      have e1 : w64 ((u.size : Int) - 1) = (l.length : Int) := by rw [w64_id (by omega) (by omega)]; omega
      have e2 : byte' u (l.length : Int) = some (b.toNat : Int) := byte_get (by rw [hl, List.getElem?_append_right (Nat.le_refl _)]; simp)
      have e3 : sub' u 0 (l.length : Int) = some ⟨l.toArray⟩ := by
        have := sub_ok (s := u) (a := 0) (b := l.length) (Nat.zero_le _) (by omega)
        rw [hl] at this
        simpa using this
      rw [e0, cond_false, e1, e2, e3]
      simp only [Option.bind_some]
      have e4 : u.toList = l ++ [b] := by rw [toList_eq, hl]
      by_cases hb : b = 115
      · subst hb
        rw [show (((115 : UInt8).toNat : Int) != 115) = false from rfl]
        simp only [cond_false, Option.bind_some, Sum.elim_inl, mk_list]
        rw [e4, snoc_beq, snoc_beq]
        cases (l == [109, 105, 108, 101]) <;> cases (l == [108, 101, 97, 103, 117, 101]) <;> rfl
      · have hne : ((b.toNat : Int) != 115) = true := by
          rw [bne_iff_ne]
          intro h
          exact hb (UInt8.toNat_inj.1 (by rw [show (115 : UInt8).toNat = 115 from rfl]; omega))
        have hx : ∀ m : List UInt8, ((l ++ [b]) == (m ++ [115])) = false := fun m => by
          rw [beq_eq_false_iff_ne]
          intro h
          have := List.append_inj_right' h rfl
          injection this with this
          exact hb this
        rw [hne]
        simp only [cond_true, Option.bind_some, Sum.elim_inr]
        rw [e4, hx, hx]
        rfl
structure okSz (d : Description) : Prop where
  u : d.Unit.size ≤ 1048576
  a : d.A.size ≤ 1048576
  b : d.B.size ≤ 1048576
def noB (s : ByteArray) : Bool := s.toList == tNo.toList
def descB (d : Description) : Bool := codeB d.A && bif d.Kind == 2 then inB d.Count 1 99 && (unitB d.Unit d.Count && (inB d.Direction 0 7 && noB d.B)) else (d.Count == 0) && (noB d.Unit && ((d.Direction == 0) && bif (d.Kind == 0) || (d.Kind == 1) then noB d.B else (d.Kind == 3) && (codeB d.B && !(d.A.toList == d.B.toList))))
theorem impl_desc (d : Description) (h : okSz d) : impl_IsDescription d = some (descB d) := by
  unfold impl_IsDescription descB
  have h1 := h.a
  have h2 := h.b
  simp only [impl_code d.A (by unfold maxLen; omega), impl_code d.B (by unfold maxLen; omega), within_eq, impl_unit, Option.bind_some, beq_self_eq_true, Bool.true_and, Bool.and_true]
  rw [show (d.B.toList == tNo.toList) = noB d.B from rfl, show (d.Unit.toList == tNo.toList) = noB d.Unit from rfl]
  generalize codeB d.A = ca
  generalize codeB d.B = cb
  generalize noB d.B = nb
  generalize noB d.Unit = nu
  generalize (d.A.toList == d.B.toList) = ab
  generalize inB d.Count 1 99 = w
  generalize unitB d.Unit d.Count = u
  generalize inB d.Direction 0 7 = dr
  generalize (d.Count == 0) = c0
  generalize (d.Direction == 0) = d0
  cases ca
  · rfl
  · cases h2 : (d.Kind == 2) with
    | true =>
      have hk : d.Kind = 2 := by simpa using h2
      rw [hk, show ((2 : Int) == 0) = false from rfl, show ((2 : Int) == 1) = false from rfl]
      cases w <;> cases u <;> cases dr <;> rfl
    | false =>
      generalize (d.Kind == 0) = k0
      generalize (d.Kind == 1) = k1
      generalize (d.Kind == 3) = k3
      cases k0 <;> cases k1 <;> cases k3 <;> cases c0 <;> cases nu <;> cases d0 <;> cases cb <;> rfl
theorem spec_desc (d : Description) (h : okSz d) : spec_IsDescription d = some (descB d) := by
  unfold spec_IsDescription descB
  have h1 := h.a
  have h2 := h.b
  simp only [spec_code d.A (by unfold maxLen; omega), spec_code d.B (by unfold maxLen; omega), l01In_eq, spec_unit d.Unit d.Count h.u, Option.bind_some, unitN_pos, bne]
  rw [show (d.B.toList == tNo.toList) = noB d.B from rfl, show (d.Unit.toList == tNo.toList) = noB d.Unit from rfl]
  generalize codeB d.A = ca
  generalize codeB d.B = cb
  generalize noB d.B = nb
  generalize noB d.Unit = nu
  generalize (d.A.toList == d.B.toList) = ab
  generalize inB d.Count 1 99 = w
  generalize unitB d.Unit d.Count = u
  generalize inB d.Direction 0 7 = dr
  generalize (d.Count == 0) = c0
  generalize (d.Direction == 0) = d0
  cases ca
  · rfl
  · cases (d.Kind == 2) with
    | true => cases w <;> cases u <;> cases dr <;> rfl
    | false =>
      generalize (d.Kind == 0) = k0
      generalize (d.Kind == 1) = k1
      generalize (d.Kind == 3) = k3
      cases k0 <;> cases k1 <;> cases k3 <;> cases c0 <;> cases nu <;> cases d0 <;> cases cb <;> rfl
theorem siteOf_any (L : List Site) (c : ByteArray) : (siteOf L c).2 = L.any (codeIs c) := by
  unfold siteOf
  rw [← List.isSome_find?]
  cases L.find? (codeIs c) <;> rfl
/-- Is a place that a description uses none of the sites? -/
def lack (L : List Site) (d : Description) : Bool := !L.any (codeIs d.A) || ((d.Kind == 3) && !L.any (codeIs d.B))
def codeS (L : List Site) (ds : List Description) (s ok : Bool) : Int := bif !s || (!ok || ds.any fun d => !descB d) then 1 else bif ds.any (lack L) then 4 else bif decide ((ds.length : Int) > 8) then 3 else 0
theorem places_eq (d : Description) : impl_Description_places d = some (bif d.Kind == 3 then [d.A, d.B] else [d.A]) := by
  unfold impl_Description_places
  cases (d.Kind == 3) <;> rfl
theorem sitesR_some (L : List Site) : ∃ b, sitesR L = some b := by
  unfold sitesR
  cases firstI (siteN L) (fun _ _ => false) L 0 with
  | none => exact ⟨_, rfl⟩
  | some r => exact ⟨_, rfl⟩
theorem impl_siteCode_eq {L : List Site} {ds : List Description} (hL : L.length ≤ 1048576) (h : ∀ x ∈ L, smSite x) (hd : ds.length ≤ 1048576) (hds : ∀ x ∈ ds, okSz x) (ok : Bool) {s : Bool} (hs : sitesR L = some s) : impl_siteCode L ds ok = some (codeS L ds s ok) := by
  unfold impl_siteCode codeS slices_ContainsFunc_Description_impl_siteCode_1 slices_IndexFunc_Description_impl_siteCode_1 impl_siteCode_1
  rw [impl_sites hL h, hs, Option.bind_some, loop_idx (by omega) (fun d => !descB d) (fun i x hx => by rw [at_nat, hx, Option.bind_some, impl_desc x (hds x (List.mem_of_getElem? hx))]; rfl), Option.bind_some, idxP_any]
  cases s
  · rfl
  · cases ok
    · rfl
    · cases hany : (ds.any fun d => !descB d) with
      | true => rfl
      | false =>
        simp only [Bool.not_true, Bool.false_or, cond_false, Option.bind_some]
        obtain ⟨h1, _, h3⟩ := sites_sorted hs
        rw [loop_any (by omega) (lack L) 4 (fun i x hx => by
          rw [at_nat, hx, Option.bind_some, places_eq, Option.bind_some]
          have hloop := loop_any0 (L := bif x.Kind == 3 then [x.A, x.B] else [x.A]) (A := Unit ⊕ (Unit ⊕ Int)) (D := fun _ => .inl ()) (B := fun (i13 : Int) (_ : Unit) => ((at' (bif x.Kind == 3 then [x.A, x.B] else [x.A]) i13).bind fun x17 => ((impl_findSite L x17).bind fun x18 => (bif (!x18.2) then some (.inr (.inr (.inr 4))) else some (.inl ()))))) (by cases (x.Kind == 3) <;> simp) (fun c => !L.any (codeIs c)) (.inr (.inr 4)) (fun j c hc => by
            rw [at_nat, hc, Option.bind_some, findSite_eq h3 h1 c, Option.bind_some, siteOf_any])
          rw [hloop]
          unfold lack
          cases (x.Kind == 3) <;> simp)]
        cases ds.any (lack L) <;> cases decide ((ds.length : Int) > 8) <;> rfl
theorem spec_siteCode_eq {L : List Site} {ds : List Description} (hL : L.length ≤ 1048576) (h : ∀ x ∈ L, smSite x) (hd : ds.length ≤ 1048576) (hds : ∀ x ∈ ds, okSz x) {s : Bool} (hs : sitesR L = some s) : spec_l29Code L ds = some (codeS L ds s true) := by
  unfold spec_l29Code codeS
  rw [spec_sites hL h, hs, Option.bind_some]
  cases s
  · rfl
  · simp only [Bool.not_true, cond_false, Bool.false_or]
    rw [loop_any (by omega) (fun d => !descB d) 1 (fun i x hx => by rw [at_nat, hx, Option.bind_some, spec_desc x (hds x (List.mem_of_getElem? hx))]; rfl)]
    cases hany : (ds.any fun d => !descB d) with
    | true => rfl
    | false =>
      simp only [cond_false]
      rw [loop_any (by omega) (lack L) 4 (fun i x hx => by
        have hm := List.mem_of_getElem? hx
        have hdx : descB x = true := by
          have := List.any_eq_false.1 hany x hm
          simpa using this
        rw [at_nat, hx, Option.bind_some, find_eq hL, find_eq hL, Option.bind_some, idxP_neg, Option.bind_some, idxP_neg]
        unfold lack
        have hB : (!(x.B.toList == tNo.toList)) = (x.Kind == 3) := by
          unfold descB at hdx
          rw [Bool.and_eq_true] at hdx
          have h4 := hdx.2
          cases h2 : (x.Kind == 2) with
          | true =>
            rw [h2, cond_true] at h4
            have hk : x.Kind = 2 := by simpa using h2
            simp only [Bool.and_eq_true] at h4
            have h5 : (x.B.toList == tNo.toList) = true := h4.2.2.2
            rw [h5, hk]
            rfl
          | false =>
            rw [h2, cond_false] at h4
            simp only [Bool.and_eq_true] at h4
            have h5 := h4.2.2.2
            cases h01 : ((x.Kind == 0) || (x.Kind == 1)) with
            | true =>
              rw [h01, cond_true] at h5
              have h6 : (x.B.toList == tNo.toList) = true := h5
              rw [h6]
              have hk : x.Kind = 0 ∨ x.Kind = 1 := by simpa using h01
              rcases hk with hk | hk <;> rw [hk] <;> rfl
            | false =>
              rw [h01, cond_false, Bool.and_eq_true, Bool.and_eq_true] at h5
              rw [h5.1]
              have hcb := h5.2.1
              unfold codeB at hcb
              rw [Bool.and_eq_true] at hcb
              have := (wordB_size hcb.1).1
              rw [beqL_nil this]
              rfl
        rw [hB]
        cases L.any (codeIs x.A) <;> cases (x.Kind == 3) <;> cases L.any (codeIs x.B) <;> rfl)]
      cases ds.any (lack L) <;> cases decide ((ds.length : Int) > 8) <;> rfl
end Go.Proofs.YtodgenjlhiiieaaGreatDoor.Sh
