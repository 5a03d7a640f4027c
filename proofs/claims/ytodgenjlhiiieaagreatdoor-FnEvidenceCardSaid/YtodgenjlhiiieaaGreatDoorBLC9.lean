/- Plain laws: texts of descriptions, EvidenceFor, of both; bounds on lengths alone. -/
import Derived.Test.YtodgenjlhiiieaaGreatDoorBLC8
namespace Go.Proofs.YtodgenjlhiiieaaGreatDoor.Sh
open Go.RowKit Go.Lib
theorem cat_ex (u v : ByteArray) (h1 : u.size ≤ 100000000) (h2 : v.size ≤ 100000000) : ∃ w, cat' u v = some w ∧ w.size = u.size + v.size := by
  refine ⟨u ++ v, ?_, ByteArray.size_append⟩
  unfold cat'
  rw [if_pos (by omega)]
theorem dec_spec : ∀ k : Fin 100, (spec_l01Dec (k.val : Int)).map (fun s => s.data.toList) = some (decDigits k.val) := by decide +kernel
theorem dec_impl : ∀ k : Fin 100, (decDigits k.val).length ≤ 2 := by decide +kernel
theorem dec_eq {n : Int} (h1 : 1 ≤ n) (h2 : n ≤ 99) : ∃ t, impl_decimal n = some t ∧ spec_l01Dec n = some t ∧ t.size ≤ 2 := by
  obtain ⟨m, rfl⟩ := Int.eq_ofNat_of_zero_le (show 0 ≤ n by omega)
  have hm : m < 100 := by omega
  have hs := dec_spec ⟨m, hm⟩
  have hl := dec_impl ⟨m, hm⟩
  simp only at hs hl
  refine ⟨⟨(decDigits m).toArray⟩, ?_, ?_, ?_⟩
  · unfold impl_decimal strconv_FormatInt
    rw [if_pos ⟨rfl, by omega, by omega⟩]
    rfl
  · rw [Option.map_eq_some_iff] at hs
    obtain ⟨s, h3, h4⟩ := hs
    rw [h3]
    congr 1
    rw [← h4]
  · show (decDigits m).toArray.size ≤ 2
    rw [List.size_toArray]
    exact hl
theorem word26 (i : Int) : spec_l26Word i = at' glob0 i := by
  show ((at' glob0 i).bind fun x1 => some x1) = _
  cases at' glob0 i <;> rfl
theorem word26_ex {i : Int} (h0 : 0 ≤ i) (h7 : i ≤ 7) : ∃ w, at' glob0 i = some w ∧ w.size ≤ 9 := by
  obtain ⟨m, rfl⟩ := Int.eq_ofNat_of_zero_le h0
  have hm : m < 8 := by omega
  have h9 : ∀ k : Fin 8, ∃ w, glob0[k.val]? = some w ∧ w.size ≤ 9 := by
    intro k
    match k with
    | 0 => exact ⟨_, rfl, by decide⟩
    | 1 => exact ⟨_, rfl, by decide⟩
    | 2 => exact ⟨_, rfl, by decide⟩
    | 3 => exact ⟨_, rfl, by decide⟩
    | 4 => exact ⟨_, rfl, by decide⟩
    | 5 => exact ⟨_, rfl, by decide⟩
    | 6 => exact ⟨_, rfl, by decide⟩
    | 7 => exact ⟨_, rfl, by decide⟩
  rw [at_nat]
  exact h9 ⟨m, hm⟩
theorem text_eq {d : Description} (hd : descB d = true) (hz : okSz d) : ∃ t, impl_descriptionText d = some t ∧ spec_l28Text d = some t := by
  have ha := hz.a
  have hb := hz.b
  have hu := hz.u
  unfold impl_descriptionText spec_l28Text
  rcases desc_kind hd with hk | hk | hk | hk
  · obtain ⟨w, e, _⟩ := cat_ex (ByteArray.mk #[97, 116, 32]) d.A (by show 3 ≤ 100000000; omega) (by omega)
    rw [hk, e]
    exact ⟨_, rfl, rfl⟩
  · obtain ⟨w, e, _⟩ := cat_ex (ByteArray.mk #[110, 101, 97, 114, 32]) d.A (by show 5 ≤ 100000000; omega) (by omega)
    rw [hk, e]
    exact ⟨_, rfl, rfl⟩
  · obtain ⟨_, h1, h2⟩ := desc_from hd hk
    obtain ⟨t, t1, t2, t3⟩ := dec_eq h1.1 h1.2
    obtain ⟨v, v1, v2⟩ := word26_ex h2.1 h2.2
    obtain ⟨w1, e1, s1⟩ := cat_ex t (ByteArray.mk #[32]) (by omega) (by show 1 ≤ 100000000; omega)
    have z1 : (ByteArray.mk #[32]).size = 1 := rfl
    obtain ⟨w2, e2, s2⟩ := cat_ex w1 d.Unit (by omega) (by omega)
    obtain ⟨w3, e3, s3⟩ := cat_ex w2 (ByteArray.mk #[32]) (by omega) (by omega)
    obtain ⟨w4, e4, s4⟩ := cat_ex w3 v (by omega) (by omega)
    have z2 : (ByteArray.mk #[32, 111, 102, 32]).size = 4 := rfl
    obtain ⟨w5, e5, s5⟩ := cat_ex w4 (ByteArray.mk #[32, 111, 102, 32]) (by omega) (by omega)
    obtain ⟨w6, e6, s6⟩ := cat_ex w5 d.A (by omega) (by omega)
    rw [hk, t1, t2, word26, v1]
    simp only [Option.bind_some, e1, e2, e3, e4, e5, e6]
    exact ⟨_, rfl, rfl⟩
  · obtain ⟨w1, e1, s1⟩ := cat_ex (ByteArray.mk #[98, 101, 116, 119, 101, 101, 110, 32]) d.A (by show 8 ≤ 100000000; omega) (by omega)
    have z1 : (ByteArray.mk #[98, 101, 116, 119, 101, 101, 110, 32]).size = 8 := rfl
    have z2 : (ByteArray.mk #[32, 97, 110, 100, 32]).size = 5 := rfl
    obtain ⟨w2, e2, s2⟩ := cat_ex w1 (ByteArray.mk #[32, 97, 110, 100, 32]) (by omega) (by omega)
    obtain ⟨w3, e3, s3⟩ := cat_ex w2 d.B (by omega) (by omega)
    rw [hk, e1]
    simp only [show ((3 : Int) == 0) = false from rfl, show ((3 : Int) == 1) = false from rfl, show ((3 : Int) == 2) = false from rfl, cond_false, Option.bind_some, e2, e3]
    exact ⟨_, rfl, rfl⟩
/-- The text of a description. -/
noncomputable def textD (d : Description) : ByteArray := (spec_l28Text d).getD tNo
theorem impl_text {d : Description} (hd : descB d = true) (hz : okSz d) : impl_descriptionText d = some (textD d) := by
  obtain ⟨t, h1, h2⟩ := text_eq hd hz
  unfold textD
  rw [h1, h2]
  rfl
theorem spec_text {d : Description} (hd : descB d = true) (hz : okSz d) : spec_l28Text d = some (textD d) := by
  obtain ⟨t, h1, h2⟩ := text_eq hd hz
  unfold textD
  rw [h2]
  rfl
section
variable {C : List Candidate} {L : List Site} {ds : List Description}
noncomputable def evL' (L : List Site) (ds : List Description) (p : Point) : List ByteArray := (ds.filter fun d => satB L d p).map textD
theorem ev_step (p : Point) {i : Nat} {d : Description} (h : ds[i]? = some d) : evL' L (ds.take (i + 1)) p = evL' L (ds.take i) p ++ (bif satB L d p then [textD d] else []) := by
  unfold evL'
  rw [List.take_add_one, h, List.filter_append, List.map_append]
  congr 1
  cases hs : satB L d p <;> simp [hs]
theorem ev_len (p : Point) : (evL' L ds p).length ≤ ds.length := by
  unfold evL'
  rw [List.length_map]
  exact List.length_filter_le _ _
theorem phrase_a : phraseB (ByteArray.mk #[97]) = true := by decide +kernel
theorem evidenceFor_eq (a : Asked C (ByteArray.mk #[97]) L ds) (c : ByteArray) : ∃ r, impl_EvidenceFor C c L ds = some r ∧ spec_EvidenceFor C c L ds = some r ∧ r.1.length ≤ 1048576 := by
  obtain ⟨cb, hc⟩ := candsR_some C
  obtain ⟨s, hs⟩ := sitesR_some L
  unfold impl_EvidenceFor spec_EvidenceFor spec_l30Named
  have hq : qCode C (ByteArray.mk #[97]) L ds cb s = codeS L ds s cb := by unfold qCode; rw [phrase_a, Bool.and_true]
  rw [impl_cands_eq a.c a.c1, hc, Option.bind_some, impl_siteCode_eq a.l a.l1 a.d a.d1 _ hs, spec_qcode a hc hs, Option.bind_some, Option.bind_some, impl_findC a.c, spec_findC a.c, hq]
  simp only [Option.bind_some, idxP_neg]
  by_cases h0 : codeS L ds s cb = 0
  · obtain ⟨f, pt, _, hC⟩ := qcode_ok a hc hs (by rw [hq]; exact h0)
    rw [h0]
    cases hany : C.any (codeC c) with
    | false => exact ⟨_, rfl, rfl, by simp⟩
    | true =>
      rcases idx_find (codeC c) C with ⟨_, h2⟩ | ⟨i, x, h1, h2, h3⟩
      · rw [← List.isSome_find?, h2] at hany
        cases hany
      · have hx := hC x (List.mem_of_getElem? h2)
        simp only [show ((0 : Int) != 0) = false from rfl, show ((0 : Int) == 0) = true from rfl, Bool.not_true, cond_false, cond_true, Option.bind_some, h1]
        have hk := f.k
        have e1 := forS_seq (n := ds.length) (by omega) (B := fun (i6 : Int) (s6 : (List ByteArray)) => ((at' ds i6).bind fun x10 => ((at' C (i : Int)).bind fun x11 => ((impl_satisfies L x10 x11.At).bind fun x12 => (bif x12 then ((impl_descriptionText x10).bind fun x13 => ((app' s6 ([x13] : List ByteArray)).bind fun x14 => some x14)) else some s6))))) (D := fun (s6 : (List ByteArray)) => s6) (fun k => evL' L (ds.take k) x.At) (fun j hj => by
          have hd : ds[j]? = some (ds[j]'hj) := List.getElem?_eq_getElem _
          generalize ds[j]'hj = d at hd
          obtain ⟨d1, d2, d3⟩ := f.d d (List.mem_of_getElem? hd)
          have hl := ev_len (L := L) (ds := ds.take j) x.At
          rw [List.length_take] at hl
          simp only [at_nat, hd, h2, Option.bind_some, impl_sat f.n f.s f.p d1 d2 hx.p, impl_text d1 d3, ev_step x.At hd]
          cases satB L d x.At
          · simp
          · simp only [cond_true]
            rw [app_ok (by simp; omega)]
            rfl)
        have e2 := forS_seq (n := ds.length) (by omega) (B := fun (i4 : Int) (s4 : (List ByteArray)) => ((at' ds i4).bind fun x8 => ((at' C (i : Int)).bind fun x10 => ((spec_l29Satisfies L x8 x10.At).bind fun x11 => (bif x11 then ((at' ds i4).bind fun x12 => ((spec_l28Text x12).bind fun x13 => ((app' s4 ([x13] : List ByteArray)).bind fun x14 => some x14))) else some s4))))) (D := fun (s4 : (List ByteArray)) => s4) (fun k => evL' L (ds.take k) x.At) (fun j hj => by
          have hd : ds[j]? = some (ds[j]'hj) := List.getElem?_eq_getElem _
          generalize ds[j]'hj = d at hd
          obtain ⟨d1, d2, d3⟩ := f.d d (List.mem_of_getElem? hd)
          have hl := ev_len (L := L) (ds := ds.take j) x.At
          rw [List.length_take] at hl
          simp only [at_nat, hd, h2, Option.bind_some, spec_sat f.n f.p d3.u d1 d2 hx.p, spec_text d1 d3, ev_step x.At hd]
          cases satB L d x.At
          · simp
          · simp only [cond_true]
            rw [app_ok (by simp; omega)]
            rfl)
        have z0 : evL' L (ds.take 0) x.At = [] := rfl
        simp only [z0] at e1 e2
        rw [e1, e2]
        refine ⟨_, rfl, rfl, ?_⟩
        have := ev_len (L := L) (ds := ds) x.At
        simp
        omega
  · have e1 : (codeS L ds s cb == 0) = false := by rw [beq_eq_false_iff_ne]; exact h0
    have e2 : (codeS L ds s cb != 0) = true := by rw [bne, e1]; rfl
    simp only [e1, e2, cond_false, cond_true, Option.bind_some]
    exact ⟨_, rfl, rfl, by simp⟩
end
end Go.Proofs.YtodgenjlhiiieaaGreatDoor.Sh
