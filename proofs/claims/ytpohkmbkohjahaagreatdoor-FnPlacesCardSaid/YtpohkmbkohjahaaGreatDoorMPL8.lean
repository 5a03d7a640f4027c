/- Places: PlacesIn, PlacesNamed and HomonymsIn of both; bounds on lengths alone. -/
import Derived.Test.YtpohkmbkohjahaaGreatDoorMPL7
import Derived.Test.YtpohkmbkohjahaaGreatDoorMST1
import Derived.Test.YtpohkmbkohjahaaGreatDoorMGV
namespace Go.Proofs.YtpohkmbkohjahaaGreatDoor.Sh
open Go.RowKit Go.Lib
/-- Has a name the text in a year? -/
def hasN (t : ByteArray) (y : Int) (n : Name) : Bool := (n.Text.toList == t.toList) && inB y n.Years.From n.Years.To
def namedB (t : ByteArray) (y : Int) (p : Place) : Bool := p.Names.any (hasN t y)
theorem impl_named {p : Place} (h : PlR p) (t : ByteArray) (y : Int) : impl_Place_isNamed p t y = some (namedB t y p) := by
  have hl := h.l
  unfold impl_Place_isNamed slices_ContainsFunc_Name_impl_Place_isNamed_1 slices_IndexFunc_Name_impl_Place_isNamed_1 impl_Place_isNamed_1 impl_Span_has namedB
  rw [loop_idx (by omega) (hasN t y) (fun k x hx => by
    rw [at_nat, hx, Option.bind_some, within_eq]
    unfold hasN
    cases x.Text.toList == t.toList <;> rfl), Option.bind_some, idxP_any]
  rfl
def usedL (N : List Name) (y : Int) : List Int := (List.range N.length).flatMap fun (i : Nat) => bif ((N[i]?).map fun n => inB y n.Years.From n.Years.To).getD false then [(i : Int)] else []
theorem mem_used {N : List Name} {y x : Int} : x ∈ usedL N y ↔ ∃ (i : Nat) (n : Name), x = i ∧ N[i]? = some n ∧ inB y n.Years.From n.Years.To = true := by
  unfold usedL
  rw [List.mem_flatMap]
  constructor
  · rintro ⟨i, hi, hx⟩
    cases hn : N[i]? with
    | none => rw [hn] at hx; simp at hx
    | some n =>
      rw [hn, Option.map_some, Option.getD_some] at hx
      cases hb : inB y n.Years.From n.Years.To
      · rw [hb] at hx; simp at hx
      · rw [hb] at hx
        exact ⟨i, n, by simpa using hx, hn, hb⟩
  · rintro ⟨i, n, rfl, hn, hb⟩
    refine ⟨i, List.mem_range.2 (List.getElem?_eq_some_iff.1 hn).1, ?_⟩
    rw [hn, Option.map_some, Option.getD_some, hb]
    simp
theorem used_one (N : List Name) (y : Int) (i : Nat) : (bif ((N[i]?).map fun n => inB y n.Years.From n.Years.To).getD false then [(i : Int)] else ([] : List Int)).length ≤ 1 := by
  cases ((N[i]?).map fun n => inB y n.Years.From n.Years.To).getD false <;> simp
theorem flat_leP {α β : Type} {f : α → List β} (hf : ∀ x, (f x).length ≤ 1) : ∀ (M : List α), (M.flatMap f).length ≤ M.length
  | [] => by simp
  | x :: M => by
    have h1 := hf x
    have h2 := flat_leP hf M
    rw [List.flatMap_cons, List.length_append, List.length_cons]
    omega
theorem spec_used_eq {N : List Name} (hN : N.length ≤ 1000) (y : Int) : spec_l09Used N y = some (usedL N y) := by
  unfold spec_l09Used
  rw [forS_build 1000000 (by omega) (by omega) (fun (i : Nat) => bif ((N[i]?).map fun n => inB y n.Years.From n.Years.To).getD false then [(i : Int)] else []) (used_one N y) [] (by simp; omega) (fun i s hi hs => by
    rw [at_nat, List.getElem?_eq_getElem hi, Option.bind_some, Option.bind_some, l01In_eq, Option.bind_some, Option.map_some, Option.getD_some]
    cases inB y N[i].Years.From N[i].Years.To
    · simp
    · rw [cond_true, cond_true, app_ok (by simp; omega)]
      rfl)]
  rfl
theorem spec_named {p : Place} (h : p.Names.length ≤ 1000) (t : ByteArray) (y : Int) : spec_l11Has p t y = some (namedB t y p) := by
  have hu : (usedL p.Names y).length ≤ p.Names.length := by
    have := flat_leP (used_one p.Names y) (List.range p.Names.length)
    rw [List.length_range] at this
    exact this
  unfold spec_l11Has
  rw [spec_used_eq h, Option.bind_some, loop_any (L := usedL p.Names y) (by omega) (fun j => ((p.Names[j.toNat]?).map fun n => n.Text.toList == t.toList).getD false) true (fun i x hx => by
    obtain ⟨k, n, rfl, hn, _⟩ := mem_used.1 (List.mem_of_getElem? hx)
    rw [at_nat, hx, Option.bind_some, at_nat, hn, Option.bind_some, Int.toNat_natCast, hn]
    rfl)]
  have : ((usedL p.Names y).any fun j => ((p.Names[j.toNat]?).map fun n => n.Text.toList == t.toList).getD false) = namedB t y p := by
    unfold namedB
    rw [Bool.eq_iff_iff, List.any_eq_true, List.any_eq_true]
    constructor
    · rintro ⟨j, hj, ht⟩
      obtain ⟨k, n, rfl, hn, hb⟩ := mem_used.1 hj
      rw [Int.toNat_natCast, hn, Option.map_some, Option.getD_some] at ht
      exact ⟨n, List.mem_of_getElem? hn, by unfold hasN; rw [ht, hb]; rfl⟩
    · rintro ⟨n, hn, ht⟩
      obtain ⟨k, hk⟩ := List.mem_iff_getElem?.1 hn
      unfold hasN at ht
      rw [Bool.and_eq_true] at ht
      exact ⟨(k : Int), mem_used.2 ⟨k, n, rfl, hk, ht.2⟩, by rw [Int.toNat_natCast, hk, Option.map_some, Option.getD_some]; exact ht.1⟩
  rw [this]
  cases namedB t y p <;> rfl
theorem flat_rangeP {α β : Type} (g : α → Option β) : ∀ (I : List α), (List.range I.length).flatMap (fun i => ((I[i]?).bind g).toList) = I.flatMap fun x => (g x).toList
  | [] => rfl
  | x :: I => by
    rw [List.length_cons, List.range_succ_eq_map, List.flatMap_cons, List.flatMap_cons, List.flatMap_map, ← flat_rangeP g I]
    rfl
theorem one_optP {α : Type} (o : Option α) : o.toList.length ≤ 1 := by cases o <;> simp
/-- The codes of the places with a property. -/
def codesL (P : Place → Bool) (L : List Place) : List ByteArray := L.flatMap fun p => (bif P p then some p.Code else none).toList
theorem mem_codes {P : Place → Bool} {L : List Place} {c : ByteArray} : c ∈ codesL P L ↔ ∃ p ∈ L, P p = true ∧ p.Code = c := by
  unfold codesL
  rw [List.mem_flatMap]
  constructor
  · rintro ⟨p, hp, h⟩
    rw [Option.mem_toList] at h
    cases hP : P p
    · rw [hP] at h; cases h
    · rw [hP] at h
      injection h with h
      exact ⟨p, hp, hP, h⟩
  · rintro ⟨p, hp, hP, h⟩
    exact ⟨p, hp, by rw [hP, ← h]; simp⟩
theorem codes_len (P : Place → Bool) (L : List Place) : (codesL P L).length ≤ L.length := flat_leP (fun p => one_optP _) L
def yearC (L : List Place) (y : Int) : Int := bif regB L then bif inB y (-3000) 3000 then 0 else 2 else 1
def inV (L : List Place) (y : Int) : List ByteArray × Int := bif yearC L y != 0 then ([], yearC L y) else (codesL (fun p => inB y p.Years.From p.Years.To) L, 0)
theorem impl_yearC {L : List Place} (hL : L.length ≤ 1048576) (h : ∀ x ∈ L, PlR x) (y : Int) : impl_registerCode L true y = some (yearC L y) := by
  unfold impl_registerCode impl_isYear yearC
  rw [impl_isReg hL h, within_eq]
  cases regB L <;> cases inB y (-3000) 3000 <;> rfl
theorem spec_yearC {L : List Place} (hL : L.length ≤ 1048576) (h : ∀ x ∈ L, PlR x) (y : Int) : spec_l11Year L y = some (yearC L y) := by
  unfold spec_l11Year spec_l02Year yearC
  rw [spec_isReg hL h, l01In_eq]
  cases regB L <;> cases inB y (-3000) 3000 <;> rfl
theorem yearC_reg {L : List Place} {y : Int} (h : (yearC L y != 0) = false) : regB L = true ∧ inB y (-3000) 3000 = true := by
  unfold yearC at h
  cases h1 : regB L
  · rw [h1] at h; cases h
  · cases h2 : inB y (-3000) 3000
    · rw [h1, h2] at h; cases h
    · exact ⟨rfl, rfl⟩
theorem impl_in_eq {L : List Place} (hL : L.length ≤ 1048576) (h : ∀ x ∈ L, PlR x) (y : Int) : impl_PlacesIn L y = some (inV L y) := by
  unfold impl_PlacesIn inV
  rw [impl_yearC hL h, Option.bind_some]
  cases h0 : (yearC L y != 0)
  · have h10 := (regB_iff.1 (yearC_reg h0).1).2.2
    unfold impl_codesOf_impl_PlacesIn_1 impl_PlacesIn_1 impl_Span_has
    rw [cond_false, cond_false, forS_build 1000000 (by omega) (by omega) (fun i => ((L[i]?).bind fun p => bif inB y p.Years.From p.Years.To then some p.Code else none).toList) (fun i => one_optP _) [] (by simp; omega) (fun i s hi hs => by
      rw [at_nat, List.getElem?_eq_getElem hi]
      simp only [Option.bind_some, within_eq]
      cases inB y L[i].Years.From L[i].Years.To
      · simp
      · rw [cond_true, cond_true, app_ok (by simp; omega)]
        rfl), flat_rangeP, List.nil_append]
    rfl
  · rfl
theorem spec_in_eq {L : List Place} (hL : L.length ≤ 1048576) (h : ∀ x ∈ L, PlR x) (y : Int) : spec_PlacesIn L y = some (inV L y) := by
  unfold spec_PlacesIn inV spec_l11Exists
  rw [spec_yearC hL h, Option.bind_some]
  cases h0 : (yearC L y != 0)
  · have h10 := (regB_iff.1 (yearC_reg h0).1).2.2
    rw [cond_false, cond_false, forS_build 1000000 (by omega) (by omega) (fun i => ((L[i]?).bind fun p => bif inB y p.Years.From p.Years.To then some p.Code else none).toList) (fun i => one_optP _) [] (by simp; omega) (fun i s hi hs => by
      rw [at_nat, List.getElem?_eq_getElem hi]
      simp only [Option.bind_some, l01In_eq]
      cases inB y L[i].Years.From L[i].Years.To
      · simp
      · rw [cond_true, cond_true, app_ok (by simp; omega)]
        rfl), flat_rangeP, List.nil_append]
    rfl
  · rfl
theorem impl_namedIn {L : List Place} (hL : L.length ≤ 1048576) (h : ∀ x ∈ L, PlR x) {t : ByteArray} (ht : t.size ≤ 1048576) (hp : phraseB t = true) {y : Int} (h0 : (yearC L y != 0) = false) : impl_PlacesNamed L t y = some (codesL (namedB t y) L, 0) := by
  have h10 := (regB_iff.1 (yearC_reg h0).1).2.2
  unfold impl_PlacesNamed
  rw [impl_isPhrase _ (by omega), hp, Option.bind_some, impl_yearC hL h, Option.bind_some, h0, cond_false]
  unfold impl_codesOf_impl_PlacesNamed_1 impl_PlacesNamed_1
  rw [forS_build 1000000 (by omega) (by omega) (fun i => ((L[i]?).bind fun p => bif namedB t y p then some p.Code else none).toList) (fun i => one_optP _) [] (by simp; omega) (fun i s hi hs => by
    rw [at_nat, List.getElem?_eq_getElem hi]
    simp only [Option.bind_some, impl_named (h _ (List.getElem_mem hi))]
    cases namedB t y L[i]
    · simp
    · rw [cond_true, cond_true, app_ok (by simp; omega)]
      rfl), flat_rangeP, List.nil_append]
  rfl
end Go.Proofs.YtpohkmbkohjahaaGreatDoor.Sh
