/- From the reading of the arguments to lists in memory, and the last step of a law row; no condition. -/
import Derived.Test.YtnnpmbcamnnfgaaLib
import Derived.ProofKit
import Derived.OpenShut
import Derived.Deep.Slices
namespace Go.Proofs.Ytnnpmbcamnnfgaa
open Go.RowKit Go.ChangeShapes Go.WideShapes Go.ChangeAt Go.Deep

def Opens (P : Program) (t : TypeId) (α : Type) [Rep α] : Prop :=
  ∀ (H : Type) (enc : TypeId × Value → H) (w : World) (fuel : Nat) (cs : List Value) (x : DataW H × List MemPlace),
    DataW.trod enc P w 0 (fun _ => true) true fuel t cs = some x → ∃ a : α, Rep.ok a ∧ Rep.rep w (lt w.heap.size) a cs
section
variable {P : Program} {t e : TypeId}
theorem opens_int (ht : P.underlying t = some (.int .i64)) : Opens P t Int := by
  intro H enc w fuel cs x h
  obtain ⟨n, rfl, _, hw⟩ := DataW.trod_int ht h
  have := bounds_i64 hw
  exact ⟨n, this, rfl⟩
theorem opens_bool (ht : P.underlying t = some .bool) : Opens P t Bool := by
  intro H enc w fuel cs x h
  obtain ⟨b, rfl, _⟩ := DataW.trod_bool ht h
  exact ⟨b, trivial, rfl⟩
theorem opens_str (ht : P.underlying t = some .string) : Opens P t ByteArray := by
  intro H enc w fuel cs x h
  obtain ⟨s, rfl, _, hw⟩ := DataW.trod_string ht h
  exact ⟨s, hw, rfl⟩
theorem opens_u8 (ht : P.underlying t = some (.int .u8)) : Opens P t UInt8 := by
  intro H enc w fuel cs x h
  obtain ⟨n, rfl, _, hw⟩ := DataW.trod_int ht h
  have hb := bounds_u8 hw
  refine ⟨UInt8.ofNat n.toNat, trivial, ?_⟩
  have : ((UInt8.ofNat n.toNat).toNat : Int) = n := by
    rw [UInt8.toNat_ofNat']; omega
  show _ = _
  rw [this]
theorem block_lt {w : World} {b o : Nat} {s : Option Nat} {v : Value} (h : w.cell? ⟨b, o, s⟩ = some v) : b < w.heap.size ∧ s = none := by
  unfold World.cell? at h
  split at h
  · rename_i hh
    refine ⟨(Array.getElem?_eq_some_iff.1 hh).1, ?_⟩
    split at h
    · cases h
    · rename_i hs
      cases s
      · rfl
      · simp at hs
  · cases h
theorem exists_list {α : Type} {p : Nat → α → Prop} : ∀ n : Nat, (∀ i, i < n → ∃ a, p i a) → ∃ L : List α, L.length = n ∧ ∀ i a, L[i]? = some a → p i a
  | 0, _ => ⟨[], rfl, fun i a h => by simp at h⟩
  | n + 1, h => by
    obtain ⟨L, hL, hp⟩ := exists_list n (fun i hi => h i (by omega))
    obtain ⟨a, ha⟩ := h n (by omega)
    refine ⟨L ++ [a], by simp [hL], fun i b hb => ?_⟩
    rcases Nat.lt_or_ge i L.length with hi | hi
    · rw [List.getElem?_append_left hi] at hb
      exact hp i b hb
    · rw [List.getElem?_append_right hi] at hb
      have : i - L.length = 0 := by
        rcases Nat.eq_zero_or_pos (i - L.length) with h0 | h0
        · exact h0
        · rw [List.getElem?_eq_none (by rw [List.length_singleton]; omega)] at hb; cases hb
      rw [this] at hb
      simp only [List.getElem?_cons_zero, Option.some.injEq] at hb
      subst hb
      rw [show i = n from by omega]
      exact ha
theorem opens_rd {α : Type} [Rep α] (ht : P.underlying t = some (.slice e)) (hC : P.cellsOf e = Rep.sz α) (hp : 0 < Rep.sz α) (ho : Opens P e α) {H : Type} {enc : TypeId × Value → H} {w : World} {fuel : Nat} {cs : List Value}
    {x : DataW H × List MemPlace} (h : DataW.trod enc P w 0 (fun _ => true) true fuel t cs = some x) : ∃ A n c, cs = [.slice A n c] ∧ ∃ L : List α, (∀ y ∈ L, Rep.ok y) ∧ Rd w (lt w.heap.size) A n c L := by
  rcases open_slice ht h with ⟨rfl, _⟩ | ⟨a, len, cap, m, n, D, Pl, rfl, hb, hl, hm, hmm, hx, hi⟩
  · exact ⟨none, 0, 0, rfl, [], by simp, Rd.nil⟩
  · have hm' : m = cap := by simpa using hmm
    subst hm'
    have hel : ∀ i, i < len → ∃ y : α, Rep.ok y ∧ ∃ ds, Rep.rep w (lt w.heap.size) y ds ∧ ∀ j u, ds[j]? = some u → w.cell? ((a.add (i * Rep.sz α)).add j) = some u := by
      intro i hil
      obtain ⟨cs', hc, ht'⟩ := hi i (by omega)
      obtain ⟨y, hy, hr⟩ := ho H enc w n cs' _ ht'
      obtain ⟨_, hcl, hat⟩ := World.cells?_some hc
      rw [hC] at hat hcl
      refine ⟨y, hy, cs', hr, fun j u hu => ?_⟩
      rw [hat j (by have := (List.getElem?_eq_some_iff.1 hu).1; omega)]
      exact hu
    obtain ⟨L, hL, hLp⟩ := exists_list len hel
    refine ⟨some a, len, m, rfl, L, fun y hy => ?_, hL, hl, hm, fun k y hy => ?_⟩
    · obtain ⟨k, hk⟩ := List.mem_iff_getElem?.1 hy
      exact (hLp k y hk).1
    · obtain ⟨_, ds, hr, hc⟩ := hLp k y hy
      have hlen := Rep.len hr
      have h0 : 0 < len := by have := (List.getElem?_eq_some_iff.1 hy).1; omega
      obtain ⟨y0, hy0⟩ : ∃ y0, L[0]? = some y0 := ⟨L[0]'(by omega), List.getElem?_eq_getElem _⟩
      obtain ⟨_, ds0, hr0, hc0⟩ := hLp 0 y0 hy0
      have hlen0 := Rep.len hr0
      have hz := hc0 0 _ (List.getElem?_eq_getElem (by omega))
      obtain ⟨b, o, s⟩ := a
      rw [Nat.zero_mul] at hz
      simp only [Addr.add, if_true] at hz
      obtain ⟨hlt, rfl⟩ := block_lt hz
      refine ⟨b, o, ds, rfl, hlt, hr, fun j u hu => ?_⟩
      have := hc j u hu
      rwa [Addr.add_lit, Addr.add_lit] at this
theorem opens_list {α : Type} [Rep α] (ht : P.underlying t = some (.slice e)) (hC : P.cellsOf e = Rep.sz α) (hp : 0 < Rep.sz α) (ho : Opens P e α) : Opens P t (List α) := by
  intro H enc w fuel cs x h
  obtain ⟨A, n, c, rfl, L, hk, hr⟩ := opens_rd ht hC hp ho h
  exact ⟨L, ⟨by have h1 := hr.eq; have h2 := hr.len; simp only [maxLen]; omega, hk⟩, A, n, c, rfl, hr⟩
theorem trodAll_stays {H : Type} {enc : TypeId × Value → H} {W W' : World} (hl : laidOutB P = true) (hb : Below W.heap.size W W') {sp : Nat → Bool} :
    ∀ {ts : List TypeId} {vs : List Value} {ds : List (DataW H)} {ps : List MemPlace}, (∀ t ∈ ts, P.readableRec t = true ∧ t < P.types.size) → DataW.TrodAll enc P W 0 (fun _ => true) true ts vs ds ps →
    (∀ x ∈ ps, x.block < W.heap.size) → (∀ p ∈ ps, sp p.block = true) → DataW.TrodAll enc P W' 0 sp true ts vs ds ps
  | [], vs, ds, ps, _, h, _, _ => by
    obtain ⟨rfl, rfl, rfl⟩ := trodAll_nil h
    exact trodAll_mk0
  | t :: ts, vs, ds, ps, hts, h, hlt, hsp => by
    obtain ⟨v, vs', d, ds', p, q, rfl, rfl, rfl, h1, h2⟩ := trodAll_cons h
    refine trodAll_cons_mk (WideElems.Trod_stays hl (hts t (by simp)).1 (hts t (by simp)).2 h1 (fun x hx => hb.same (hlt x (by simp [hx]))) (fun x hx => hsp x (by simp [hx])))
      (trodAll_stays hl hb (fun u hu => hts u (by simp [hu])) h2 (fun x hx => hlt x (by simp [hx])) (fun x hx => hsp x (by simp [hx])))
/-- A list of cells, cut where a struct's fields lie. -/
theorem chop2 {l : List Value} {n : Nat} (hl : l.length = n) (a b : Nat) (h : a + b = n) : l = (l.drop 0).take a ++ (l.drop a).take b := by
  have h2 : (l.drop a).take b = l.drop a := List.take_of_length_le (by rw [List.length_drop]; omega)
  rw [h2]; simp
theorem chop (l : List Value) (a b : Nat) : l.drop a = (l.drop a).take b ++ l.drop (a + b) := by
  rw [← List.drop_drop, List.take_append_drop]
end
/-- The row's last step where the call only made memory and answered true. -/
theorem law_post {H : Type} {enc : TypeId × Value → H} {P : Program} {f : Func} {s : ChangeSpec} {W W' : World} {args : Array Value} {v : Value} {ds gs : List (DataW H)} {before p q : List MemPlace} {tb : TypeId}
    (hW : DataW.Whole enc P f.params.toList s.vars false W args.toList ds gs before) (hl : laidOutB P = true) (hts : ∀ t ∈ f.params.toList, P.readableRec t = true ∧ t < P.types.size)
    (hA : DataW.TrodAll enc P W 0 (fun _ => true) true f.params.toList args.toList ds p) (hq : q = []) (hbef : before = p ++ q) (hb : Below W.heap.size W W')
    (hr : f.resultTypes = #[tb]) (ht : P.underlying tb = some .bool) (hv : v = .bool true) (h1 : (s.fn H (ds ++ gs)).results = [.lit (.bool true)]) (h2 : (s.fn H (ds ++ gs)).args = ds)
    (hvars : ∀ sp : Nat → Bool, (∀ p ∈ before, sp p.block = true) → DataW.TrodVars enc P W' sp s.vars (s.fn H (ds ++ gs)).vars []) :
    s.post enc P f false true false false W args v W' := by
  have hlt : ∀ x ∈ before, x.block < W.heap.size := fun x hx => hW.lt x hx
  subst hv hq
  have hsp : ∀ x ∈ before, (fun b => decide (b < W.heap.size)) x.block = true := fun x hx => by simpa using hlt x hx
  refine ⟨ds, gs, before, [], p, [], hW, ?_, ?_, hvars _ hsp, hb.frame _, fun h => by cases h⟩
  · rw [h1, hr]
    exact trodAll_mk1 (shut_bool ht _)
  · rw [h2]
    exact trodAll_stays hl hb hts hA (fun x hx => hlt x (by rw [hbef]; simp [hx])) (fun x hx => hsp x (by rw [hbef]; simp [hx]))
end Go.Proofs.Ytnnpmbcamnnfgaa
