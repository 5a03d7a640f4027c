/- Deep objects: slices whose elements own their slices; no condition. -/
import Derived.Test.YtbaainlnmackeaaGreatDoorSB
namespace Go.Proofs.YtbaainlnmackeaaGreatDoor.Sh
open Go.RowKit
/-- Rows put together, in a world where but the first one's block has changed. -/
theorem DRow.append {w w' : World} {e m n k : Nat} {ss : List Sh} {es es2 : List (List Tr)} {v v2 v' : Value} {xs xs2 : List Value} (h1 : DRow w e m ss n es v xs) (h2 : DRow w e m ss k es2 v2 xs2) (hap : ∀ g, FP w (.sl e m ss) v g → ¬ FP w (.sl e m ss) v2 g)
    (hown : w'.ownsRow 0 e m v' (n + k) (xs ++ xs2)) (hg : ∀ b, b < w.heap.size → blkOf v ≠ some b → w'.heap[b]? = w.heap[b]?) (hbl : ∀ g, blkOf v' = some g → blkOf v = some g ∨ w.heap.size ≤ g) :
    DRow w' e m ss (n + k) (es ++ es2) v' (xs ++ xs2) ∧ ∀ g, FP w' (.sl e m ss) v' g → FP w (.sl e m ss) v g ∨ FP w (.sl e m ss) v2 g ∨ w.heap.size ≤ g := by
  have hx1 : xs.length = n * m := h1.hown.1
  have hl1 := h1.hn
  -- each place of the new row: an old place of one of the two
  have place : ∀ (i j : Nat) u, j < m → (xs ++ xs2)[i * m + j]? = some u → (i < n ∧ xs[i * m + j]? = some u) ∨ (n ≤ i ∧ xs2[(i - n) * m + j]? = some u) := by
    intro i j u hj hu
    by_cases hin : i < n
    · have h8 : (i + 1) * m ≤ n * m := Nat.mul_le_mul_right _ hin
      rw [Nat.add_mul] at h8
      rw [List.getElem?_append_left (by omega)] at hu
      exact .inl ⟨hin, hu⟩
    · have h8 : n * m ≤ i * m := Nat.mul_le_mul_right _ (by omega)
      rw [List.getElem?_append_right (by omega)] at hu
      refine .inr ⟨by omega, ?_⟩
      rw [← hu]
      congr 1
      rw [hx1, Nat.sub_mul]
      omega
  have keep1 : ∀ (i j : Nat) s t u, j < m → ss[j]? = some s → xs[i * m + j]? = some u → DV w s t u → DV w' s t u ∧ ∀ g, FP w' s u g ↔ FP w s u g := fun i j s t u hj hs hu hd => hd.keep fun g hgg => hg g (FP.lt hd hgg) (h1.hs i j s u g hj hs hu hgg)
  have keep2 : ∀ (i j : Nat) s t u, j < m → ss[j]? = some s → xs2[i * m + j]? = some u → DV w s t u → DV w' s t u ∧ ∀ g, FP w' s u g ↔ FP w s u g := fun i j s t u hj hs hu hd => hd.keep fun g hgg => hg g (FP.lt hd hgg) fun e => hap g (.here _ _ _ _ _ e) (h2.fp hj hs hu hgg)
  have src : ∀ (i j : Nat) s u g, j < m → ss[j]? = some s → (xs ++ xs2)[i * m + j]? = some u → FP w' s u g → (i < n ∧ xs[i * m + j]? = some u ∧ FP w s u g) ∨ (n ≤ i ∧ xs2[(i - n) * m + j]? = some u ∧ FP w s u g) := by
    intro i j s u g hj hs hu hgg
    rcases place i j u hj hu with ⟨hi, h3⟩ | ⟨hi, h3⟩
    · obtain ⟨_, s', x, t, hs', _, _, hd⟩ := h1.at hj h3
      rw [hs] at hs'
      injection hs' with hs'
      subst hs'
      exact .inl ⟨hi, h3, ((keep1 i j s t u hj hs h3 hd).2 g).1 hgg⟩
    · obtain ⟨_, s', x, t, hs', _, _, hd⟩ := h2.at hj h3
      rw [hs] at hs'
      injection hs' with hs'
      subst hs'
      exact .inr ⟨hi, h3, ((keep2 (i - n) j s t u hj hs h3 hd).2 g).1 hgg⟩
  have hlt1 : ∀ {i j : Nat} {s u g}, j < m → ss[j]? = some s → xs[i * m + j]? = some u → FP w s u g → g < w.heap.size := fun hj hs hu hf => FP.lt h1.dv (h1.fp hj hs hu hf)
  have hlt2 : ∀ {i j : Nat} {s u g}, j < m → ss[j]? = some s → xs2[i * m + j]? = some u → FP w s u g → g < w.heap.size := fun hj hs hu hf => FP.lt h2.dv (h2.fp hj hs hu hf)
  have hrow : DRow w' e m ss (n + k) (es ++ es2) v' (xs ++ xs2) := by
    refine ⟨by simp [h1.hn, h2.hn], hown, h1.hc, fun x hx => (List.mem_append.1 hx).elim (h1.he x) (h2.he x), fun i x j s t u hi hs ht hu => ?_, fun i j s u g hj hs hu hgg hb => ?_, fun i j i' j' s s' u u' g hj hj' hs hs' hu hu' hgg hgg' => ?_⟩
    · have hj : j < m := by rw [← h1.hc]; exact (List.getElem?_eq_some_iff.1 hs).1
      rcases place i j u hj hu with ⟨hin, h3⟩ | ⟨hin, h3⟩
      · rw [List.getElem?_append_left (by omega)] at hi
        exact (keep1 i j s t u hj hs h3 (h1.h i x j s t u hi hs ht h3)).1
      · rw [List.getElem?_append_right (by omega), hl1] at hi
        exact (keep2 (i - n) j s t u hj hs h3 (h2.h (i - n) x j s t u hi hs ht h3)).1
    · rcases src i j s u g hj hs hu hgg with ⟨hin, h3, h4⟩ | ⟨hin, h3, h4⟩
      · rcases hbl g hb with h5 | h5
        · exact h1.hs i j s u g hj hs h3 h4 h5
        · exact absurd (hlt1 hj hs h3 h4) (by omega)
      · rcases hbl g hb with h5 | h5
        · exact hap g (.here _ _ _ _ _ h5) (h2.fp hj hs h3 h4)
        · exact absurd (hlt2 hj hs h3 h4) (by omega)
    · rcases src i j s u g hj hs hu hgg with ⟨hin, h3, h4⟩ | ⟨hin, h3, h4⟩ <;> rcases src i' j' s' u' g hj' hs' hu' hgg' with ⟨hin', h3', h4'⟩ | ⟨hin', h3', h4'⟩
      · exact h1.ha i j i' j' s s' u u' g hj hj' hs hs' h3 h3' h4 h4'
      · exact (hap g (h1.fp hj hs h3 h4) (h2.fp hj' hs' h3' h4')).elim
      · exact (hap g (h1.fp hj' hs' h3' h4') (h2.fp hj hs h3 h4)).elim
      · have := h2.ha (i - n) j (i' - n) j' s s' u u' g hj hj' hs hs' h3 h3' h4 h4'
        omega
  refine ⟨hrow, fun g hgg => ?_⟩
  rcases hrow.fp' hgg with h3 | ⟨i, j, s, u, hj, hs, hu, hf⟩
  · rcases hbl g h3 with h4 | h4
    · exact .inl (.here _ _ _ _ _ h4)
    · exact .inr (.inr h4)
  · rcases src i j s u g hj hs hu hf with ⟨_, h3, h4⟩ | ⟨_, h3, h4⟩
    · exact .inl (h1.fp hj hs h3 h4)
    · exact .inr (.inl (h2.fp hj hs h3 h4))
/-- Nothing in it: deep as well as flat. -/
theorem DRow.nil {w : World} {e m : Nat} {ss : List Sh} {v : Value} {xs : List Value} (hown : w.ownsRow 0 e m v 0 xs) (hc : ss.length = m) : DRow w e m ss 0 [] v xs := by
  have hx : xs = [] := List.eq_nil_of_length_eq_zero (by rw [hown.1]; simp)
  subst hx
  exact ⟨rfl, hown, hc, by simp, by simp, by simp, by simp⟩
section
variable {P : Program} {tb : Tb} {ops : Array Oper} {o : Oper} {c : Cx} {S : Nat → Prop} {β : Nat → Value} {σ : SS} {a : Act} {w : World}
theorem dv_one {s : Sh} {t : Tr} {u : Value} (h : DV w s t u) : u.oneCell' = true := by
  cases h with
  | flat t v hf h => exact tv_one h
  | sl _ _ _ _ _ _ _ _ hown => rcases hown.2 with ⟨rfl, _⟩ | ⟨g, cap, cur, rfl, _⟩ <;> rfl
/-- An own object seen in another way, in the same blocks. -/
theorem Rel.view (hr : Rel c S β σ a w) {d : Nat} {x x' : SO} (hd : (d, x) ∈ σ.o) (hx : ObjR w S β x' (β d)) (hft : ∀ g', x'.foot w (β d) g' → x.foot w (β d) g') : RelE c { σ with o := (d, x') :: σ.o.filter (fun p => p.1 != d) } a w :=
  ⟨_, _, hr.touch2 hd (Grew.refl _ w) (S' := fun _ => False) (fun _ h => h.elim) (fun _ h => h.elim) (hx.keep (fun _ _ => rfl) fun _ h => .inl h) hft⟩
/-- A slice that holds nothing may be taken for a deep one. -/
theorem Le.deep0 {d e m : Nat} {ss : List Sh} (hf : find d σ.o = some (.arr e m 0 [])) (hc : ss.length = m) : Le σ { σ with o := (d, .deep e m 0 ss []) :: σ.o.filter (fun p => p.1 != d) } := by
  intro c a w ⟨S, β, hr⟩
  have hm := mem_of_find hf
  have ho := hr.obj d _ hm
  generalize hb : β d = b at ho
  cases ho with
  | arr _ _ _ _ v xs hn hown he h =>
    have hrow := DRow.nil (ss := ss) hown hc
    refine hr.view hm (by rw [hb]; exact .deep _ _ _ _ _ _ hrow.dv) fun g hg => ?_
    rw [hb] at hg ⊢
    rcases hrow.fp' hg with h1 | ⟨i, j, s, u, hj, _, hu, _⟩
    · exact h1
    · have := (hrow.at hj hu).1
      omega
end
/-- A slice of cells without memory is an own value of flat shape. -/
theorem arr_dv {w : World} {S : Nat → Prop} {β : Nat → Value} {e m n : Nat} {es : List (List Tr)} {v : Value} (h : ObjR w S β (.arr e m n es) v) (hf : FlatE es) : DV w (.sl e m (List.replicate m .flat)) (.sl n es) v := by
  cases h with
  | arr _ _ _ _ v xs hn hown he h =>
    have hfl : ∀ {j : Nat} {s : Sh}, (List.replicate m Sh.flat)[j]? = some s → s = .flat := fun {j s} hs => by
      rw [List.getElem?_replicate] at hs
      split at hs
      · injection hs with hs; exact hs.symm
      · cases hs
    refine .sl e m _ n es v xs hn hown (by simp) he (fun i x j s t u hi hs ht hu => ?_) (fun i j s u g hj hs hu hg => ?_) (fun i j i' j' s s' u u' g hj hj' hs hs' hu hu' hg hg' => ?_)
    · rw [hfl hs]
      have h1 := hf x (List.mem_of_getElem? hi) t (List.mem_of_getElem? ht)
      exact .flat t u h1 ((h i x j t u hi ht hu).free h1)
    · rw [hfl hs] at hg
      cases hg
    · rw [hfl hs] at hg
      cases hg
/-- And back. -/
theorem dv_arr {w : World} {S : Nat → Prop} {β : Nat → Value} {e m n : Nat} {es : List (List Tr)} {v : Value} (h : DV w (.sl e m (List.replicate m .flat)) (.sl n es) v) : ObjR w S β (.arr e m n es) v ∧ FlatE es := by
  obtain ⟨xs, hr⟩ := h.row
  have hat : ∀ (i : Nat) x (j : Nat) t u, es[i]? = some x → x[j]? = some t → xs[i * m + j]? = some u → t.flat = true ∧ TV w S t u := fun i x j t u hi ht hu => by
    have hj := (List.getElem?_eq_some_iff.1 ht).1
    rw [hr.he x (List.mem_of_getElem? hi)] at hj
    have hd := hr.h i x j .flat t u hi (by rw [List.getElem?_replicate, if_pos hj]) ht hu
    cases hd with
    | flat _ _ hf hv => exact ⟨hf, hv.free hf⟩
  refine ⟨.arr e m n es v xs hr.hn hr.hown hr.he fun i x j t u hi ht hu => (hat i x j t u hi ht hu).2, fun x hx t ht => ?_⟩
  obtain ⟨i, hi⟩ := List.mem_iff_getElem?.1 hx
  obtain ⟨j, hj⟩ := List.mem_iff_getElem?.1 ht
  have hi1 := (List.getElem?_eq_some_iff.1 hi).1
  have hj1 := (List.getElem?_eq_some_iff.1 hj).1
  have hxl := hr.he x hx
  have hn := hr.hn
  have hlen := hr.hown.1
  have h8 : (i + 1) * m ≤ n * m := Nat.mul_le_mul_right _ (by omega)
  rw [Nat.add_mul] at h8
  have hu : xs[i * m + j]? = some (xs[i * m + j]'(by omega)) := List.getElem?_eq_getElem _
  have hj2 : j < m := by omega
  have hd := hr.h i x j .flat t _ hi (by rw [List.getElem?_replicate, if_pos hj2]) hj hu
  cases hd with
  | flat _ _ hf _ => exact hf
/-- What a cell holds that goes over into a deep slice: the objects that go with it. -/
inductive CellD (σ : SS) : Sh → SV → Tr → List Nat → Prop
  | flat (t : Tr) (h : t.flat = true) : CellD σ .flat (.tr t) t []
  | arr (d e m n : Nat) (es : List (List Tr)) (hf : find d σ.o = some (.arr e m n es)) (hfl : FlatE es) (hn : d < σ.n) : CellD σ (.sl e m (List.replicate m .flat)) (.own d) (.sl n es) [d]
  | deep (d e m n : Nat) (ss : List Sh) (es : List (List Tr)) (hf : find d σ.o = some (.deep e m n ss es)) (hn : d < σ.n) : CellD σ (.sl e m ss) (.own d) (.sl n es) [d]
inductive CellsD (σ : SS) : List Sh → List SV → List Tr → List Nat → Prop
  | nil : CellsD σ [] [] [] []
  | cons (s : Sh) (x : SV) (t : Tr) (ds : List Nat) (ss : List Sh) (xs : List SV) (ts : List Tr) (es : List Nat) (h : CellD σ s x t ds) (k : CellsD σ ss xs ts es) (hd : ∀ d ∈ ds, d ∉ es) : CellsD σ (s :: ss) (x :: xs) (t :: ts) (ds ++ es)
section
variable {c : Cx} {S : Nat → Prop} {β : Nat → Value} {σ : SS} {a : Act} {w : World}
theorem CellD.ok (hr : Rel c S β σ a w) {s : Sh} {x : SV} {t : Tr} {ds : List Nat} (h : CellD σ s x t ds) {u : Value} (hu : SVr w S β x u) : DV w s t u ∧ (∀ d ∈ ds, d < σ.n) ∧ ∀ g, FP w s u g → ∃ d ∈ ds, ∃ y, (d, y) ∈ σ.o ∧ y.foot w (β d) g := by
  cases h with
  | flat t h =>
    cases hu with
    | tr _ _ hv => exact ⟨.flat t u h (hv.free h), by simp, fun g hg => by cases hg⟩
  | arr d e m n es hf hfl hn =>
    have hm := mem_of_find hf
    cases hu with
    | own _ =>
      refine ⟨arr_dv (hr.obj d _ hm) hfl, by simpa using hn, fun g hg => ⟨d, by simp, _, hm, ?_⟩⟩
      have := arr_dv (hr.obj d _ hm) hfl
      obtain ⟨xs, hrow⟩ := this.row
      rcases hrow.fp' hg with h1 | ⟨i, j, s, u, hj, hs, _, h1⟩
      · exact foot_blk h1
      · rw [List.getElem?_replicate, if_pos hj] at hs
        injection hs with hs
        subst hs
        cases h1
  | deep d e m n ss es hf hn =>
    have hm := mem_of_find hf
    cases hu with
    | own _ =>
      have ho := hr.obj d _ hm
      generalize hb : β d = b at ho
      cases ho with
      | deep _ _ _ _ _ _ h => exact ⟨h, by simpa using hn, fun g hg => ⟨d, by simp, _, hm, by rw [hb]; exact hg⟩⟩
end
/-- Several objects gone. -/
def SS.kills (σ : SS) : List Nat → SS
  | [] => σ
  | d :: ds => (σ.kill d).kills ds
theorem kills_o : ∀ {ds : List Nat} {σ : SS} {k : Nat} {x : SO}, (k, x) ∈ (σ.kills ds).o → (k, x) ∈ σ.o ∧ k ∉ ds
  | [], σ, k, x, h => ⟨h, by simp⟩
  | d :: ds, σ, k, x, h => by
    obtain ⟨h1, h2⟩ := kills_o (ds := ds) (σ := σ.kill d) h
    obtain ⟨h3, h4⟩ := kill_o h1
    exact ⟨h3, by simp [h4, h2]⟩
theorem Sub.kills : ∀ (ds : List Nat) (σ : SS), Sub (σ.kills ds) σ
  | [], σ => ⟨rfl, fun _ h => h, fun _ h => h⟩
  | d :: ds, σ => by
    have h1 := Sub.kills ds (σ.kill d)
    have h2 := Sub.kill σ d
    exact ⟨h1.n.trans h2.n, fun x h => h2.t x (h1.t x h), fun x h => h2.o x (h1.o x h)⟩
theorem CellsD.parts {σ : SS} {ss : List Sh} {cs : List SV} {ts : List Tr} {ds : List Nat} (h : CellsD σ ss cs ts ds) : ts.length = ss.length ∧ cs.length = ss.length ∧ ∃ f : Nat → List Nat, (∀ j, ∀ d ∈ f j, d ∈ ds) ∧ (∀ j j', j ≠ j' → ∀ d ∈ f j, d ∉ f j') ∧ ∀ (j : Nat) s x t, ss[j]? = some s → cs[j]? = some x → ts[j]? = some t → CellD σ s x t (f j) := by
  induction h with
  | nil => exact ⟨rfl, rfl, fun _ => [], by simp, by simp, by simp⟩
  | cons s x t ds ss xs ts es h k hd ih =>
    obtain ⟨h1, h2, f, h3, h4, h5⟩ := ih
    refine ⟨by simp [h1], by simp [h2], fun j => match j with | 0 => ds | j + 1 => f j, fun j d hj => ?_, fun j j' hne d hj hj' => ?_, fun j s' x' t' hs hx ht => ?_⟩
    · cases j with
      | zero => exact List.mem_append_left _ hj
      | succ j => exact List.mem_append_right _ (h3 j d hj)
    · cases j with
      | zero =>
        cases j' with
        | zero => exact hne rfl
        | succ j' => exact hd d hj (h3 j' d hj')
      | succ j =>
        cases j' with
        | zero => exact hd d hj' (h3 j d hj)
        | succ j' => exact h4 j j' (by omega) d hj hj'
    · cases j with
      | zero => simp at hs hx ht; subst hs hx ht; exact h
      | succ j => exact h5 j s' x' t' (by simpa using hs) (by simpa using hx) (by simpa using ht)
/-- The hole is filled again. -/
theorem Le.join {σ : SS} {d k e m n i j e' m' n' : Nat} {ss ss' : List Sh} {es es' : List (List Tr)} {x : List Tr} {y : SO} (hd : find d σ.o = some (.hol e m n ss es i j k)) (hk : find k σ.o = some y)
    (hy : y = .deep e' m' n' ss' es' ∨ (y = .arr e' m' n' es' ∧ FlatE es' ∧ ss' = List.replicate m' .flat)) (hne : k ≠ d) (hs : ss[j]? = some (.sl e' m' ss')) (hx : es[i]? = some x) (hn : k < σ.n ↔ d < σ.n) (h3 : k < 3000000) :
    Le σ { σ.kill k with o := (d, .deep e m n ss (es.set i (x.set j (.sl n' es')))) :: (σ.kill k).o } := by
  intro c a w ⟨S, β, hr⟩
  have hmd := mem_of_find hd
  have hmk := mem_of_find hk
  have hdv : DV w (.sl e' m' ss') (.sl n' es') (β k) ∧ ∀ g, FP w (.sl e' m' ss') (β k) g → y.foot w (β k) g := by
    have ho := hr.obj k y hmk
    rcases hy with rfl | ⟨rfl, hf, rfl⟩
    · generalize β k = b at ho
      cases ho with
      | deep _ _ _ _ _ _ h => exact ⟨h, fun g hg => hg⟩
    · have h := arr_dv ho hf
      refine ⟨h, fun g hg => ?_⟩
      obtain ⟨xs, hrow⟩ := h.row
      rcases hrow.fp' hg with h1 | ⟨i, j, s, u, hj, hs, _, h1⟩
      · exact foot_blk h1
      · rw [List.getElem?_replicate, if_pos hj] at hs
        injection hs with hs
        subst hs
        cases h1
  obtain ⟨hdv, hfy⟩ := hdv
  have hnew : ∃ xs, DRow w e m ss n (es.set i (x.set j (.sl n' es'))) (β d) xs ∧ ∀ g, FP w (.sl e m ss) (β d) g → SO.foot w (.hol e m n ss es i j k) (β d) g ∨ y.foot w (β k) g := by
    have ho := hr.obj d _ hmd
    have hap : ∀ g, FP w (.sl e' m' ss') (β k) g → ¬ HFP w e m ss i j (β d) g := fun g h1 h2 => hne (hr.apart k y d _ g hmk hmd (hfy g h1) h2)
    generalize hb : β d = b at ho hap
    cases ho with
    | hol _ _ _ _ _ _ _ _ _ xs h hu =>
      have hj := h.join hs hx hu hdv hap
      refine ⟨xs, hj, fun g hg => ?_⟩
      rcases hj.fp' hg with h1 | ⟨i', j', s, u, hj', hs', hu', h1⟩
      · exact .inl (.here _ _ h1)
      · by_cases he : i' = i ∧ j' = j
        · obtain ⟨rfl, rfl⟩ := he
          rw [hs] at hs'
          injection hs' with hs'
          rw [hu] at hu'
          injection hu' with hu'
          subst hs' hu'
          exact .inr (hfy g h1)
        · exact .inl (h.fp he hj' hs' hu' h1)
  obtain ⟨xs, hrow, hfo⟩ := hnew
  have hr0 := (Sub.kill σ k).rel hr
  have hmem : ∀ {l z}, (l, z) ∈ (d, SO.deep e m n ss (es.set i (x.set j (.sl n' es')))) :: (σ.kill k).o → (l = d ∧ z = .deep e m n ss (es.set i (x.set j (.sl n' es')))) ∨ ((l, z) ∈ σ.o ∧ l ≠ k ∧ (l, z) ∈ (σ.kill k).o) := by
    intro l z h
    rcases List.mem_cons.1 h with h | h
    · injection h with h1 h2
      exact .inl ⟨h1, h2⟩
    · exact .inr ⟨(kill_o h).1, (kill_o h).2, h⟩
  have hpr : ∀ g, FP w (.sl e m ss) (β d) g → ¬ S g ∧ (((d < σ.n ∨ 3000000 ≤ d) ∧ c.w0.heap.size ≤ g) ∨ (σ.n ≤ d ∧ c.X g)) := fun g hg => by
    rcases hfo g hg with h | h
    · exact hr.priv d _ g hmd h
    · obtain ⟨q1, q2⟩ := hr.priv k y g hmk h
      exact ⟨q1, q2.imp (fun q => ⟨.inl (hn.1 (q.1.resolve_right (by omega))), q.2⟩) fun q => ⟨by have := hn; omega, q.2⟩⟩
  have hapt : ∀ l z g, (l, z) ∈ σ.o → l ≠ k → z.foot w (β l) g → FP w (.sl e m ss) (β d) g → l = d := fun l z g hl hlk h1 h2 => by
    rcases hfo g h2 with h | h
    · exact hr.apart l z d _ g hl hmd h1 h
    · exact absurd (hr.apart l z k y g hl hmk h1 h) hlk
  refine ⟨S, β, hr0.defers, hr0.size, hr0.one, hr0.grew, hr0.s0, hr0.s1, hr0.lt, hr0.tmp, fun l z hl => ?_, fun p v hp => ⟨(hr.pin p v hp).1, fun z hz => ?_⟩, fun l z g hl hg => ?_, fun l z l' z' g hl hl' hg hg' => ?_⟩
  · rcases hmem hl with ⟨rfl, rfl⟩ | ⟨h1, _, _⟩
    · exact .deep _ _ _ _ _ _ hrow.dv
    · exact hr.obj l z h1
  · rcases hmem hz with ⟨rfl, rfl⟩ | ⟨h1, _, _⟩
    · exact (hr.pin p v hp).2 _ hmd
    · exact (hr.pin p v hp).2 _ h1
  · rcases hmem hl with ⟨rfl, rfl⟩ | ⟨h1, _, _⟩
    · exact hpr g hg
    · exact hr.priv l z g h1 hg
  · rcases hmem hl with ⟨rfl, rfl⟩ | ⟨h1, h2, _⟩ <;> rcases hmem hl' with ⟨rfl, rfl⟩ | ⟨h3, h4, _⟩
    · rfl
    · exact (hapt l' z' g h3 h4 hg' hg).symm
    · exact hapt l z g h1 h2 hg hg'
    · exact hr.apart l z l' z' g h1 h3 hg hg'
end Go.Proofs.YtbaainlnmackeaaGreatDoor.Sh
