/- Deep objects: slices whose elements own their slices; no condition. -/
import Derived.Test.YtodgenjlhiiieaaGreatDoorSB
namespace Go.Proofs.YtodgenjlhiiieaaGreatDoor.Sh
open Go.RowKit
/-- Rows put together, in a world where but the first one's block has changed. -/
theorem DRow.append {w w' : World} {e m n k : Nat} {ss : List Sh} {es es2 : List (List Tr)} {v v2 v' : Value} {xs xs2 : List Value} (h1 : DRow w e m ss n es v xs) (h2 : DRow w e m ss k es2 v2 xs2) (hap : ∀ g, FP w (.sl e m ss) v g → ¬ FP w (.sl e m ss) v2 g)
    (hown : w'.ownsRow 0 e m v' (n + k) (xs ++ xs2)) (hg : ∀ b, b < w.heap.size → blkOf v ≠ some b → w'.heap[b]? = w.heap[b]?) (hbl : ∀ g, blkOf v' = some g → blkOf v = some g ∨ w.heap.size ≤ g) :
    DRow w' e m ss (n + k) (es ++ es2) v' (xs ++ xs2) ∧ ∀ g, FP w' (.sl e m ss) v' g → FP w (.sl e m ss) v g ∨ FP w (.sl e m ss) v2 g ∨ w.heap.size ≤ g := by
  have hx1 : xs.length = n * m := h1.hown.1
  have hl1 := h1.hn
  -- each place of the new row: an old place of one of the two
  have place : ∀ (i j : Nat) u, j < m → (xs ++ xs2)[i * m + j]? = some u → (i < n ∧ xs[i * m + j]? = some u) ∨ (n ≤ i ∧ xs2[(i - n) * m + j]? = some u) := by
    intro i j u hj hu
    by_cases hin : i < n
    · have h8 : (i + 1) * m ≤ n * m := Nat.mul_le_mul_right _ hin
      rw [Nat.add_mul] at h8
      rw [List.getElem?_append_left (by omega)] at hu
      exact .inl ⟨hin, hu⟩
    · have h8 : n * m ≤ i * m := Nat.mul_le_mul_right _ (by omega)
      rw [List.getElem?_append_right (by omega)] at hu
      refine .inr ⟨by omega, ?_⟩
      rw [← hu]
      congr 1
      rw [hx1, Nat.sub_mul]
      omega
  have keep1 : ∀ (i j : Nat) s t u, j < m → ss[j]? = some s → xs[i * m + j]? = some u → DV w s t u → DV w' s t u ∧ ∀ g, FP w' s u g ↔ FP w s u g := fun i j s t u hj hs hu hd => hd.keep fun g hgg => hg g (FP.lt hd hgg) (h1.hs i j s u g hj hs hu hgg)
  have keep2 : ∀ (i j : Nat) s t u, j < m → ss[j]? = some s → xs2[i * m + j]? = some u → DV w s t u → DV w' s t u ∧ ∀ g, FP w' s u g ↔ FP w s u g := fun i j s t u hj hs hu hd => hd.keep fun g hgg => hg g (FP.lt hd hgg) fun e => hap g (.here _ _ _ _ _ e) (h2.fp hj hs hu hgg)
  have src : ∀ (i j : Nat) s u g, j < m → ss[j]? = some s → (xs ++ xs2)[i * m + j]? = some u → FP w' s u g → (i < n ∧ xs[i * m + j]? = some u ∧ FP w s u g) ∨ (n ≤ i ∧ xs2[(i - n) * m + j]? = some u ∧ FP w s u g) := by
    intro i j s u g hj hs hu hgg
    rcases place i j u hj hu with ⟨hi, h3⟩ | ⟨hi, h3⟩
    · obtain ⟨_, s', x, t, hs', _, _, hd⟩ := h1.at hj h3
      rw [hs] at hs'
      injection hs' with hs'
      subst hs'
      exact .inl ⟨hi, h3, ((keep1 i j s t u hj hs h3 hd).2 g).1 hgg⟩
    · obtain ⟨_, s', x, t, hs', _, _, hd⟩ := h2.at hj h3
      rw [hs] at hs'
      injection hs' with hs'
      subst hs'
      exact .inr ⟨hi, h3, ((keep2 (i - n) j s t u hj hs h3 hd).2 g).1 hgg⟩
  have hlt1 : ∀ {i j : Nat} {s u g}, j < m → ss[j]? = some s → xs[i * m + j]? = some u → FP w s u g → g < w.heap.size := fun hj hs hu hf => FP.lt h1.dv (h1.fp hj hs hu hf)
  have hlt2 : ∀ {i j : Nat} {s u g}, j < m → ss[j]? = some s → xs2[i * m + j]? = some u → FP w s u g → g < w.heap.size := fun hj hs hu hf => FP.lt h2.dv (h2.fp hj hs hu hf)
  have hrow : DRow w' e m ss (n + k) (es ++ es2) v' (xs ++ xs2) := by
    refine ⟨by simp [h1.hn, h2.hn], hown, h1.hc, fun x hx => (List.mem_append.1 hx).elim (h1.he x) (h2.he x), fun i x j s t u hi hs ht hu => ?_, fun i j s u g hj hs hu hgg hb => ?_, fun i j i' j' s s' u u' g hj hj' hs hs' hu hu' hgg hgg' => ?_⟩
    · have hj : j < m := by rw [← h1.hc]; exact (List.getElem?_eq_some_iff.1 hs).1
      rcases place i j u hj hu with ⟨hin, h3⟩ | ⟨hin, h3⟩
      · rw [List.getElem?_append_left (by omega)] at hi
        exact (keep1 i j s t u hj hs h3 (h1.h i x j s t u hi hs ht h3)).1
      · rw [List.getElem?_append_right (by omega), hl1] at hi
        exact (keep2 (i - n) j s t u hj hs h3 (h2.h (i - n) x j s t u hi hs ht h3)).1
    · rcases src i j s u g hj hs hu hgg with ⟨hin, h3, h4⟩ | ⟨hin, h3, h4⟩
      · rcases hbl g hb with h5 | h5
        · exact h1.hs i j s u g hj hs h3 h4 h5
        · exact absurd (hlt1 hj hs h3 h4) (by omega)
      · rcases hbl g hb with h5 | h5
        · exact hap g (.here _ _ _ _ _ h5) (h2.fp hj hs h3 h4)
        · exact absurd (hlt2 hj hs h3 h4) (by omega)
    · rcases src i j s u g hj hs hu hgg with ⟨hin, h3, h4⟩ | ⟨hin, h3, h4⟩ <;> rcases src i' j' s' u' g hj' hs' hu' hgg' with ⟨hin', h3', h4'⟩ | ⟨hin', h3', h4'⟩
      · exact h1.ha i j i' j' s s' u u' g hj hj' hs hs' h3 h3' h4 h4'
      · exact (hap g (h1.fp hj hs h3 h4) (h2.fp hj' hs' h3' h4')).elim
      · exact (hap g (h1.fp hj' hs' h3' h4') (h2.fp hj hs h3 h4)).elim
      · have := h2.ha (i - n) j (i' - n) j' s s' u u' g hj hj' hs hs' h3 h3' h4 h4'
        omega
  refine ⟨hrow, fun g hgg => ?_⟩
  rcases hrow.fp' hgg with h3 | ⟨i, j, s, u, hj, hs, hu, hf⟩
  · rcases hbl g h3 with h4 | h4
    · exact .inl (.here _ _ _ _ _ h4)
    · exact .inr (.inr h4)
  · rcases src i j s u g hj hs hu hf with ⟨_, h3, h4⟩ | ⟨_, h3, h4⟩
    · exact .inl (h1.fp hj hs h3 h4)
    · exact .inr (.inl (h2.fp hj hs h3 h4))
/-- Nothing in it: deep as well as flat. -/
theorem DRow.nil {w : World} {e m : Nat} {ss : List Sh} {v : Value} {xs : List Value} (hown : w.ownsRow 0 e m v 0 xs) (hc : ss.length = m) : DRow w e m ss 0 [] v xs := by
  have hx : xs = [] := List.eq_nil_of_length_eq_zero (by rw [hown.1]; simp)
  subst hx
  exact ⟨rfl, hown, hc, by simp, by simp, by simp, by simp⟩
section
variable {P : Program} {tb : Tb} {ops : Array Oper} {o : Oper} {c : Cx} {S : Nat → Prop} {β : Nat → Value} {σ : SS} {a : Act} {w : World}
/-- An own object seen in another way, in the same blocks. -/
theorem Rel.view (hr : Rel c S β σ a w) {d : Nat} {x x' : SO} (hd : (d, x) ∈ σ.o) (hx : ObjR w S β x' (β d)) (hft : ∀ g', x'.foot w (β d) g' → x.foot w (β d) g') : RelE c { σ with o := (d, x') :: σ.o.filter (fun p => p.1 != d) } a w :=
  ⟨_, _, hr.touch2 hd (Grew.refl _ w) (S' := fun _ => False) (fun _ h => h.elim) (fun _ h => h.elim) (hx.keep (fun _ _ => rfl) fun _ h => .inl h) hft⟩
end
/-- A slice of cells without memory is an own value of flat shape. -/
theorem arr_dv {w : World} {S : Nat → Prop} {β : Nat → Value} {e m n : Nat} {es : List (List Tr)} {v : Value} (h : ObjR w S β (.arr e m n es) v) (hf : FlatE es) : DV w (.sl e m (List.replicate m .flat)) (.sl n es) v := by
  cases h with
  | arr _ _ _ _ v xs hn hown he h =>
    have hfl : ∀ {j : Nat} {s : Sh}, (List.replicate m Sh.flat)[j]? = some s → s = .flat := fun {j s} hs => by
      rw [List.getElem?_replicate] at hs
      split at hs
      · injection hs with hs; exact hs.symm
      · cases hs
    refine .sl e m _ n es v xs hn hown (by simp) he (fun i x j s t u hi hs ht hu => ?_) (fun i j s u g hj hs hu hg => ?_) (fun i j i' j' s s' u u' g hj hj' hs hs' hu hu' hg hg' => ?_)
    · rw [hfl hs]
      have h1 := hf x (List.mem_of_getElem? hi) t (List.mem_of_getElem? ht)
      exact .flat t u h1 ((h i x j t u hi ht hu).free h1)
    · rw [hfl hs] at hg
      cases hg
    · rw [hfl hs] at hg
      cases hg
/-- What a cell holds that goes over into a deep slice: the objects that go with it. -/
inductive CellD (σ : SS) : Sh → SV → Tr → List Nat → Prop
  | flat (t : Tr) (h : t.flat = true) : CellD σ .flat (.tr t) t []
  | arr (d e m n : Nat) (es : List (List Tr)) (hf : find d σ.o = some (.arr e m n es)) (hfl : FlatE es) (hn : d < σ.n) : CellD σ (.sl e m (List.replicate m .flat)) (.own d) (.sl n es) [d]
  | deep (d e m n : Nat) (ss : List Sh) (es : List (List Tr)) (hf : find d σ.o = some (.deep e m n ss es)) (hn : d < σ.n) : CellD σ (.sl e m ss) (.own d) (.sl n es) [d]
section
variable {c : Cx} {S : Nat → Prop} {β : Nat → Value} {σ : SS} {a : Act} {w : World}
theorem CellD.ok (hr : Rel c S β σ a w) {s : Sh} {x : SV} {t : Tr} {ds : List Nat} (h : CellD σ s x t ds) {u : Value} (hu : SVr w S β x u) : DV w s t u ∧ (∀ d ∈ ds, d < σ.n) ∧ ∀ g, FP w s u g → ∃ d ∈ ds, ∃ y, (d, y) ∈ σ.o ∧ y.foot w (β d) g := by
  cases h with
  | flat t h =>
    cases hu with
    | tr _ _ hv => exact ⟨.flat t u h (hv.free h), by simp, fun g hg => by cases hg⟩
  | arr d e m n es hf hfl hn =>
    have hm := mem_of_find hf
    cases hu with
    | own _ =>
      refine ⟨arr_dv (hr.obj d _ hm) hfl, by simpa using hn, fun g hg => ⟨d, by simp, _, hm, ?_⟩⟩
      have := arr_dv (hr.obj d _ hm) hfl
      obtain ⟨xs, hrow⟩ := this.row
      rcases hrow.fp' hg with h1 | ⟨i, j, s, u, hj, hs, _, h1⟩
      · exact foot_blk h1
      · rw [List.getElem?_replicate, if_pos hj] at hs
        injection hs with hs
        subst hs
        cases h1
  | deep d e m n ss es hf hn =>
    have hm := mem_of_find hf
    cases hu with
    | own _ =>
      have ho := hr.obj d _ hm
      generalize hb : β d = b at ho
      cases ho with
      | deep _ _ _ _ _ _ h => exact ⟨h, by simpa using hn, fun g hg => ⟨d, by simp, _, hm, by rw [hb]; exact hg⟩⟩
end
end Go.Proofs.YtodgenjlhiiieaaGreatDoor.Sh
