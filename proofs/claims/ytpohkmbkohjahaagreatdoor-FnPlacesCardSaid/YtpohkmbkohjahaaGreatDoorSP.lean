/- A look: some operations run on what slots show, and a call hands back something new. -/
import Derived.Test.YtpohkmbkohjahaaGreatDoorSE
import Derived.Test.YtpohkmbkohjahaaGreatDoorSH
namespace Go.Proofs.YtpohkmbkohjahaaGreatDoor.Sh
open Go.RowKit
/-- The frames agree off some slots. -/
def offA (D : List Nat) (a a' : Act) : Prop := a'.tmps.size = a.tmps.size ∧ ∀ i, i ∉ D → a'.tmps.getD i undef = a.tmps.getD i undef
theorem offA.put (a : Act) (d : Option Nat) (u : Value) : offA d.toList a (a.put d u) := by
  refine ⟨put_size a d u, fun i hi => ?_⟩
  cases d with
  | none => rfl
  | some d => exact put_other a u fun e => hi (by simp [e])
theorem offA.trans {D E : List Nat} {a b c : Act} (h : offA D a b) (k : offA E b c) : offA (D ++ E) a c := ⟨k.1.trans h.1, fun i hi => (k.2 i fun e => hi (List.mem_append_right _ e)).trans (h.2 i fun e => hi (List.mem_append_left _ e))⟩
theorem offA.tmps {D : List Nat} {a b b' : Act} (h : offA D a b) (e : b'.tmps = b.tmps) : offA D a b' := by
  unfold offA
  rw [e]
  exact h
def dstsL (l : List Oper) : List Nat := l.flatMap fun o => o.dst.toList
theorem wpList_off {P : Program} {ops : Array Oper} {K : Act → World → Prop} {Q : Exit → Act → World → Prop} {rest : List Oper} : ∀ (seg : List Oper) (a : Act) (w : World), wpList P ops (fun e a' w' => e = .normal ∧ K a' w') seg a w → (∀ a' w', K a' w' → offA (dstsL seg) a a' → wpList P ops Q rest a' w') → wpList P ops Q (seg ++ rest) a w
  | [], a, w, h, k => k a w h.2 ⟨rfl, fun _ _ => rfl⟩
  | o :: seg, a, w, h, k => by
    have step : ∀ (b : Act) (w' : World) (u : Value), b.tmps = (a.put o.dst u).tmps → wpList P ops (fun e a' w' => e = .normal ∧ K a' w') seg b w' → wpList P ops Q (seg ++ rest) b w' := fun b w' u hb h => by
      refine wpList_off seg b w' h fun a' w'' h1 h2 => k a' w'' h1 ?_
      exact ((offA.put a o.dst u).tmps hb).trans h2
    show wpList P ops Q (o :: (seg ++ rest)) a w
    unfold wpList at h ⊢
    split
    · rename_i hw
      rw [if_pos hw] at h
      rcases h with h | ⟨_, h⟩
      · left
        unfold Oper.wp at *
        generalize (execOp a.eval o).run P w = r at *
        cases r with
        | ok n w' =>
          cases n <;> simp only [Oper.upon] at h ⊢ <;>
            first
              | exact step _ _ _ rfl h
              | exact step _ _ undef (by cases o.dst <;> rfl) h
              | exact Calls.mono h (fun e w'' he => by
                  cases e with
                  | returned v => exact step _ _ _ rfl he
                  | panicked ch => exact absurd he.1 (by simp)
                  | outgrown => obtain ⟨a0, w0, h0⟩ := he; exact absurd h0.1 (by simp))
              | exact Rows.mono h (fun _ _ he => step _ _ _ rfl he)
              | exact absurd h.1 (by simp)
        | halt x w' => cases x <;> simp only [Oper.upon] at h ⊢ <;> first | exact absurd h.1 (by simp) | exact (h : False).elim
      · obtain ⟨a0, w0, h0⟩ := h
        exact absurd h0.1 (by simp)
    · rename_i hw
      rw [if_neg hw] at h
      exact step _ _ undef rfl h
/-- Is a value told without a look at memory, but for own slices? -/
def flatV : SV → Bool
  | .tr t => t.flat
  | .own _ => true
  | .agg cs => flatL cs
  | .tup cs => flatL cs
  | _ => false
where flatL : List SV → Bool
  | [] => true
  | c :: cs => flatV c && flatL cs
theorem flatL_get : ∀ {cs : List SV} {j : Nat} {c : SV}, flatV.flatL cs = true → cs[j]? = some c → flatV c = true
  | [], j, c, _, h => by simp at h
  | x :: cs, 0, c, h, hc => by
    unfold flatV.flatL at h
    rw [Bool.and_eq_true] at h
    have : x = c := by simpa using hc
    rw [← this]
    exact h.1
  | x :: cs, j + 1, c, h, hc => by
    unfold flatV.flatL at h
    rw [Bool.and_eq_true] at h
    exact flatL_get h.2 (by simpa using hc)
theorem svr_free {w : World} {S S' : Nat → Prop} {β β' : Nat → Value} {x : SV} {v : Value} (h : SVr w S β x v) : flatV x = true → (∀ d ∈ x.names, β' d = β d) → SVr w S' β' x v := by
  induction h with
  | tr t v h => exact fun hf _ => .tr t v (h.free hf)
  | agg cs vs hl h ih =>
    intro hf hn
    refine .agg cs vs hl fun j c v hc hv => ih j c v hc hv (flatL_get hf hc) fun d hd => hn d (SV.mem_namesL (List.mem_of_getElem? hc) hd)
  | tup cs vs hl h ih =>
    intro hf hn
    refine .tup cs vs hl fun j c v hc hv => ih j c v hc hv (flatL_get hf hc) fun d hd => hn d (SV.mem_namesL (List.mem_of_getElem? hc) hd)
  | ptr cs o g b u hg h hc ih => exact fun hf => by cases hf
  | ref d o g h => exact fun hf => by cases hf
  | eref d m i j g n c h => exact fun hf => by cases hf
  | own k =>
    intro _ hn
    rw [← hn k (by simp [SV.names])]
    exact .own k
  | clo f caps vs hl h ih => exact fun hf => by cases hf
  | mth f caps vs hl h ih => exact fun hf => by cases hf
  | any v h => exact fun hf => by cases hf
/-- What a slot shows: a tree, or the content of an own slice. -/
def seeD (σ : SS) (j : Nat) : Option Tr := match find j σ.t with
  | some (.tr t) => some t
  | some (.own d) => match find d σ.o with
    | some (.arr _ _ n es) => some (.sl n es)
    | some (.deep _ _ n _ es) => some (.sl n es)
    | _ => none
  | _ => none
def SS.dropL (σ : SS) (D : List Nat) : SS := ⟨σ.n, σ.t.filter (fun p => !D.contains p.1), σ.o⟩
section
variable {P : Program} {tb : Tb} {ops : Array Oper}
/-- Some operations run on what slots show; one own slice is kept of what they make, and one value that may hold it. -/
theorem SRun.peek0 (n : Nat) {todo : List Oper} {Q : SS → Prop} {σ : SS} (T : List (Nat × Tr)) (hT : T.map (fun p => seeD σ p.1) = T.map (fun p => some p.2)) {K : SS → Prop} (hrun : SRun P ops (todo.take n) K ⟨σ.n, T.map fun p => (p.1, .tr p.2), []⟩)
    {d k : Nat} {v : SV} {y : SO} (hK : ∀ s, K s → (d, v) ∈ s.t ∧ (k, y) ∈ s.o) (hv : flatV v = true) (hvn : ∀ j ∈ v.names, j = k) (hy : (∃ e m n es, y = .arr e m n es ∧ FlatE es) ∨ ∃ e m n ss es, y = .deep e m n ss es) (hd : d < σ.n) (hk : k < σ.n) (hf : k ∉ (σ.dropL (dstsL (todo.take n))).names)
    (h : SRun P ops (todo.drop n) Q (({ σ.dropL (dstsL (todo.take n)) with o := (k, y) :: σ.o } : SS).put d v)) : SRun P ops todo Q σ := by
  intro c a w ⟨S, β, hr⟩
  let S1 : Nat → Prop := fun b => S b ∨ ∃ d x, (d, x) ∈ σ.o ∧ x.foot w (β d) b
  have hS1 : ∀ b, S b → S1 b := fun b hb => .inl hb
  have hlt1 : ∀ b, S1 b → b < w.heap.size := fun b hb => by
    rcases hb with hb | ⟨d, z, hz, hg⟩
    · exact hr.lt b hb
    · exact (hr.obj d z hz).lt hg
  have hr1 : Rel ⟨w, S1, [], fun _ _ => False, fun j v h => (by cases h), hr.globOk.mono hS1, fun p _ ⟨_, _, h, _⟩ => by cases h⟩ S1 β ⟨σ.n, T.map fun p => (p.1, .tr p.2), []⟩ a w := by
    refine ⟨hr.defers, hr.size, hr.one, Grew.refl _ _, fun _ h => h, fun _ h => .inl h, hlt1, fun i v hi => ?_, fun d x hd => (by cases hd), fun j v hj => (by cases hj), fun d x g hd _ => (by cases hd), fun d x d' x' g hd _ _ _ => (by cases hd)⟩
    obtain ⟨p, hp, hpe⟩ := List.mem_map.1 hi
    injection hpe with h1 h2
    subst h1 h2
    have hs : seeD σ p.1 = some p.2 := by
      obtain ⟨k, hk, rfl⟩ := List.mem_iff_getElem.1 hp
      have := congrArg (fun l => l[k]?) hT
      simpa [hk] using this
    unfold seeD at hs
    split at hs
    · rename_i t hf
      injection hs with hs
      subst hs
      have h1 := hr.tmp _ _ (mem_of_find hf)
      exact ⟨h1.1, h1.2.keep (fun _ _ => rfl) hS1⟩
    · rename_i d hf
      have h1 := hr.tmp _ _ (mem_of_find hf)
      refine ⟨h1.1, ?_⟩
      have h2 := h1.2
      generalize a.tmps.getD p.1 undef = u at h2
      split at hs
      · rename_i e0 m0 n0 es0 hfo
        injection hs with hs
        rw [← hs]
        cases h2
        exact .tr _ _ (own_tree hr hS1 (mem_of_find hfo) fun g hg => .inr ⟨d, _, mem_of_find hfo, hg⟩)
      · rename_i e0 m0 n0 ss0 es0 hfo
        injection hs with hs
        rw [← hs]
        cases h2
        exact .tr _ _ (deep_tree hr (mem_of_find hfo) fun g hg => .inr ⟨d, _, mem_of_find hfo, hg⟩)
      · cases hs
    · cases hs
  have hwp := hrun _ a w ⟨S1, β, hr1⟩
  rw [← List.take_append_drop n todo]
  refine wpList_off _ a w hwp fun a2 w2 ⟨s, hs, S2, β2, hr2⟩ hoff => h c a2 w2 ?_
  obtain ⟨hsd, hso⟩ := hK s hs
  have hg : Grew (fun _ => False) w w2 := ⟨hr2.grew.os, hr2.grew.tape, hr2.grew.output, hr2.grew.size, fun k hk _ => hr2.grew.block k hk fun ⟨_, _, h, _⟩ => by cases h⟩
  have hw := hr.world hg
  have hr' : Rel c S β (σ.dropL (dstsL (todo.take n))) a2 w2 := by
    refine ⟨hr2.defers, hoff.1.trans hr.size, hr.one, hw.grew, hr.s0, hr.s1, hw.lt, fun i v hi => ?_, hw.obj, hr.pin, hw.priv, hw.apart⟩
    have hi := List.mem_filter.1 hi
    have h1 := hw.tmp i v hi.1
    refine ⟨by rw [hoff.1]; exact h1.1, ?_⟩
    rw [hoff.2 i (by simpa using hi.2)]
    exact h1.2
  have hob := hr2.obj k y hso
  have hsn : s.n = σ.n := hr2.size.symm.trans (hoff.1.trans hr.size)
  have hpv : ∀ g, y.foot w2 (β2 k) g → w.heap.size ≤ g := fun g hgf => by
    rcases (hr2.priv k y g hso hgf).2 with ⟨_, h⟩ | ⟨h, _⟩
    · exact h
    · omega
  have hx : ObjR w2 S (upd β k (β2 k)) y (β2 k) := by
    rcases hy with ⟨e, m, n, es, rfl, hf⟩ | ⟨e, m, n, ss, es, rfl⟩
    · exact (dv_arr (arr_dv hob hf)).1
    · cases hob with
      | deep _ _ _ _ _ _ h => exact .deep _ _ _ _ _ _ h
  have hnew := Rel.new hr' hf hk (hr2.one k) hx fun g hgf => ⟨fun hS => absurd (hr.lt g hS) (by have := hpv g hgf; omega), Nat.le_trans hr.grew.size (hpv g hgf), fun d' x' hm e => by
    have h1 := (hr.obj d' x' hm).lt (((hr.obj d' x' hm).foot fun b hb => hg.block b ((hr.obj d' x' hm).lt hb) id).1 e)
    have := hpv g hgf
    omega⟩
  have hval : SVr w2 S (upd β k (β2 k)) v (a2.tmps.getD d undef) := svr_free (hr2.tmp d v hsd).2 hv fun j hj => by
    rw [hvn j hj]
    exact upd_same ..
  refine ⟨S, upd β k (β2 k), hnew.defers, hnew.size, hnew.one, hnew.grew, hnew.s0, hnew.s1, hnew.lt, fun i z hi => ?_, hnew.obj, hnew.pin, hnew.priv, hnew.apart⟩
  rcases List.mem_cons.1 hi with hi | hi
  · injection hi with h1 h2
    subst h1 h2
    exact ⟨by rw [hoff.1, hr.size]; exact hd, hval⟩
  · exact hnew.tmp i z (List.mem_filter.1 hi).1
theorem flatE_map {α : Type} {f : α → List Tr} {L : List α} (hf : ∀ x, ∀ t ∈ f x, t.flat = true) : FlatE (L.map f) := fun x hx => by
  obtain ⟨y, _, rfl⟩ := List.mem_map.1 hx
  exact hf y
theorem SRun.peek (n : Nat) {todo : List Oper} {Q : SS → Prop} {σ : SS} (T : List (Nat × Tr)) (d : Nat) (v : SV) (k : Nat) (y : SO) (hrun : SRun P ops (todo.take n) (fun s => find d s.t = some v ∧ find k s.o = some y) ⟨σ.n, T.map fun p => (p.1, .tr p.2), []⟩)
    (hy : (∃ e m n es, y = .arr e m n es ∧ FlatE es) ∨ ∃ e m n ss es, y = .deep e m n ss es) (h : SRun P ops (todo.drop n) Q (({ σ.dropL (dstsL (todo.take n)) with o := (k, y) :: σ.o } : SS).put d v))
    (hT : T.map (fun p => seeD σ p.1) = T.map (fun p => some p.2) := by kernel_rfl) (hv : flatV v = true := by kernel_rfl) (hvn : (v.names.all fun j => j == k) = true := by kernel_rfl) (hd : Nat.blt d σ.n = true := by kernel_rfl) (hk : Nat.blt k σ.n = true := by kernel_rfl) (hf : (σ.dropL (dstsL (todo.take n))).names.contains k = false := by kernel_rfl) : SRun P ops todo Q σ :=
  SRun.peek0 n T hT hrun (fun _ hs => ⟨mem_of_find hs.1, mem_of_find hs.2⟩) hv (fun j hj => by simpa using List.all_eq_true.1 hvn j hj) hy (by simpa using hd) (by simpa using hk) (by simpa using hf) h
end
end Go.Proofs.YtpohkmbkohjahaaGreatDoor.Sh
