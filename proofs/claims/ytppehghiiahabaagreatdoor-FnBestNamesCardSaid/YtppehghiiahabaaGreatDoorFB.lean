/- A variable that is written no more may be read by all: its box goes over to what is read alone; no condition. -/
import Derived.Test.YtppehghiiahabaaGreatDoorSB
namespace Go.Proofs.YtppehghiiahabaaGreatDoor.Sh
open Go.RowKit
def fbV (d : Nat) (cs0 : List SV) : SV → SV
  | .ref k o => if k = d then .ptr cs0 o else .ref k o
  | .agg cs => .agg (fbL cs)
  | .tup cs => .tup (fbL cs)
  | .clo f cs => .clo f (fbL cs)
  | .mth f cs => .mth f (fbL cs)
  | x => x
where fbL : List SV → List SV
  | [] => []
  | c :: cs => fbV d cs0 c :: fbL cs
theorem fbL_get (d : Nat) (cs0 : List SV) : ∀ (cs : List SV) (j : Nat), (fbV.fbL d cs0 cs)[j]? = (cs[j]?).map (fbV d cs0)
  | [], j => by simp [fbV.fbL]
  | c :: cs, 0 => by simp [fbV.fbL]
  | c :: cs, j + 1 => by simp [fbV.fbL, fbL_get d cs0 cs j]
theorem fbL_len (d : Nat) (cs0 : List SV) : ∀ (cs : List SV), (fbV.fbL d cs0 cs).length = cs.length
  | [] => rfl
  | c :: cs => by simp [fbV.fbL, fbL_len d cs0 cs]
def fbO (d : Nat) (cs0 : List SV) : SO → SO
  | .box cs => .box (fbV.fbL d cs0 cs)
  | x => x
/-- The variable d becomes something to read. -/
def SS.frzB (σ : SS) (d : Nat) (cs0 : List SV) : SS :=
  ⟨σ.n, (σ.t.map fun p => (p.1, fbV d cs0 p.2)).filter (fun p => !p.2.names.contains d), (σ.o.map fun p => (p.1, fbO d cs0 p.2)).filter (fun p => p.1 != d && !p.2.names.contains d)⟩
section
variable {P : Program} {tb : Tb} {ops : Array Oper} {o : Oper} {c : Cx} {S : Nat → Prop} {β : Nat → Value} {σ : SS} {a : Act} {w : World}
theorem fbO_foot {w : World} {d : Nat} {cs0 : List SV} {y : SO} {v : Value} {g : Nat} : (fbO d cs0 y).foot w v g ↔ y.foot w v g := by cases y <;> exact Iff.rfl
theorem Le.frzB {σ : SS} {d : Nat} {cs0 : List SV} (hd : Nat.blt d σ.n = true) (hf : find d σ.o = some (.box cs0)) : Le σ (σ.frzB d cs0) := by
  have hd : d < σ.n := by simpa using hd
  intro c a w ⟨S, β, hr⟩
  have hmem := mem_of_find hf
  let S' : Nat → Prop := fun b => S b ∨ (SO.box cs0).foot w (β d) b
  have hS : ∀ b, S b → S' b := fun b hb => .inl hb
  have hob := hr.obj d _ hmem
  generalize hbd : β d = bd at hob
  cases hob with
  | box _ g vs T hg hl hh =>
  have hsg : S' g := .inr (by rw [hbd]; rfl)
  have hsv : ∀ {x : SV} {v : Value}, SVr w S β x v → SVr w S' β (fbV d cs0 x) v := by
    intro x v h
    induction h with
    | tr t v h => exact .tr t v (h.keep (fun _ _ => rfl) hS)
    | agg cs vs hl h ih =>
      refine .agg _ vs (by rw [fbL_len]; exact hl) fun j y v hy hv => ?_
      rw [fbL_get, Option.map_eq_some_iff] at hy
      obtain ⟨x, hx, rfl⟩ := hy
      exact ih j x v hx hv
    | tup cs vs hl h ih =>
      refine .tup _ vs (by rw [fbL_len]; exact hl) fun j y v hy hv => ?_
      rw [fbL_get, Option.map_eq_some_iff] at hy
      obtain ⟨x, hx, rfl⟩ := hy
      exact ih j x v hx hv
    | ptr cs o g b u hg h hc ih => exact (SVr.ptr cs o g b u hg h hc).keep (fun _ _ => rfl) hS
    | ref k o g' h =>
      unfold fbV
      split
      · rename_i hk
        subst hk
        rw [hbd] at h
        injection h with h
        injection h with h
        injection h with h
        subst h
        have := SVr.ptr (w := w) (S := S') (β := β) cs0 o g 0 (fun j => vs.getD j undef) hsg (fun j c hc => by
          have hj := (List.getElem?_eq_some_iff.1 hc).1
          have hv : vs[j]? = some (vs.getD j undef) := by
            rw [Array.getD_eq_getD_getElem?, Array.getElem?_eq_getElem (by omega)]
            rfl
          exact (hh j c _ hc hv).keep (fun _ _ => rfl) hS) (fun j c hc => by
          have hj := (List.getElem?_eq_some_iff.1 hc).1
          rw [Nat.zero_add, cell_of_row w g j vs T (0, 0) hg, Array.getD_eq_getD_getElem?, Array.getElem?_eq_getElem (by omega)]
          rfl)
        rwa [Nat.zero_add] at this
      · exact .ref k o g' h
    | eref d m i j g n c h => exact .eref d m i j g n c h
    | own k => exact .own k
    | clo f caps vs hl h ih =>
      refine .clo f _ vs (by rw [fbL_len]; exact hl) fun j y v hy hv => ?_
      rw [fbL_get, Option.map_eq_some_iff] at hy
      obtain ⟨x, hx, rfl⟩ := hy
      exact ih j x v hx hv
    | mth f caps vs hl h ih =>
      refine .mth f _ vs (by rw [fbL_len]; exact hl) fun j y v hy hv => ?_
      rw [fbL_get, Option.map_eq_some_iff] at hy
      obtain ⟨x, hx, rfl⟩ := hy
      exact ih j x v hx hv
    | any v h => exact .any v h
  have hobj : ∀ {x : SO} {v : Value}, ObjR w S β x v → ObjR w S' β (fbO d cs0 x) v := by
    intro x v h
    cases h with
    | box cs g vs T hg hl h =>
      refine .box _ g vs T hg (by rw [fbL_len]; exact hl) fun j y v hy hv => ?_
      rw [fbL_get, Option.map_eq_some_iff] at hy
      obtain ⟨x, hx, rfl⟩ := hy
      exact hsv (h j x v hx hv)
    | arr e m n es v xs hn hown he h => exact (ObjR.arr e m n es v xs hn hown he h).keep (fun _ _ => rfl) hS
    | deep e m n ss es v h => exact .deep e m n ss es v h
    | hol e m n ss es i j d v xs h hu => exact .hol e m n ss es i j d v xs h hu
  have ho : ∀ {k x}, (k, x) ∈ (σ.frzB d cs0).o → ∃ y, (k, y) ∈ σ.o ∧ x = fbO d cs0 y ∧ k ≠ d := by
    intro k x h
    have h2 := List.mem_filter.1 h
    obtain ⟨⟨k', y⟩, h3, h4⟩ := List.mem_map.1 h2.1
    injection h4 with h4 h5
    subst h4
    simp only [Bool.and_eq_true, bne_iff_ne, ne_eq] at h2
    exact ⟨y, h3, h5.symm, h2.2.1⟩
  have hpd := fun g hg => hr.priv d _ g hmem hg
  refine ⟨S', β, hr.defers, hr.size, hr.one, hr.grew, fun b hb => .inl (hr.s0 b hb), fun b hb => ?_, fun b hb => ?_, fun i v hi => ?_, fun k x hk => ?_, fun j v hj => ⟨(hr.pin j v hj).1, fun x hx => ?_⟩, fun k x g hk hg => ?_, fun k x k' x' g hk hk' hg hg' => ?_⟩
  · rcases hb with hb | hb
    · exact hr.s1 b hb
    · rcases (hpd b hb).2 with ⟨_, h⟩ | ⟨h, _⟩
      · exact .inr h
      · omega
  · rcases hb with hb | hb
    · exact hr.lt b hb
    · exact (hr.obj d _ hmem).lt hb
  · have h2 := List.mem_filter.1 hi
    obtain ⟨⟨i', y⟩, h3, h4⟩ := List.mem_map.1 h2.1
    injection h4 with h4 h5
    subst h4 h5
    exact ⟨(hr.tmp i' y h3).1, hsv (hr.tmp i' y h3).2⟩
  · obtain ⟨y, h1, rfl, _⟩ := ho hk
    exact hobj (hr.obj k y h1)
  · obtain ⟨y, h1, rfl, _⟩ := ho hx
    exact (hr.pin j v hj).2 y h1
  · obtain ⟨y, h1, rfl, h2⟩ := ho hk
    have hg := fbO_foot.1 hg
    obtain ⟨h3, h4⟩ := hr.priv k y g h1 hg
    refine ⟨fun hb => ?_, h4⟩
    rcases hb with hb | hb
    · exact h3 hb
    · exact h2 (hr.apart k y d _ g h1 hmem hg hb)
  · obtain ⟨y, h1, rfl, _⟩ := ho hk
    obtain ⟨y', h1', rfl, _⟩ := ho hk'
    exact hr.apart k y k' y' g h1 h1' (fbO_foot.1 hg) (fbO_foot.1 hg')
end
end Go.Proofs.YtppehghiiahabaaGreatDoor.Sh
