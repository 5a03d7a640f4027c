/- From state to state: objects handed over for good, new names; literals of structs and arrays. -/
import Derived.Test.YtnnpmbcamnnfgaaS16
namespace Go.Proofs.Ytnnpmbcamnnfgaa.Sh
open Go.RowKit
def fzV (d n : Nat) (es : List (List Tr)) : SV → SV
  | .own k => if k = d then .tr (.sl n es) else .own k
  | .agg cs => .agg (fzL cs)
  | .tup cs => .tup (fzL cs)
  | x => x
where fzL : List SV → List SV
  | [] => []
  | c :: cs => fzV d n es c :: fzL cs
theorem fzL_get (d n : Nat) (es : List (List Tr)) : ∀ (cs : List SV) (j : Nat), (fzV.fzL d n es cs)[j]? = (cs[j]?).map (fzV d n es)
  | [], j => by simp [fzV.fzL]
  | c :: cs, 0 => by simp [fzV.fzL]
  | c :: cs, j + 1 => by simp [fzV.fzL, fzL_get d n es cs j]
theorem fzL_len (d n : Nat) (es : List (List Tr)) : ∀ (cs : List SV), (fzV.fzL d n es cs).length = cs.length
  | [] => rfl
  | c :: cs => by simp [fzV.fzL, fzL_len d n es cs]
def fzO (d n : Nat) (es : List (List Tr)) : SO → SO
  | .box cs => .box (fzV.fzL d n es cs)
  | x => x
/-- The slice d becomes a tree. -/
def SS.frz (σ : SS) (d n : Nat) (es : List (List Tr)) : SS :=
  ⟨σ.n, (σ.t.map fun p => (p.1, fzV d n es p.2)).filter (fun p => !p.2.names.contains d), (σ.o.map fun p => (p.1, fzO d n es p.2)).filter (fun p => p.1 != d && !p.2.names.contains d)⟩
def SS.keep (σ : SS) (ts os : List Nat) : SS := ⟨σ.n, σ.t.filter (fun p => ts.contains p.1), σ.o.filter (fun p => os.contains p.1)⟩
theorem Le.keep (σ : SS) (ts os : List Nat) : Le σ (σ.keep ts os) := Le.sub rfl (fun _ h => (List.mem_filter.1 h).1) fun _ h => (List.mem_filter.1 h).1
theorem Le.kill (σ : SS) (d : Nat) : Le σ (σ.kill d) := Le.sub rfl (fun _ h => (Sub.kill σ d).t _ h) fun _ h => (Sub.kill σ d).o _ h
theorem Le.of_eq {σ σ' : SS} (h : σ = σ') : Le σ σ' := h ▸ Le.refl σ
section
variable {P : Program} {tb : Tb} {ops : Array Oper} {o : Oper} {c : Cx} {S : Nat → Prop} {β : Nat → Value} {σ : SS} {a : Act} {w : World}
theorem Le.frz {σ : SS} {d e m n : Nat} {es : List (List Tr)} (hd : d < σ.n) (hf : find d σ.o = some (.arr e m n es)) : Le σ (σ.frz d n es) := by
  intro c a w ⟨S, β, hr⟩
  have hmem := mem_of_find hf
  let S' : Nat → Prop := fun b => S b ∨ blkOf (β d) = some b
  have hS : ∀ b, S b → S' b := fun b hb => .inl hb
  have htree : TV w S' (.sl n es) (β d) := own_tree hr hS hmem fun g hg => .inr hg
  have hsv : ∀ {x : SV} {v : Value}, SVr w S β x v → SVr w S' β (fzV d n es x) v := by
    intro x v h
    induction h with
    | tr t v h => exact .tr t v (h.keep (fun _ _ => rfl) hS)
    | agg cs vs hl h ih =>
      refine .agg _ vs (by rw [fzL_len]; exact hl) fun j y v hy hv => ?_
      rw [fzL_get, Option.map_eq_some_iff] at hy
      obtain ⟨x, hx, rfl⟩ := hy
      exact ih j x v hx hv
    | tup cs vs hl h ih =>
      refine .tup _ vs (by rw [fzL_len]; exact hl) fun j y v hy hv => ?_
      rw [fzL_get, Option.map_eq_some_iff] at hy
      obtain ⟨x, hx, rfl⟩ := hy
      exact ih j x v hx hv
    | ptr cs o g b u hg h hc ih => exact (SVr.ptr cs o g b u hg h hc).keep (fun _ _ => rfl) hS
    | ref d o g h => exact .ref d o g h
    | eref d m i j g n c h => exact .eref d m i j g n c h
    | own k =>
      unfold fzV
      split
      · rename_i hk
        subst hk
        exact .tr _ _ htree
      · exact .own k
    | clo f caps vs hl h ih => exact (SVr.clo f caps vs hl h).keep (fun _ _ => rfl) hS
  have hobj : ∀ {x : SO} {v : Value}, ObjR w S β x v → ObjR w S' β (fzO d n es x) v := by
    intro x v h
    cases h with
    | box cs g vs T hg hl h =>
      refine .box _ g vs T hg (by rw [fzL_len]; exact hl) fun j y v hy hv => ?_
      rw [fzL_get, Option.map_eq_some_iff] at hy
      obtain ⟨x, hx, rfl⟩ := hy
      exact hsv (h j x v hx hv)
    | arr e m n es v xs hn hown he h => exact (ObjR.arr e m n es v xs hn hown he h).keep (fun _ _ => rfl) hS
  have ho : ∀ {k x}, (k, x) ∈ (σ.frz d n es).o → ∃ y, (k, y) ∈ σ.o ∧ x = fzO d n es y ∧ k ≠ d := by
    intro k x h
    have h2 := List.mem_filter.1 h
    obtain ⟨⟨k', y⟩, h3, h4⟩ := List.mem_map.1 h2.1
    injection h4 with h4 h5
    subst h4
    simp only [Bool.and_eq_true, bne_iff_ne, ne_eq] at h2
    exact ⟨y, h3, h5.symm, h2.2.1⟩
  have hpd := fun g hg => hr.priv d _ g hmem hg
  refine ⟨S', β, hr.defers, hr.size, hr.one, hr.grew, fun b hb => .inl (hr.s0 b hb), fun b hb => ?_, fun b hb => ?_, fun i v hi => ?_, fun k x hk => ?_, fun j v hj => ⟨(hr.pin j v hj).1, fun x hx => ?_⟩, fun k x g hk hg => ?_, fun k x k' x' g hk hk' hg hg' => ?_⟩
  · rcases hb with hb | hb
    · exact hr.s1 b hb
    · rcases (hpd b hb).2 with h | ⟨h, _⟩
      · exact .inr h
      · omega
  · rcases hb with hb | hb
    · exact hr.lt b hb
    · exact (hr.obj d _ hmem).lt hb
  · have h2 := List.mem_filter.1 hi
    obtain ⟨⟨i', y⟩, h3, h4⟩ := List.mem_map.1 h2.1
    injection h4 with h4 h5
    subst h4 h5
    exact ⟨(hr.tmp i' y h3).1, hsv (hr.tmp i' y h3).2⟩
  · obtain ⟨y, h1, rfl, _⟩ := ho hk
    exact hobj (hr.obj k y h1)
  · obtain ⟨y, h1, _, _⟩ := ho hx
    exact (hr.pin j v hj).2 y h1
  · obtain ⟨y, h1, _, h2⟩ := ho hk
    obtain ⟨h3, h4⟩ := hr.priv k y g h1 hg
    refine ⟨fun hb => ?_, h4⟩
    rcases hb with hb | hb
    · exact h3 hb
    · exact h2 (hr.apart k y d _ g h1 hmem hg hb)
  · obtain ⟨y, h1, _, _⟩ := ho hk
    obtain ⟨y', h1', _, _⟩ := ho hk'
    exact hr.apart k y k' y' g h1 h1' hg hg'

def rnV (d e : Nat) : SV → SV
  | .own k => .own (if k = d then e else k)
  | .ref k o => .ref (if k = d then e else k) o
  | .eref k m i j => .eref (if k = d then e else k) m i j
  | .agg cs => .agg (rnL cs)
  | .tup cs => .tup (rnL cs)
  | .clo f cs => .clo f (rnL cs)
  | .ptr cs o => .ptr (rnL cs) o
  | .tr t => .tr t
where rnL : List SV → List SV
  | [] => []
  | c :: cs => rnV d e c :: rnL cs
theorem rnL_get (d e : Nat) : ∀ (cs : List SV) (j : Nat), (rnV.rnL d e cs)[j]? = (cs[j]?).map (rnV d e)
  | [], j => by simp [rnV.rnL]
  | c :: cs, 0 => by simp [rnV.rnL]
  | c :: cs, j + 1 => by simp [rnV.rnL, rnL_get d e cs j]
theorem rnL_len (d e : Nat) : ∀ (cs : List SV), (rnV.rnL d e cs).length = cs.length
  | [] => rfl
  | c :: cs => by simp [rnV.rnL, rnL_len d e cs]
def rnO (d e : Nat) : SO → SO
  | .box cs => .box (rnV.rnL d e cs)
  | x => x
/-- The object d bears the name e. -/
def SS.ren (σ : SS) (d e : Nat) : SS := ⟨σ.n, σ.t.map fun p => (p.1, rnV d e p.2), σ.o.map fun p => (if p.1 = d then e else p.1, rnO d e p.2)⟩
theorem Le.ren {σ : SS} {d e : Nat} (hd : d < σ.n) (he : e < σ.n) (hf : σ.names.contains e = false) : Le σ (σ.ren d e) := by
  have hf : e ∉ σ.names := by simpa using hf
  intro c a w ⟨S, β, hr⟩
  let β' := upd β e (β d)
  have hb1 : ∀ k, k ≠ e → β' (if k = d then e else k) = β k := by
    intro k hk
    split
    · rename_i h; rw [h]; exact upd_same ..
    · exact upd_other _ _ hk
  have hsv : ∀ {x : SV} {v : Value}, SVr w S β x v → e ∉ x.names → SVr w S β' (rnV d e x) v := by
    intro x v h
    induction h with
    | tr t v h => exact fun _ => .tr t v h
    | agg cs vs hl h ih =>
      intro hn
      refine .agg _ vs (by rw [rnL_len]; exact hl) fun j y v hy hv => ?_
      rw [rnL_get, Option.map_eq_some_iff] at hy
      obtain ⟨x, hx, rfl⟩ := hy
      exact ih j x v hx hv fun hm => hn (SV.mem_namesL (List.mem_of_getElem? hx) hm)
    | tup cs vs hl h ih =>
      intro hn
      refine .tup _ vs (by rw [rnL_len]; exact hl) fun j y v hy hv => ?_
      rw [rnL_get, Option.map_eq_some_iff] at hy
      obtain ⟨x, hx, rfl⟩ := hy
      exact ih j x v hx hv fun hm => hn (SV.mem_namesL (List.mem_of_getElem? hx) hm)
    | ptr cs o g b u hg h hc ih =>
      intro hn
      refine .ptr _ o g b u hg (fun j y hy => ?_) fun j y hy => ?_
      · rw [rnL_get, Option.map_eq_some_iff] at hy
        obtain ⟨x, hx, rfl⟩ := hy
        exact ih j x hx fun hm => hn (SV.mem_namesL (List.mem_of_getElem? hx) hm)
      · rw [rnL_get, Option.map_eq_some_iff] at hy
        obtain ⟨x, hx, rfl⟩ := hy
        exact hc j x hx
    | ref k o g h => exact fun hn => .ref _ o g ((hb1 k fun h => hn (by simp [SV.names, h])).trans h)
    | eref k m i j g n c h => exact fun hn => .eref _ m i j g n c ((hb1 k fun h => hn (by simp [SV.names, h])).trans h)
    | own k =>
      intro hn
      rw [← hb1 k fun h => hn (by simp [SV.names, h])]
      exact .own _
    | clo f caps vs hl h ih =>
      intro hn
      refine .clo f _ vs (by rw [rnL_len]; exact hl) fun j y v hy hv => ?_
      rw [rnL_get, Option.map_eq_some_iff] at hy
      obtain ⟨x, hx, rfl⟩ := hy
      exact ih j x v hx hv fun hm => hn (SV.mem_namesL (List.mem_of_getElem? hx) hm)
  have hobj : ∀ {x : SO} {v : Value}, ObjR w S β x v → e ∉ x.names → ObjR w S β' (rnO d e x) v := by
    intro x v h hn
    cases h with
    | box cs g vs T hg hl h =>
      refine .box _ g vs T hg (by rw [rnL_len]; exact hl) fun j y v hy hv => ?_
      rw [rnL_get, Option.map_eq_some_iff] at hy
      obtain ⟨x, hx, rfl⟩ := hy
      exact hsv (h j x v hx hv) fun hm => hn (SV.mem_namesL (List.mem_of_getElem? hx) hm)
    | arr e m n es v xs hn' hown he h => exact .arr e m n es v xs hn' hown he h
  have hkn : ∀ {k x}, (k, x) ∈ σ.o → k ≠ e ∧ e ∉ x.names := fun {k x} h => ⟨fun h' => hf (by
    subst h'
    exact List.mem_append_right _ (List.mem_flatMap.2 ⟨(k, x), h, List.mem_cons_self⟩)), fun h' => hf (List.mem_append_right _ (List.mem_flatMap.2 ⟨(k, x), h, List.mem_cons_of_mem _ h'⟩))⟩
  have ho : ∀ {k x}, (k, x) ∈ (σ.ren d e).o → ∃ k0 y, (k0, y) ∈ σ.o ∧ k = (if k0 = d then e else k0) ∧ x = rnO d e y := by
    intro k x h
    obtain ⟨⟨k', y⟩, h3, h4⟩ := List.mem_map.1 h
    injection h4 with h4 h5
    exact ⟨k', y, h3, h4.symm, h5.symm⟩
  refine ⟨S, β', hr.defers, hr.size, fun k => ?_, hr.grew, hr.s0, hr.s1, hr.lt, fun i v hi => ?_, fun k x hk => ?_, fun j v hj => ⟨(hr.pin j v hj).1, fun x hx => ?_⟩, fun k x g hk hg => ?_, fun k x k' x' g hk hk' hg hg' => ?_⟩
  · simp only [β', upd]
    split
    · exact hr.one d
    · exact hr.one k
  · obtain ⟨⟨i', y⟩, h3, h4⟩ := List.mem_map.1 hi
    injection h4 with h4 h5
    subst h4 h5
    exact ⟨(hr.tmp i' y h3).1, hsv (hr.tmp i' y h3).2 fun h' => hf (List.mem_append_left _ (List.mem_flatMap.2 ⟨(i', y), h3, h'⟩))⟩
  · obtain ⟨k0, y, h1, rfl, rfl⟩ := ho hk
    rw [hb1 k0 (hkn h1).1]
    exact hobj (hr.obj k0 y h1) (hkn h1).2
  · obtain ⟨k0, y, h1, h2, rfl⟩ := ho hx
    have hlt := (hr.pin j v hj).1
    have hk0 : k0 = j := by
      split at h2
      · omega
      · exact h2.symm
    subst hk0
    have := hb1 k0 (hkn h1).1
    rw [← h2] at this
    rw [this]
    exact (hr.pin k0 v hj).2 y h1
  · obtain ⟨k0, y, h1, rfl, rfl⟩ := ho hk
    rw [hb1 k0 (hkn h1).1] at hg
    obtain ⟨h3, h4⟩ := hr.priv k0 y g h1 hg
    refine ⟨h3, h4.imp id fun ⟨h5, h6⟩ => ⟨?_, h6⟩⟩
    show σ.n ≤ _
    rw [if_neg (by omega)]
    exact h5
  · obtain ⟨k0, y, h1, rfl, rfl⟩ := ho hk
    obtain ⟨k1, y', h1', rfl, rfl⟩ := ho hk'
    rw [hb1 k0 (hkn h1).1] at hg
    rw [hb1 k1 (hkn h1').1] at hg'
    rw [hr.apart k0 y k1 y' g h1 h1' hg hg']

/-! Literals of structs and arrays -/
def fillS (pl : List (Nat × Nat)) : List SV → List (Nat × SV) → Option (List SV)
  | cells, [] => some cells
  | cells, (i, v) :: r => match pl[i]?, v.cells with
    | some (off, size), some cs => if cs.length = size ∧ off + cs.length ≤ cells.length then fillS pl (cells.take off ++ cs ++ cells.drop (off + cs.length)) r else none
    | _, _ => none
def placesS (tb : Tb) : List (Nat × Nat) → Option (List (Nat × Nat))
  | [] => some []
  | (off, ft) :: r => match find ft tb, placesS tb r with
    | some j, some ps => some ((off, j.size) :: ps)
    | _, _ => none
def evP (σ : SS) : List (Nat × Operand) → Option (List (Nat × SV))
  | [] => some []
  | (i, x) :: r => match ev σ x, evP σ r with
    | some v, some vs => some ((i, v) :: vs)
    | _, _ => none
def vbuild (tb : Tb) (σ : SS) (t : Nat) (ps : List (Nat × Operand)) : Option SV := match find t tb with
  | some i => match zvals i.zero, evP σ ps with
    | some _, some vs => match i.d with
      | .struct fs => match placesS tb fs with
        | some pl => (fillS pl (i.zero.map .tr) vs).map .agg
        | none => none
      | .array n e => match find e tb with
        | some j => (fillS ((List.range n).map fun k => (k * j.size, j.size)) (i.zero.map .tr) vs).map .agg
        | none => none
      | _ => none
    | _, _ => none
  | none => none
theorem fill_ok (hone : ∀ d, (β d).cells = #[β d]) {place : Nat → Option (Nat × Nat)} {pl : List (Nat × Nat)} (hpl : ∀ i p, pl[i]? = some p → place i = some p) : ∀ {vs : List (Nat × SV)} {us : List (Nat × Value)} {cells : List SV} {arr : Array Value} {out : List SV},
    fillS pl cells vs = some out → vs.length = us.length → (∀ (k : Nat) x y, vs[k]? = some x → us[k]? = some y → x.1 = y.1 ∧ SVr w S β x.2 y.2) → cells.length = arr.size → (∀ (j : Nat) x y, cells[j]? = some x → arr[j]? = some y → SVr w S β x y) →
    ∃ r, Instr.fill place arr us = some r ∧ out.length = r.size ∧ ∀ (j : Nat) x y, out[j]? = some x → r[j]? = some y → SVr w S β x y
  | [], [], cells, arr, out, h, _, _, hl, hc => by
    injection h with h
    subst h
    exact ⟨arr, rfl, hl, hc⟩
  | (i, v) :: vs, (i', u) :: us, cells, arr, out, h, hlen, hr, hl, hc => by
    obtain ⟨h1, h2⟩ := hr 0 (i, v) (i', u) rfl rfl
    simp only at h1 h2
    subst h1
    unfold fillS at h
    split at h
    · rename_i off size cs hp hcs
      split at h
      · rename_i hh
        obtain ⟨h3, h4⟩ := hh
        obtain ⟨h5, h6⟩ := SV.cells_ok hone hcs h2
        have hset := Go.Great.foldl_set off u.cells.toList 0 arr
        have hz : (u.cells.zipIdx.foldl (fun cs (x : Value × Nat) => cs.setIfInBounds (off + x.2) x.1) arr) = ((u.cells.toList.zipIdx 0).foldl (fun cs (x : Value × Nat) => cs.setIfInBounds (off + x.2) x.1) arr) := by
          rw [← Array.foldl_toList, Array.toList_zipIdx]
        obtain ⟨r, h7, h8, h9⟩ := fill_ok hone hpl (arr := (u.cells.toList.zipIdx 0).foldl (fun cs (x : Value × Nat) => cs.setIfInBounds (off + x.2) x.1) arr) h (by simpa using hlen) (fun k x y hx hy => hr (k + 1) x y (by simpa using hx) (by simpa using hy)) (by
            rw [hset.1, ← hl]
            simp only [List.length_append, List.length_take, List.length_drop]
            omega) (fun j x y hx hy => by
            rw [hset.2 j] at hy
            have hlt : (cells.take off).length = off := by rw [List.length_take]; omega
            by_cases hj : j < off
            · rw [if_neg (by omega)] at hy
              rw [List.append_assoc, List.getElem?_append_left (by omega), List.getElem?_take_of_lt hj] at hx
              exact hc j x y hx hy
            · by_cases hj2 : j < off + cs.length
              · rw [if_pos ⟨by omega, by rw [Array.length_toList]; omega, by omega⟩] at hy
                rw [List.append_assoc, List.getElem?_append_right (by omega), List.getElem?_append_left (by omega), hlt] at hx
                exact h6 (j - off) x y hx (by simpa using hy)
              · rw [if_neg (by rw [Array.length_toList]; omega)] at hy
                rw [List.getElem?_append_right (by rw [List.length_append]; omega), List.getElem?_drop, List.length_append, hlt, show off + cs.length + (j - (off + cs.length)) = j from by omega] at hx
                exact hc j x y hx hy)
        refine ⟨r, ?_, h8, h9⟩
        unfold Instr.fill
        rw [hpl i _ hp]
        have hcond : (u.cells.size ≠ size || off + u.cells.size > arr.size) = false := by simp; omega
        simp only [hcond, Bool.false_eq_true, if_false]
        rw [← h7]
        congr 1
      · cases h
    · cases h
theorem evP_ok (hr : Rel c S β σ a w) : ∀ {ps : List (Nat × Operand)} {vs : List (Nat × SV)}, evP σ ps = some vs → vs.length = ps.length ∧ ∀ (k : Nat) x y, vs[k]? = some x → (ps.map fun p => (p.1, a.eval p.2))[k]? = some y → x.1 = y.1 ∧ SVr w S β x.2 y.2
  | [], vs, h => by injection h with h; subst h; simp
  | (i, x) :: r, vs, h => by
    unfold evP at h
    split at h
    · rename_i v vs' hv hvs
      injection h with h
      subst h
      obtain ⟨h1, h2⟩ := evP_ok hr hvs
      refine ⟨by simp [h1], fun k p q hp hq => ?_⟩
      cases k with
      | zero => simp at hp hq; subst hp hq; exact ⟨rfl, ev_ok hr hv⟩
      | succ k => exact h2 k p q (by simpa using hp) (by simpa using hq)
    · cases h
theorem places_ok (hP : TbOk P tb) : ∀ {f : List Field} {pl : List (Nat × Nat)}, placesS tb (f.map fun x => (x.offset, x.type)) = some pl → f.mapM (fun f => (P.info? f.type).map fun i => (f.offset, i.size)) = some pl
  | [], pl, h => by injection h with h; subst h; rfl
  | x :: f, pl, h => by
    simp only [List.map_cons, placesS] at h
    split at h
    · rename_i j ps hj hps
      injection h with h
      subst h
      obtain ⟨q, h1, h2, _⟩ := (find_ti hP hj).info'
      rw [List.mapM_cons, h1, places_ok hP hps]
      simp [h2]
    · cases h
theorem vbuild_ok (hP : TbOk P tb) (hr : Rel c S β σ a w) {t : Nat} {ps : Array (Nat × Operand)} (ho : o.op = .build t ps) {v : SV} (h : vbuild tb σ t ps.toList = some v) : VOk P S β a w o v := by
  unfold vbuild at h
  split at h
  · rename_i i hi
    split at h
    · rename_i zs vs hz hvs
      obtain ⟨q, g1, g2, g3, g4⟩ := (find_ti hP hi).info'
      obtain ⟨z, g5, g6⟩ := g4 zs hz
      obtain ⟨g7, g8⟩ := zvals_ok (w := w) (S := S) hz
      obtain ⟨g9, g10⟩ := evP_ok hr hvs
      have hzl : (i.zero.map SV.tr).length = z.cells.size := by rw [List.length_map, g7, ← g6, Array.length_toList]
      have hzc : ∀ (j : Nat) x y, (i.zero.map SV.tr)[j]? = some x → z.cells[j]? = some y → SVr w S β x y := by
        intro j x y hx hy
        rw [List.getElem?_map, Option.map_eq_some_iff] at hx
        obtain ⟨t, ht, rfl⟩ := hx
        exact .tr _ _ (g8 j t y ht (by rw [← g6]; simpa using hy))
      have fin : ∀ {place : Nat → Option (Nat × Nat)} {pl : List (Nat × Nat)}, (∀ i p, pl[i]? = some p → place i = some p) → (fillS pl (i.zero.map .tr) vs).map SV.agg = some v → (∀ cells, Instr.fill place z.cells (ps.map fun p => (p.1, a.eval p.2)).toList = some cells → P.built t (ps.map fun p => (p.1, a.eval p.2)).toList = some cells) → VOk P S β a w o v := by
        intro place pl hpl hf hb
        rw [Option.map_eq_some_iff] at hf
        obtain ⟨out, hf, rfl⟩ := hf
        obtain ⟨r, h1, h2, h3⟩ := fill_ok (w := w) (S := S) hr.one hpl (us := (ps.map fun p => (p.1, a.eval p.2)).toList) hf (by simp [g9]) (fun k x y hx hy => g10 k x y hx (by simpa using hy)) hzl hzc
        have hrun := run_build (P := P) w t _ r (hb r h1)
        exact .mk (s := Instr.build t (ps.map fun p => (p.1, a.eval p.2))) (by simp only [execOp, ho]) hrun (.agg out r h2 h3)
      split at h
      · rename_i fs hd
        split at h
        · rename_i pl hpl
          obtain ⟨f, hu, hm⟩ := (find_ti hP hi).struct hd
          have hpm := places_ok hP (f := f.toList) (by rw [hm]; exact hpl)
          refine fin (place := (pl.toArray[·]?)) (fun i p hp => by simpa using hp) h fun cells hc => ?_
          unfold Program.built
          simp only [g1, hu, g5, hpm]
          exact hc
        · cases h
      · rename_i n e hd
        split at h
        · rename_i j hj
          obtain ⟨q', k1, k2, _⟩ := (find_ti hP hj).info'
          have hu := (find_ti hP hi).array hd
          refine fin (place := fun i => some (i * q'.size, q'.size)) (fun i p hp => by
            rw [List.getElem?_map, Option.map_eq_some_iff] at hp
            obtain ⟨k, hk, rfl⟩ := hp
            have := (List.getElem?_eq_some_iff.1 hk).1
            rw [List.length_range] at this
            rw [List.getElem?_range this] at hk
            injection hk with hk
            subst hk
            rw [k2]) h fun cells hc => ?_
          unfold Program.built
          simp only [g1, hu, g5, k1]
          exact hc
        · cases h
      · cases h
    · cases h
  · cases h
theorem lstep_build (hP : TbOk P tb) {t : Nat} {ps : Array (Nat × Operand)} (ho : o.op = .build t ps) {ν : SS} (hgd : gd ops ν o = some true) (hok : okd ν o = true) {v : SV} (h : vbuild tb ν t ps.toList = some v) : LStep P ops o ν (some (v, none)) :=
  lstep_of_vok hgd hok fun _ _ _ _ _ hr => vbuild_ok hP hr ho h
end
end Go.Proofs.Ytnnpmbcamnnfgaa.Sh
