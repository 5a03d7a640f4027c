/- A place's names marked through the place: a call that changes an own slice which lies in a struct; no condition. -/
import Derived.Test.YtpohkmbkohjahaaGreatDoorKJ
namespace Go.Proofs.YtpohkmbkohjahaaGreatDoor.Sh
open Go.RowKit
/-- A call that is handed a place by value and changes its names. -/
def PlaceCall (P : Program) (f : FuncId) (e m : Nat) (es es' : List (List Tr)) (k r : Int) : Prop :=
  ∀ (w : World) (S : Nat → Prop) (s : ByteArray) (a b c : Int) (u : Value), (∀ b, S b → b < w.heap.size) → ObjR w S bz (.arr e m es.length es) u → (∀ g, blkOf u = some g → ¬ S g) → GlobOk S w →
    Calls P f #[.agg #[.string s, .int .i64 a, .int .i64 b, .int .i64 c, u], .int .i64 k] w fun en w' => en = .returned (.int .i64 r) ∧ Grew (fun g => blkOf u = some g) w w' ∧ ObjR w' (fun _ => False) bz (.arr e m es'.length es') u
theorem GlobOk.keep {S : Nat → Prop} {w w' : World} (h : GlobOk S w) (hk : ∀ b, S b → w'.heap[b]? = w.heap[b]?) (hs : w.heap.size ≤ w'.heap.size) : GlobOk S w' := by
  refine ⟨fun p hp => ?_, fun g hg => ?_, fun p hp => ?_⟩
  · obtain ⟨h1, h2, h3⟩ := h.1 p hp
    exact ⟨h1, Nat.lt_of_lt_of_le h2 hs, fun j v hj => (World.cell?_of_block (w := w) (hk _ h1)).trans (h3 j v hj)⟩
  · obtain ⟨h1, h2, t, u, h3⟩ := h.2.1 g hg
    exact ⟨h1, Nat.lt_of_lt_of_le h2 hs, t, u, (World.cell?_of_block (w := w) (hk _ h1)).trans h3⟩
  · obtain ⟨h1, h2, t, x, h3⟩ := h.2.2 p hp
    exact ⟨h1, Nat.lt_of_lt_of_le h2 hs, t, x, (hk _ h1).trans h3⟩
section
variable {P : Program} {tb : Tb} {ops : Array Oper} {o : Oper} {c : Cx} {S : Nat → Prop} {β : Nat → Value} {σ : SS} {a : Act} {w : World}
/-- What a call that changes its first argument's slice does, in the world. -/
theorem scall_raw {f : FuncId} {e m : Nat} {es es' : List (List Tr)} {k r : Int} (hfl' : FlatE es') (hS : SCall P f [.o (.arr e m es.length es), .v (.tr (.int .i64 k))] ⟨[.v (.tr (.int .i64 r))], [(0, .arr e m es'.length es')], false⟩) {u : Value} (hu : u.cells = #[u]) (hlt : ∀ b, S b → b < w.heap.size) (hob : ObjR w S bz (.arr e m es.length es) u) (hpr : ∀ g, blkOf u = some g → ¬ S g) (hgl : GlobOk S w) :
    Calls P f #[u, .int .i64 k] w fun en w' => en = .returned (.int .i64 r) ∧ Grew (fun g => blkOf u = some g) w w' ∧ ObjR w' (fun _ => False) bz (.arr e m es'.length es') u := by
  have h := hS w S #[u, .int .i64 k] rfl hlt (fun j x v hj hv => by
    match j with
    | 0 => cases hj
    | 1 =>
      injection hj with hj
      injection hj with hj
      subst hj
      have : v = .int .i64 k := by simpa using hv.symm
      subst this
      exact .tr _ _ (.int .i64 k)
    | (j + 2) => cases hj) (fun j x v hj hv => by
    match j with
    | 0 =>
      injection hj with hj
      injection hj with hj
      subst hj
      have : v = u := by simpa using hv.symm
      subst this
      exact ⟨hu, hob, hpr⟩
    | 1 => cases hj
    | (j + 2) => cases hj) (fun i j x y u v g hi hj _ _ _ _ => by
    match i, j with
    | 0, 0 => rfl
    | 0, 1 => cases hj
    | 0, (j + 2) => cases hj
    | 1, _ => cases hi
    | (i + 2), _ => cases hi) hgl
  refine h.mono fun en w' ⟨v, S', he, hg, _, _, hv, ho⟩ => ?_
  subst he
  have h1 : ResR #[u, .int .i64 k] w' S' w.heap.size (.v (.tr (.int .i64 r))) v := hv
  obtain ⟨_, h2⟩ := h1
  cases h2 with | tr _ _ h2 => cases h2 with | int =>
  have h3 := (ho 0 _ u (List.mem_singleton.2 rfl) rfl).1
  refine ⟨rfl, ⟨hg.os, hg.tape, hg.output, hg.size, fun q hq hx => hg.block q hq ?_⟩, h3.free hfl'⟩
  rintro ⟨j, x, y, hj, hy, hb⟩
  match j with
  | 0 =>
    injection hj with hj
    injection hj with hj
    subst hj
    have : y = u := by simpa using hy.symm
    subst this
    exact hx hb
  | 1 => cases hj
  | (j + 2) => cases hj
end
set_option maxHeartbeats 4000000 in
set_option maxRecDepth 100000 in
theorem markPlace_call {es es' : List (List Tr)} {k r : Int} (hfl : FlatE es) (hfl' : FlatE es') (hS : SCall Tryz.prog 48 [.o (.arr 95 5 es.length es), .v (.tr (.int .i64 k))] ⟨[.v (.tr (.int .i64 r))], [(0, .arr 95 5 es'.length es')], false⟩) : PlaceCall Tryz.prog 18 95 5 es es' k r := by
  intro w S s a b c u hlt hob hpr hgl
  have hu : u.cells = #[u] := by
    cases hob with
    | arr _ _ _ _ _ xs hn hown he hh => rcases hown.2 with ⟨h, _⟩ | ⟨g, cap, cur, h, _⟩ <;> rw [h] <;> rfl
  have hua : ∀ T : TypeId, (.agg #[.string s, .int .i64 a, .int .i64 b, .int .i64 c, u] : Value).cells = #[.string s, .int .i64 a, .int .i64 b, .int .i64 c, u] := fun T => by
    simp [Value.cells, hu]
  have hm : ∀ ob : Obj, Calls Tryz.prog 48 #[u, .int .i64 k] (w.alloc ob) fun en w' => en = .returned (.int .i64 r) ∧ Grew (fun g => blkOf u = some g) (w.alloc ob) w' ∧ ObjR w' (fun _ => False) bz (.arr 95 5 es'.length es') u := fun ob => by
    have hold : ∀ b, b < w.heap.size → (w.alloc ob).heap[b]? = w.heap[b]? := fun b hb => heap_alloc_old w ob hb
    have hsz : w.heap.size ≤ (w.alloc ob).heap.size := by
      show w.heap.size ≤ (w.heap.push _).size
      rw [Array.size_push]
      omega
    refine scall_raw hfl' hS hu (fun b hb => Nat.lt_of_lt_of_le (hlt b hb) hsz) (hob.keep (fun b hb => ?_) fun _ h => h) hpr (hgl.keep (fun b hb => hold b (hlt b hb)) hsz)
    rcases hb with hb | hb
    · exact hold b (hlt b hb)
    · exact hold b (hob.lt hb)
  go_enter Tryz.func18, Tryz.ntmps18
  go_wp2_with (go_at_call 48; refine (hm _).mono ?_; rintro en w' ⟨rfl, hg, ho⟩)
  go_ret
  exact ⟨rfl, (Grew.alloc _ w _).trans hg, ho⟩
section
variable {P : Program} {tb : Tb} {ops : Array Oper} {o : Oper} {c : Cx} {S : Nat → Prop} {β : Nat → Value} {σ : SS} {a : Act} {w : World}
theorem epart {f : FuncId} {e m n n' d d0 : Nat} {es es' : List (List Tr)} {k r : Int} (he : Ents P f) (hc : PlaceCall P f e m es es' k r) (hfl : FlatE es) (hfl' : FlatE es') {fo x y : Operand} {args : Array Operand} {ts : Array TypeId} (ho : o.op = .call { callee := .value fo, args := args, argTypes := ts }) (hargs : args = #[x, y]) (hdst : o.dst = some d0) (hn : es.length = n) (hn' : es'.length = n') {s : ByteArray} {i1 i2 i3 : Int}
    (hgd : gd ops σ o = some true := by kernel_rfl) (hd0 : Nat.blt d0 σ.n = true := by kernel_rfl) (hdn : Nat.blt d σ.n = true := by kernel_rfl) (hfo : ev σ fo = some (.clo f []) := by kernel_rfl) (hx : ev σ x = some (.agg [.tr (.str s), .tr (.int .i64 i1), .tr (.int .i64 i2), .tr (.int .i64 i3), .own d]) := by kernel_rfl) (hy : ev σ y = some (.tr (.int .i64 k)) := by kernel_rfl)
    (hob : find d σ.o = some (.arr e m n es) := by kernel_rfl) : EStep P ops o σ (({ σ with o := (d, .arr e m n' es') :: σ.o.filter (fun p => p.1 != d) } : SS).put d0 (.tr (.int .i64 r))) := by
  have hd0 : d0 < σ.n := by simpa using hd0
  have hdn : d < σ.n := by simpa using hdn
  subst hargs hn hn'
  refine estep_of hgd fun c S β a w hr => ?_
  have hxv := ev_ok hr hx
  have hyv := ev_ok hr hy
  have hfv := ev_ok hr hfo
  have hmem := mem_of_find hob
  have hobj := hr.obj d _ hmem
  generalize hxe : a.eval x = sx at hxv
  generalize hye : a.eval y = sy at hyv
  generalize hfe : a.eval fo = fv at hfv
  cases hxv with
  | agg cs us hul hus =>
  cases hyv with
  | tr _ _ hyt =>
  cases hyt with
  | int =>
  cases hfv with
  | clo f caps vs hvl hvh =>
    have hvs : vs = #[] := Array.eq_empty_of_size_eq_zero (by simpa using hvl.symm)
    subst hvs
    have hus5 : us.size = 5 := by simpa using hul.symm
    have h0 := hus 0 _ (us[0]'(by omega)) rfl (Array.getElem?_eq_getElem _)
    have h1 := hus 1 _ (us[1]'(by omega)) rfl (Array.getElem?_eq_getElem _)
    have h2 := hus 2 _ (us[2]'(by omega)) rfl (Array.getElem?_eq_getElem _)
    have h3 := hus 3 _ (us[3]'(by omega)) rfl (Array.getElem?_eq_getElem _)
    have h4 := hus 4 _ (us[4]'(by omega)) rfl (Array.getElem?_eq_getElem _)
    have e0 : us[0]'(by omega) = .string s := by
      generalize us[0]'(by omega) = q at h0
      cases h0 with | tr _ _ h => cases h with | str => rfl
    have e1 : us[1]'(by omega) = .int .i64 i1 := by
      generalize us[1]'(by omega) = q at h1
      cases h1 with | tr _ _ h => cases h with | int => rfl
    have e2 : us[2]'(by omega) = .int .i64 i2 := by
      generalize us[2]'(by omega) = q at h2
      cases h2 with | tr _ _ h => cases h with | int => rfl
    have e3 : us[3]'(by omega) = .int .i64 i3 := by
      generalize us[3]'(by omega) = q at h3
      cases h3 with | tr _ _ h => cases h with | int => rfl
    have e4 : us[4]'(by omega) = β d := by
      generalize us[4]'(by omega) = q at h4
      cases h4 with | own => rfl
    have hue : us = #[.string s, .int .i64 i1, .int .i64 i2, .int .i64 i3, β d] := by
      apply Array.ext
      · simp [hus5]
      · intro j hj1 hj2
        have : j = 0 ∨ j = 1 ∨ j = 2 ∨ j = 3 ∨ j = 4 := by omega
        rcases this with rfl | rfl | rfl | rfl | rfl
        · exact e0
        · exact e1
        · exact e2
        · exact e3
        · exact e4
    subst hue
    have hrun : (execOp a.eval o).run P w = .ok (.enter f #[.agg #[.string s, .int .i64 i1, .int .i64 i2, .int .i64 i3, β d], .int .i64 k]) w := by
      simp only [execOp, ho, resolve, hfe, Deferred.ofValue, Sem.run_bind, Sem.run_pure, Result.andThen_ok, invoke]
      have := he (#[] ++ #[x, y].map a.eval ++ #[]) w
      simp only [List.map_toArray, List.map_cons, List.map_nil, hxe, hye, Array.append_empty, Array.empty_append] at this ⊢
      exact this
    have hpriv : ∀ g, blkOf (β d) = some g → ¬ S g := fun g hgb => (hr.priv d _ g hmem hgb).1
    have hobF : ObjR w S bz (.arr e m es.length es) (β d) := (hobj.free (S' := S) hfl).agree fun k hk => by simp [SO.names] at hk
    unfold Oper.wp
    rw [hrun]
    refine (hc w S s i1 i2 i3 (β d) hr.lt hobF hpriv hr.globOk).mono fun en w' ⟨hen, hg, hou⟩ => ?_
    subst hen
    rw [hdst]
    have hnew : ObjR w' (fun b => S b ∨ False) β (.arr e m es'.length es') (β d) := (hou.free (S' := fun b => S b ∨ False) hfl').agree fun k hk => by simp [SO.names] at hk
    have hr2 := hr.touch2 hmem hg (S' := fun _ => False) (fun _ h => h.elim) (fun _ h => h.elim) hnew fun g' hg' => hg'
    exact ⟨_, _, Rel.put hr2 hd0 (.tr _ _ (.int .i64 r))⟩
end
end Go.Proofs.YtpohkmbkohjahaaGreatDoor.Sh
