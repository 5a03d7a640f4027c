/- Calls without results that change several objects which name each other (closures that call themselves and change captured variables). -/
import Derived.Test.YtlhllbiikideeaaSB
namespace Go.Proofs.Ytlhllbiikideeaa.Sh
open Go.RowKit
/-- Objects whose blocks their values tell. -/
def simpO : SO → Bool
  | .box _ => true
  | .arr .. => true
  | _ => false
theorem simpO_foot {x : SO} (h : simpO x = true) {w : World} {v : Value} {g : Nat} : x.foot w v g ↔ blkOf v = some g := by
  cases x <;> first | exact Iff.rfl | cases h
/-- A call of a function that is handed values which name objects; the objects may change, their names' values stay, but for the free name's (3000000), whose object may be a new one. -/
def HCall (P : Program) (f : FuncId) (args : List SV) (os os' : List (Nat × SO)) : Prop :=
  ∀ (w : World) (S : Nat → Prop) (β : Nat → Value) (vs : Array Value), vs.size = args.length → (∀ b, S b → b < w.heap.size) → (∀ d, (β d).cells = #[β d]) →
    (∀ (j : Nat) x v, args[j]? = some x → vs[j]? = some v → SVr w S β x v) →
    (∀ d x, (d, x) ∈ os → ObjR w S β x (β d)) → (∀ d x g, (d, x) ∈ os → x.foot w (β d) g → ¬ S g) →
    (∀ d x d' x' g, (d, x) ∈ os → (d', x') ∈ os → x.foot w (β d) g → x'.foot w (β d') g → d = d') → GlobOk S w →
    Calls P f vs w fun e w' => ∃ (S' : Nat → Prop) (β' : Nat → Value), e = .returned (rets []) ∧ (∀ d, d < 3000000 → β' d = β d) ∧ (∀ d, (β' d).cells = #[β' d]) ∧ Grew (fun g => ∃ d x, (d, x) ∈ os ∧ x.foot w (β d) g) w w' ∧
      (∀ b, S' b → S b ∨ w.heap.size ≤ b) ∧ (∀ b, S' b → b < w'.heap.size) ∧
      (∀ d x, (d, x) ∈ os' → ObjR w' (fun b => S b ∨ S' b) β' x (β' d) ∧ ∀ g, x.foot w' (β' d) g → ¬ S' g ∧ ((∃ d0 x0, (d0, x0) ∈ os ∧ x0.foot w (β d0) g ∧ (d < 3000000 → d0 < 3000000)) ∨ (3000000 ≤ d ∧ w.heap.size ≤ g))) ∧
      ∀ d x d' x' g, (d, x) ∈ os' → (d', x') ∈ os' → x.foot w' (β' d) g → x'.foot w' (β' d') g → d = d'
section
variable {P : Program}
theorem hcall_intro {f : FuncId} {fn : Func} {code : Code} (hf : P.funcs[f]? = some fn) (hb : fn.body = some code) (hr : fn.results = #[]) {args : List SV} {os os' : List (Nat × SO)} (hn : args.length ≤ fn.ntmps) (hn2 : fn.ntmps ≤ 1999999) (hos : ∀ p ∈ os, (fn.ntmps ≤ p.1 ∧ p.1 < 1999999) ∨ 3000000 ≤ p.1) (hsm : (∀ p ∈ os, simpO p.2 = true) ∧ ∀ p ∈ os', simpO p.2 = true) (hnm : ∀ p ∈ os', (∃ x, (p.1, x) ∈ os) ∧ ∀ k ∈ p.2.names, ∃ x, (k, x) ∈ os' ∧ ∃ y, (k, y) ∈ os)
    (h : swp P code (fun e σ => (e = .normal ∨ e = .ret) ∧ ∀ p ∈ os', p ∈ σ.o) ⟨fn.ntmps, args.zipIdx.map (fun p => (p.2, p.1)), os⟩) : HCall P f args os os' := by
  intro w S β vs hsz hlt hone hv ho hpriv hap hgl
  refine calls_of_wp hf hb ?_
  have hget : ∀ (j : Nat) v, vs[j]? = some v → (vs ++ Array.replicate (fn.ntmps - vs.size) undef).getD j undef = v := by
    intro j v hj
    rw [Array.getD_eq_getD_getElem?, Array.getElem?_append_left (Array.getElem?_eq_some_iff.1 hj).1, hj]
    rfl
  let pin : List (Nat × Value) := (1999999, undef) :: (os.filter (fun p => decide (p.1 < 3000000))).map (fun p => (p.1, β p.1))
  have hpin : ∀ d v, (d, v) ∈ pin ↔ (d = 1999999 ∧ v = undef) ∨ ((∃ x, (d, x) ∈ os) ∧ d < 3000000 ∧ v = β d) := by
    intro d v
    constructor
    · intro hm
      rcases List.mem_cons.1 hm with hm | hm
      · injection hm with h1 h2
        exact .inl ⟨h1, h2⟩
      · obtain ⟨p, hp, e⟩ := List.mem_map.1 hm
        have hp := List.mem_filter.1 hp
        injection e with e1 e2
        subst e1
        exact .inr ⟨⟨p.2, hp.1⟩, by simpa using hp.2, e2.symm⟩
    · rintro (⟨rfl, rfl⟩ | ⟨⟨x, hx⟩, hd, rfl⟩)
      · exact List.mem_cons_self
      · exact List.mem_cons_of_mem _ (List.mem_map.2 ⟨(d, x), List.mem_filter.2 ⟨hx, by simpa using hd⟩, rfl⟩)
  let foot : Nat → Nat → Prop := fun d g => (∃ x, (d, x) ∈ os ∧ d < 1999999 ∧ x.foot w (β d) g) ∨ (d = 1999999 ∧ ∃ d0 x, (d0, x) ∈ os ∧ 3000000 ≤ d0 ∧ x.foot w (β d0) g)
  have hfoot : ∀ {d g}, foot d g → ∃ d0 x, (d0, x) ∈ os ∧ x.foot w (β d0) g := fun {d g} h => by
    rcases h with ⟨x, h1, _, h2⟩ | ⟨_, d0, x, h1, _, h2⟩
    · exact ⟨_, x, h1, h2⟩
    · exact ⟨_, x, h1, h2⟩
  have hrel : Rel ⟨w, S, pin, foot, fun d v hd => by
      rcases (hpin d v).1 hd with ⟨rfl, _⟩ | ⟨⟨x, hx⟩, hd3, _⟩
      · omega
      · rcases hos _ hx with h | h
        · have := h.2
          omega
        · have h : 3000000 ≤ d := h
          omega, hgl, fun p hp ⟨j', v', _, h4⟩ => by
      obtain ⟨d0, x, h5, h6⟩ := hfoot h4
      exact hpriv d0 x p.1 h5 h6 (hgl p hp).1⟩ S β ⟨fn.ntmps, args.zipIdx.map (fun p => (p.2, p.1)), os⟩ ⟨vs ++ Array.replicate (fn.ntmps - vs.size) undef, []⟩ w := by
    refine ⟨rfl, by simp [hsz]; omega, hone, Grew.refl _ _, fun _ h => h, fun _ h => .inl h, hlt, fun j x hj => ?_, fun d x hd => ho d x hd, fun d v hd => ?_, fun d x g hd hg => ?_, fun d x d' x' g hd hd' hg hg' => hap d x d' x' g hd hd' hg hg'⟩
    · obtain ⟨⟨y, i⟩, h1, h2⟩ := List.mem_map.1 hj
      injection h2 with h2 h3
      subst h2 h3
      have h1 := mem_zip.1 h1
      have hlt' := (List.getElem?_eq_some_iff.1 h1).1
      have hv1 : vs[i]? = some (vs[i]'(by omega)) := Array.getElem?_eq_getElem _
      refine ⟨by simp; omega, ?_⟩
      rw [hget i _ hv1]
      exact hv i y _ h1 hv1
    · rcases (hpin d v).1 hd with ⟨rfl, _⟩ | ⟨⟨x, hx⟩, hd3, rfl⟩
      · refine ⟨hn2, fun x hx => ?_⟩
        rcases hos _ hx with h | h
        · have := h.2
          omega
        · have h : (3000000 : Nat) ≤ 1999999 := h
          omega
      · rcases hos _ hx with h | h
        · exact ⟨h.1, fun _ _ => rfl⟩
        · have h : 3000000 ≤ d := h
          omega
    · refine ⟨hpriv d x g hd hg, .inr ?_⟩
      rcases hos _ hd with h | h
      · have h2 : d < 1999999 := h.2
        exact ⟨h.1, d, β d, (hpin d _).2 (.inr ⟨⟨x, hd⟩, by omega, rfl⟩), .inl ⟨x, hd, h2, hg⟩⟩
      · have h : 3000000 ≤ d := h
        exact ⟨by show fn.ntmps ≤ d; omega, 1999999, undef, (hpin _ _).2 (.inl ⟨rfl, rfl⟩), .inr ⟨rfl, d, x, hd, h, hg⟩⟩
  refine wp_mono (h _ _ _ ⟨S, β, hrel⟩) fun e a w' ⟨σ, ⟨he, hfin⟩, S2, β2, hr2⟩ => ?_
  let β' : Nat → Value := fun d => if d < 3000000 then β d else β2 d
  have hβ : ∀ d x, (d, x) ∈ os' → β' d = β2 d := fun d x hd => by
    show (if d < 3000000 then β d else β2 d) = β2 d
    split
    · rename_i h3
      obtain ⟨⟨y, hy⟩, _⟩ := hnm _ hd
      exact ((hr2.pin d (β d) ((hpin d _).2 (.inr ⟨⟨y, hy⟩, h3, rfl⟩))).2 x (hfin _ hd)).symm
    · rfl
  have hpost : ∃ v, (results fn a.tmps).run P w' = .ok v w' ∧ ∃ (S' : Nat → Prop) (β' : Nat → Value), Ending.returned v = .returned (rets []) ∧ (∀ d, d < 3000000 → β' d = β d) ∧ (∀ d, (β' d).cells = #[β' d]) ∧ Grew (fun g => ∃ d x, (d, x) ∈ os ∧ x.foot w (β d) g) w w' ∧
      (∀ b, S' b → S b ∨ w.heap.size ≤ b) ∧ (∀ b, S' b → b < w'.heap.size) ∧
      (∀ d x, (d, x) ∈ os' → ObjR w' (fun b => S b ∨ S' b) β' x (β' d) ∧ ∀ g, x.foot w' (β' d) g → ¬ S' g ∧ ((∃ d0 x0, (d0, x0) ∈ os ∧ x0.foot w (β d0) g ∧ (d < 3000000 → d0 < 3000000)) ∨ (3000000 ≤ d ∧ w.heap.size ≤ g))) ∧
      ∀ d x d' x' g, (d, x) ∈ os' → (d', x') ∈ os' → x.foot w' (β' d) g → x'.foot w' (β' d') g → d = d' := by
    refine ⟨rets [], run_results (rs := []) (us := []) hr rfl (fun i t u h1 => by simp at h1), S2, β', rfl, fun d hd => if_pos hd, fun d => ?_, ?_, hr2.s1, hr2.lt, fun d x hd => ?_, fun d x d' x' g hd hd' hg hg' => hr2.apart d x d' x' g (hfin _ hd) (hfin _ hd') (by rw [← hβ d x hd]; exact hg) (by rw [← hβ d' x' hd']; exact hg')⟩
    · show (if d < 3000000 then β d else β2 d).cells = #[if d < 3000000 then β d else β2 d]
      split
      · exact hone d
      · exact hr2.one d
    · have hg := hr2.grew
      refine ⟨hg.os, hg.tape, hg.output, hg.size, fun k hk hx => hg.block k hk fun hX => hx ?_⟩
      obtain ⟨j, _, _, h4⟩ := hX
      exact hfoot h4
    · have h1 := hfin _ hd
      have h4 := hβ d x hd
      have h5 := hr2.obj d x h1
      rw [h4]
      refine ⟨(h5.keep (fun _ _ => rfl) fun b hb => .inr hb).agree fun k hk => ?_, fun g hg => ?_⟩
      · obtain ⟨y, hy, _⟩ := (hnm _ hd).2 k hk
        exact hβ k y hy
      · have h6 := hr2.priv d x g h1 hg
        refine ⟨h6.1, ?_⟩
        by_cases hd3 : d < 3000000
        · obtain ⟨⟨y, hy⟩, _⟩ := hnm _ hd
          refine .inl ⟨d, y, hy, ?_, fun _ => hd3⟩
          rw [simpO_foot (hsm.1 _ hy)]
          have h7 := (simpO_foot (hsm.2 _ hd)).1 hg
          rw [← h4, show β' d = β d from if_pos hd3] at h7
          exact h7
        · rcases h6.2 with ⟨_, h7⟩ | ⟨_, j, v, h8, h9⟩
          · exact .inr ⟨by omega, h7⟩
          · obtain ⟨d0, x0, h10, h11⟩ := hfoot h9
            exact .inl ⟨d0, x0, h10, h11, fun h => absurd h hd3⟩
  obtain ⟨v, h1, h2⟩ := hpost
  rcases he with rfl | rfl
  · exact ⟨hr2.defers, v, h1, h2⟩
  · exact ⟨hr2.defers, v, h1, h2⟩
variable {ops : Array Oper} {o : Oper} {σ : SS}
/-- The call as a step of a frame: ρ says which of the frame's objects the callee's names stand for. -/
theorem hstep_call {fo : Operand} {args : Array Operand} {ts : Array TypeId} (ho : o.op = .call { callee := .value fo, args := args, argTypes := ts }) (hgd : gd ops σ o = some true) (hok : okd σ o = true)
    {f : FuncId} {caps xs zs : List SV} {os os' os2 : List (Nat × SO)} (hfo : ev σ fo = some (.clo f caps)) (hxs : evL σ args.toList = some xs) (he : Ents P f) (hc : HCall P f zs os os') (ρ : Nat → Nat) (hlen : zs.length = xs.length + caps.length)
    (hA : ∀ (w : World) (S : Nat → Prop) (β : Nat → Value) (j : Nat) x y v, (xs ++ caps)[j]? = some x → zs[j]? = some y → SVr w S β x v → SVr w S (fun d => β (ρ d)) y v)
    (hO : ∀ p ∈ os, ∃ z, (ρ p.1, z) ∈ σ.o ∧ (∀ (w : World) (S : Nat → Prop) (β : Nat → Value) v, ObjR w S β z v → ObjR w S (fun d => β (ρ d)) p.2 v) ∧ ∀ (w : World) v g, p.2.foot w v g → z.foot w v g)
    (hinj : ∀ p ∈ os, ∀ q ∈ os, ρ p.1 = ρ q.1 → p.1 = q.1) (hkey : ∀ p ∈ os', ∃ x, (p.1, x) ∈ os)
    (hO2 : ∀ q ∈ os2, ∃ p ∈ os', q.1 = ρ p.1 ∧ (∀ (w : World) (S : Nat → Prop) (β : Nat → Value) v, ObjR w S (fun d => β (ρ d)) p.2 v → ObjR w S β q.2 v) ∧ ∀ (w : World) v g, q.2.foot w v g → p.2.foot w v g)
    (hnm : ∀ p ∈ os', ∀ k, k = p.1 ∨ k ∈ p.2.names → k = 3000000 ∨ (k < 3000000 ∧ ρ k ≠ ρ 3000000))
    (hfr : (∀ p ∈ σ.t, ρ 3000000 ∉ p.2.names) ∧ ∀ p ∈ σ.o.filter (fun p => !(os.any fun q => ρ q.1 == p.1)), p.1 ≠ ρ 3000000 ∧ ρ 3000000 ∉ p.2.names)
    (hside : ((∀ p ∈ os, ρ p.1 < σ.n) ∧ ρ 3000000 < σ.n) ∨ ((∀ p ∈ os, σ.n ≤ ρ p.1 ∧ (p.1 < 3000000 → ρ p.1 < 3000000)) ∧ σ.n ≤ ρ 3000000 ∧ 3000000 ≤ ρ 3000000)) :
    EStep P ops o σ (SS.app ⟨σ.n, σ.t, os2 ++ σ.o.filter (fun p => !(os.any fun q => ρ q.1 == p.1))⟩ o.dst (some (.tup [], none))) := by
  intro cx a w ⟨S, β, hr⟩
  unfold OpDo
  rw [gd_ok hr hgd, if_pos rfl]
  obtain ⟨h4, h5⟩ := evL_ok hr hxs
  have hfv := ev_ok hr hfo
  generalize hfe : a.eval fo = fv at hfv
  cases hfv with
  | clo f caps vs hvl hvh =>
    have hrun : (execOp a.eval o).run P w = .ok (.enter f (args.map a.eval ++ vs)) w := by
      simp only [execOp, ho, resolve, hfe, Deferred.ofValue, Sem.run_bind, Sem.run_pure, Result.andThen_ok, invoke]
      rw [show (#[] : Array Value) ++ args.map a.eval = args.map a.eval from by simp]
      exact he _ _
    have hxl : xs.length = args.size := by simpa using h4
    have hval : ∀ (j : Nat) p v, (xs ++ caps)[j]? = some p → (args.map a.eval ++ vs)[j]? = some v → SVr w S β p v := by
      intro j p v hp hv
      by_cases hlt : j < xs.length
      · rw [List.getElem?_append_left hlt] at hp
        rw [Array.getElem?_append_left (by simp; omega), Array.getElem?_map, Option.map_eq_some_iff] at hv
        obtain ⟨op, hop, rfl⟩ := hv
        exact h5 j op p (by simpa using hop) hp
      · rw [List.getElem?_append_right (by omega)] at hp
        rw [Array.getElem?_append_right (by simp; omega)] at hv
        refine hvh (j - xs.length) p v hp ?_
        simpa [hxl] using hv
    have hsz : (args.map a.eval ++ vs).size = zs.length := by simp; omega
    have hfz : ∀ d x, (d, x) ∈ os → ∀ g, x.foot w (β (ρ d)) g → ∃ z, (ρ d, z) ∈ σ.o ∧ z.foot w (β (ρ d)) g := fun d x hd g hg => by
      obtain ⟨z, hz, _, h7⟩ := hO _ hd
      exact ⟨z, hz, h7 _ _ _ hg⟩
    have hcall := hc w S (fun d => β (ρ d)) (args.map a.eval ++ vs) hsz hr.lt (fun d => hr.one (ρ d)) (fun j y v hy hv => by
        have hjl := (List.getElem?_eq_some_iff.1 hy).1
        have hx : (xs ++ caps)[j]? = some ((xs ++ caps)[j]'(by simp; omega)) := List.getElem?_eq_getElem _
        exact hA w S β j _ y v hx hy (hval j _ v hx hv)) (fun d x hd => by
        obtain ⟨z, hz, h6, _⟩ := hO _ hd
        exact h6 w S β _ (hr.obj _ z hz)) (fun d x g hd hg => by
        obtain ⟨z, hz, h6⟩ := hfz d x hd g hg
        exact (hr.priv _ z g hz h6).1) (fun d x d' x' g hd hd' hg hg' => by
        obtain ⟨z, hz, h6⟩ := hfz d x hd g hg
        obtain ⟨z', hz', h6'⟩ := hfz d' x' hd' g hg'
        exact hinj _ hd _ hd' (hr.apart _ z _ z' g hz hz' h6 h6')) hr.globOk
    unfold Oper.wp
    rw [hrun]
    refine hcall.mono fun e w' ⟨S', βc, he', hβc, hβ1, hg, hS1, hS2, hob, hapt⟩ => ?_
    subst he'
    let β2 : Nat → Value := upd β (ρ 3000000) (βc 3000000)
    have hβ2 : ∀ p ∈ os', ∀ k, k = p.1 ∨ k ∈ p.2.names → β2 (ρ k) = βc k := fun p hp k hk => by
      rcases hnm p hp k hk with rfl | ⟨h6, h7⟩
      · exact upd_same ..
      · rw [hβc k h6]
        exact upd_other _ _ h7
    have hSk : ∀ b, S b → w'.heap[b]? = w.heap[b]? := fun b hb => hg.block b (hr.lt b hb) fun ⟨d, x, hd, hf⟩ => by
      obtain ⟨z, hz, h6⟩ := hfz d x hd b hf
      exact (hr.priv _ z b hz h6).1 hb
    have hout : ∀ {k y}, (k, y) ∈ σ.o.filter (fun p => !(os.any fun q => ρ q.1 == p.1)) → (k, y) ∈ σ.o ∧ (∀ p ∈ os, ρ p.1 ≠ k) ∧ k ≠ ρ 3000000 ∧ ρ 3000000 ∉ y.names := fun {k y} h => by
      have h2 := List.mem_filter.1 h
      refine ⟨h2.1, fun p hp e => ?_, hfr.2 _ h⟩
      have h3 : (os.any fun q => ρ q.1 == k) = true := List.any_eq_true.2 ⟨p, hp, by simpa using e⟩
      have h4 := h2.2
      simp only [h3, Bool.not_true] at h4
      cases h4
    have hfo' : ∀ {k y}, (k, y) ∈ σ.o → (∀ p ∈ os, ρ p.1 ≠ k) → ∀ b, y.foot w (β k) b → w'.heap[b]? = w.heap[b]? := fun {k y} h1 h2 b hb => hg.block b ((hr.obj k y h1).lt hb) fun ⟨d, x, hd, hf⟩ => by
      obtain ⟨z, hz, h6⟩ := hfz d x hd b hf
      exact h2 _ hd (hr.apart _ z k y b hz h1 h6 hb)
    have hff : ∀ {k y}, (k, y) ∈ σ.o → (∀ p ∈ os, ρ p.1 ≠ k) → ∀ {b}, y.foot w' (β k) b → y.foot w (β k) b := fun {k y} h1 h2 {b} hb => ((hr.obj k y h1).foot (hfo' h1 h2)).1 hb
    have hsame : ∀ {k}, k ≠ ρ 3000000 → β2 k = β k := fun {k} h => upd_other _ _ h
    -- where a changed object's blocks were
    have hwas : ∀ {k y}, (k, y) ∈ os2 → ∃ p ∈ os', k = ρ p.1 ∧ β2 k = βc p.1 ∧ ObjR w' (fun b => S b ∨ S' b) β2 y (β2 k) ∧ ∀ g, y.foot w' (β2 k) g → p.2.foot w' (βc p.1) g ∧ ¬ S' g ∧ ((∃ d0 x0 z0, (d0, x0) ∈ os ∧ (ρ d0, z0) ∈ σ.o ∧ z0.foot w (β (ρ d0)) g ∧ (p.1 < 3000000 → d0 < 3000000)) ∨ (3000000 ≤ p.1 ∧ w.heap.size ≤ g)) := fun {k y} h => by
      obtain ⟨p, hp, hk1, h6, h7⟩ := hO2 _ h
      obtain ⟨h8, h9⟩ := hob p.1 p.2 hp
      have hk1 : k = ρ p.1 := hk1
      subst hk1
      have e1 := hβ2 p hp p.1 (.inl rfl)
      refine ⟨p, hp, rfl, e1, ?_, fun g hgf => ?_⟩
      · rw [e1]
        exact h6 _ _ _ _ (h8.agree fun k hk => hβ2 p hp k (.inr hk))
      · rw [e1] at hgf
        obtain ⟨h10, h11⟩ := h9 g (h7 _ _ _ hgf)
        refine ⟨h7 _ _ _ hgf, h10, ?_⟩
        rcases h11 with ⟨d0, x0, h11, h12, h13⟩ | h11
        · obtain ⟨z, hz, h14⟩ := hfz d0 x0 h11 g h12
          exact .inl ⟨d0, x0, z, h11, hz, h14, h13⟩
        · exact .inr h11
    have hnoS : ∀ k y g, (k, y) ∈ σ.o → y.foot w (β k) g → ¬ S' g → ¬ (S g ∨ S' g) := fun k y g h1 h2 h3 h4 => h4.elim (hr.priv k y g h1 h2).1 h3
    have hnoS' : ∀ k y g, (k, y) ∈ σ.o → y.foot w (β k) g → ¬ (S g ∨ S' g) := fun k y g h1 h2 h4 => h4.elim (hr.priv k y g h1 h2).1 fun h5 => by
      rcases hS1 g h5 with h6 | h6
      · exact (hr.priv k y g h1 h2).1 h6
      · have := (hr.obj k y h1).lt h2
        omega
    have hw := hr.grew.size
    have hpin2 : ∀ j v, (j, v) ∈ cx.pin → j ≠ ρ 3000000 := fun j v hj e => by
      have h6 := (hr.pin j v hj).1
      have h7 := cx.lt j v hj
      rcases hside with ⟨_, h⟩ | ⟨_, _, h⟩ <;> omega
    have hr2 : Rel cx (fun b => S b ∨ S' b) β2 ⟨σ.n, σ.t, os2 ++ σ.o.filter (fun p => !(os.any fun q => ρ q.1 == p.1))⟩ a w' := by
      refine ⟨hr.defers, hr.size, fun k => ?_, hr.grew.of hg (fun k hX hlt => ?_), fun b hb => .inl (hr.s0 b hb), fun b hb => ?_, fun b hb => hb.elim (fun h => Nat.lt_of_lt_of_le (hr.lt b h) hg.size) (hS2 b), fun i y hi => ⟨(hr.tmp i y hi).1, ((hr.tmp i y hi).2.keep hSk fun _ h => .inl h).agree fun d hd => hsame fun e => hfr.1 _ hi (e ▸ hd)⟩, fun k y hk => ?_, fun j v hj => ⟨(hr.pin j v hj).1, fun y hy => ?_⟩, fun k y g' hk hg' => ?_, fun k y k' y' g' hk1 hk2 hg1 hg2 => ?_⟩
      · by_cases hk : k = ρ 3000000
        · rw [hk, show β2 (ρ 3000000) = βc 3000000 from upd_same ..]
          exact hβ1 _
        · rw [hsame hk]
          exact hr.one k
      · obtain ⟨d, x, hd, hf⟩ := hX
        obtain ⟨z, hz, h6⟩ := hfz d x hd k hf
        rcases (hr.priv _ z k hz h6).2 with ⟨_, h⟩ | ⟨_, h⟩
        · omega
        · exact h
      · rcases hb with hb | hb
        · exact hr.s1 b hb
        · rcases hS1 b hb with h | h
          · exact hr.s1 b h
          · exact .inr (Nat.le_trans hw h)
      · rcases List.mem_append.1 hk with hk | hk
        · obtain ⟨_, _, _, _, h6, _⟩ := hwas hk
          exact h6
        · obtain ⟨h1, h2, h3, h4⟩ := hout hk
          rw [hsame h3]
          refine ((hr.obj k y h1).keep (fun b hb => ?_) fun _ h => .inl h).agree fun d hd => hsame fun e => h4 (e ▸ hd)
          rcases hb with hb | hb
          · exact hSk b hb
          · exact hfo' h1 h2 b hb
      · rw [hsame (hpin2 j v hj)]
        rcases List.mem_append.1 hy with hy | hy
        · obtain ⟨p, hp, hj1, _, _⟩ := hwas hy
          obtain ⟨x, hx⟩ := hkey p hp
          obtain ⟨z, hz, _⟩ := hO _ hx
          have hz : (ρ p.1, z) ∈ σ.o := hz
          rw [← hj1] at hz
          exact (hr.pin j v hj).2 z hz
        · exact (hr.pin j v hj).2 y (hout hy).1
      · rcases List.mem_append.1 hk with hk | hk
        · obtain ⟨p, hp, hj1, _, _, h7⟩ := hwas hk
          obtain ⟨_, h8, h9⟩ := h7 g' hg'
          obtain ⟨x, hx⟩ := hkey p hp
          rcases h9 with ⟨d0, x0, z0, h9, h10, h11, h3m⟩ | ⟨h9, h10⟩
          · refine ⟨hnoS _ z0 g' h10 h11 h8, ?_⟩
            have h12 := (hr.priv _ z0 g' h10 h11).2
            show ((k < σ.n ∨ 3000000 ≤ k) ∧ cx.w0.heap.size ≤ g') ∨ (σ.n ≤ k ∧ cx.X g')
            rcases hside with ⟨hs, _⟩ | ⟨hs, hs2, hs3⟩
            · have e1 : ρ d0 < σ.n := hs (d0, x0) h9
              have e2 : ρ p.1 < σ.n := hs (p.1, x) hx
              rcases h12 with ⟨_, h13⟩ | ⟨h13, _⟩
              · exact .inl ⟨.inl (by rw [hj1]; exact e2), h13⟩
              · omega
            · have e1 := hs (d0, x0) h9
              have e2 := hs (p.1, x) hx
              rcases hnm p hp p.1 (.inl rfl) with h14 | ⟨h14, _⟩
              · rw [hj1, h14]
                rcases h12 with ⟨_, h13⟩ | ⟨_, h13⟩
                · exact .inl ⟨.inr hs3, h13⟩
                · exact .inr ⟨hs2, h13⟩
              · have e3 : ρ d0 < 3000000 := e1.2 (h3m h14)
                have e4 : σ.n ≤ ρ d0 := e1.1
                rcases h12 with ⟨h13, _⟩ | ⟨_, h13⟩
                · omega
                · exact .inr ⟨by rw [hj1]; exact e2.1, h13⟩
          · refine ⟨fun hc => hc.elim (fun h => absurd (hr.lt g' h) (by omega)) h8, ?_⟩
            show ((k < σ.n ∨ 3000000 ≤ k) ∧ cx.w0.heap.size ≤ g') ∨ (σ.n ≤ k ∧ cx.X g')
            rcases hnm p hp p.1 (.inl rfl) with h14 | ⟨h14, _⟩
            · refine .inl ⟨?_, Nat.le_trans hw h10⟩
              rw [hj1, h14]
              rcases hside with ⟨_, h⟩ | ⟨_, _, h⟩
              · exact .inl h
              · exact .inr h
            · omega
        · obtain ⟨h1, h2, h3, _⟩ := hout hk
          rw [hsame h3] at hg'
          exact ⟨hnoS' k y g' h1 (hff h1 h2 hg'), (hr.priv k y g' h1 (hff h1 h2 hg')).2⟩
      · have hmix : ∀ {k y k' y'}, (k, y) ∈ os2 → (k', y') ∈ σ.o.filter (fun p => !(os.any fun q => ρ q.1 == p.1)) → y.foot w' (β2 k) g' → y'.foot w' (β2 k') g' → False := fun {k y k' y'} h1 h2 h3 h4 => by
          obtain ⟨_, _, _, _, _, h7⟩ := hwas h1
          obtain ⟨_, _, h8⟩ := h7 g' h3
          obtain ⟨h12, h13, h14, _⟩ := hout h2
          rw [hsame h14] at h4
          rcases h8 with ⟨d0, x0, z0, h9, h10, h11, _⟩ | ⟨_, h8⟩
          · exact h13 _ h9 (hr.apart _ z0 k' y' g' h10 h12 h11 (hff h12 h13 h4))
          · have := (hr.obj k' y' h12).lt (hff h12 h13 h4)
            omega
        rcases List.mem_append.1 hk1 with hk1 | hk1 <;> rcases List.mem_append.1 hk2 with hk2 | hk2
        · obtain ⟨p, hp, e1, _, _, h7⟩ := hwas hk1
          obtain ⟨q, hq, e2, _, _, h8⟩ := hwas hk2
          rw [e1, e2, hapt p.1 p.2 q.1 q.2 g' hp hq (h7 g' hg1).1 (h8 g' hg2).1]
        · exact (hmix hk1 hk2 hg1 hg2).elim
        · exact (hmix hk2 hk1 hg2 hg1).elim
        · obtain ⟨h1, h2, h3, _⟩ := hout hk1
          obtain ⟨h4, h5, h6, _⟩ := hout hk2
          rw [hsame h3] at hg1
          rw [hsame h6] at hg2
          exact hr.apart k y k' y' g' h1 h4 (hff h1 h2 hg1) (hff h4 h5 hg2)
    cases hdst : o.dst with
    | none => exact ⟨_, _, hr2⟩
    | some k =>
      refine ⟨_, _, Rel.put hr2 ?_ (.tup [] #[] rfl (by simp))⟩
      unfold okd at hok
      rw [hdst] at hok
      simpa using hok
theorem objs_id {os os' : List (Nat × SO)} (h : os'.map (·.1) = os.map (·.1)) : ∀ p ∈ os', ∃ x, (p.1, x) ∈ os := fun p hp => by
  have h1 : p.1 ∈ os.map (·.1) := by rw [← h]; exact List.mem_map.2 ⟨p, hp, rfl⟩
  obtain ⟨q, hq, e⟩ := List.mem_map.1 h1
  exact ⟨q.2, by rw [← e]; exact hq⟩
/-- Names that a call may leave behind. -/
def frB (ρ : Nat → Nat) (σ : SS) (os : List (Nat × SO)) : Bool := (σ.t.all fun p => !p.2.names.contains (ρ 3000000)) && (σ.o.filter (fun p => !(os.any fun q => ρ q.1 == p.1))).all fun p => p.1 != ρ 3000000 && !p.2.names.contains (ρ 3000000)
theorem frB_ok {ρ : Nat → Nat} {σ : SS} {os : List (Nat × SO)} (h : frB ρ σ os = true) : (∀ p ∈ σ.t, ρ 3000000 ∉ p.2.names) ∧ ∀ p ∈ σ.o.filter (fun p => !(os.any fun q => ρ q.1 == p.1)), p.1 ≠ ρ 3000000 ∧ ρ 3000000 ∉ p.2.names := by
  unfold frB at h
  rw [Bool.and_eq_true, List.all_eq_true, List.all_eq_true] at h
  refine ⟨fun p hp => by simpa using h.1 p hp, fun p hp => ?_⟩
  have := h.2 p hp
  rw [Bool.and_eq_true] at this
  exact ⟨by simpa using this.1, by simpa using this.2⟩
/-- A call of the frame's own function: the names are the same. -/
theorem hstep_self {fo : Operand} {args : Array Operand} {ts : Array TypeId} (ho : o.op = .call { callee := .value fo, args := args, argTypes := ts }) {f : FuncId} {caps xs zs : List SV} {os os' : List (Nat × SO)} (he : Ents P f) (hc : HCall P f zs os os') (hnm : ∀ p ∈ os', ∀ k, k = p.1 ∨ k ∈ p.2.names → k = 3000000 ∨ k < 3000000)
    (hgd : gd ops σ o = some true := by kernel_rfl) (hok : okd σ o = true := by kernel_rfl) (hfo : ev σ fo = some (.clo f caps) := by kernel_rfl) (hxs : evL σ args.toList = some xs := by kernel_rfl) (hz : xs ++ caps = zs := by kernel_rfl) (hos : subB (os.map (·.1)) σ.o = os := by kernel_rfl) (hkeys : os'.map (·.1) = os.map (·.1) := by kernel_rfl) (hside : os.all (fun p => Nat.ble σ.n p.1) = true := by kernel_rfl) (hn3 : Nat.ble σ.n 3000000 = true := by kernel_rfl) (hfr : frB (fun d => d) σ os = true := by kernel_rfl) :
    EStep P ops o σ (SS.app ⟨σ.n, σ.t, os' ++ σ.o.filter (fun p => !(os.any fun q => q.1 == p.1))⟩ o.dst (some (.tup [], none))) := by
  subst hz
  have hm : ∀ p ∈ os, p ∈ σ.o := fun p hp => subB_mem (k := os.map (·.1)) (by rw [hos]; exact hp)
  exact hstep_call ho hgd hok hfo hxs he hc (fun d => d) (by simp) (fun w S β j x y v h1 h2 h3 => by rw [h1] at h2; injection h2 with h2; subst h2; exact h3) (fun p hp => ⟨p.2, hm p hp, fun _ _ _ _ h => h, fun _ _ _ h => h⟩) (fun p _ q _ h => h) (objs_id hkeys) (fun q hq => ⟨q, hq, rfl, fun _ _ _ _ h => h, fun _ _ _ h => h⟩) (fun p hp k hk => (hnm p hp k hk).imp id fun h => ⟨h, by show k ≠ 3000000; omega⟩) (frB_ok hfr) (.inr ⟨fun p hp => ⟨by simpa using List.all_eq_true.1 hside p hp, fun h => h⟩, by simpa using hn3, Nat.le_refl _⟩)
/-- A frame value under other names. -/
def SV.mp (ρ : Nat → Nat) : SV → SV
  | .tr t => .tr t
  | .agg cs => .agg (mpL cs)
  | .tup cs => .tup (mpL cs)
  | .ptr cs o => .ptr (mpL cs) o
  | .ref d o => .ref (ρ d) o
  | .eref d m i j => .eref (ρ d) m i j
  | .own d => .own (ρ d)
  | .clo f cs => .clo f (mpL cs)
  | .mth f cs => .mth f (mpL cs)
  | .any => .any
where mpL : List SV → List SV
  | [] => []
  | c :: cs => c.mp ρ :: mpL cs
theorem mpL_get (ρ : Nat → Nat) : ∀ (cs : List SV) (j : Nat), (SV.mp.mpL ρ cs)[j]? = (cs[j]?).map (SV.mp ρ)
  | [], j => by simp [SV.mp.mpL]
  | c :: cs, 0 => by simp [SV.mp.mpL]
  | c :: cs, j + 1 => by simpa [SV.mp.mpL] using mpL_get ρ cs j
theorem mpL_len (ρ : Nat → Nat) : ∀ cs : List SV, (SV.mp.mpL ρ cs).length = cs.length
  | [] => rfl
  | c :: cs => by simp [SV.mp.mpL, mpL_len ρ cs]
theorem svr_mp1 {w : World} {S : Nat → Prop} {β : Nat → Value} {ρ : Nat → Nat} {x : SV} {v : Value} (h : SVr w S (fun d => β (ρ d)) x v) : SVr w S β (x.mp ρ) v := by
  have key : ∀ {cs : List SV} {Q : Nat → SV → Prop}, (∀ j c, cs[j]? = some c → Q j (c.mp ρ)) → ∀ j c, (SV.mp.mpL ρ cs)[j]? = some c → Q j c := fun hq j c hc => by
    rw [mpL_get, Option.map_eq_some_iff] at hc
    obtain ⟨c0, h1, rfl⟩ := hc
    exact hq j c0 h1
  induction h with
  | tr t v h => exact .tr t v h
  | agg cs vs hl h ih => exact .agg _ vs (by rw [mpL_len]; exact hl) fun j c v hc hv => key (Q := fun j c => ∀ v, vs[j]? = some v → SVr w S β c v) (fun j c hc v hv => ih j c v hc hv) j c hc v hv
  | tup cs vs hl h ih => exact .tup _ vs (by rw [mpL_len]; exact hl) fun j c v hc hv => key (Q := fun j c => ∀ v, vs[j]? = some v → SVr w S β c v) (fun j c hc v hv => ih j c v hc hv) j c hc v hv
  | ptr cs o g b u hg h hc ih => exact .ptr _ o g b u hg (fun j c hj => key (Q := fun j c => SVr w S β c (u j)) (fun j c hj => ih j c hj) j c hj) fun j c hj => key (Q := fun j _ => w.cell? ⟨g, b + j, none⟩ = some (u j)) (fun j c hj => hc j c hj) j c hj
  | ref d o g h => exact .ref _ o g h
  | eref d m i j g n c h => exact .eref _ m i j g n c h
  | own d => exact .own (ρ d)
  | clo f cs vs hl h ih => exact .clo f _ vs (by rw [mpL_len]; exact hl) fun j c v hc hv => key (Q := fun j c => ∀ v, vs[j]? = some v → SVr w S β c v) (fun j c hc v hv => ih j c v hc hv) j c hc v hv
  | mth f cs vs hl h ih => exact .mth f _ vs (by rw [mpL_len]; exact hl) fun j c v hc hv => key (Q := fun j c => ∀ v, vs[j]? = some v → SVr w S β c v) (fun j c hc v hv => ih j c v hc hv) j c hc v hv
  | any v h => exact .any v h
theorem svr_mp2 {w : World} {S : Nat → Prop} {β : Nat → Value} {ρ : Nat → Nat} {y : SV} {v : Value} (h : SVr w S β y v) : ∀ x : SV, x.mp ρ = y → SVr w S (fun d => β (ρ d)) x v := by
  have get : ∀ {cs : List SV} {j : Nat} {c : SV}, cs[j]? = some c → (SV.mp.mpL ρ cs)[j]? = some (c.mp ρ) := fun h => by rw [mpL_get, h]; rfl
  induction h with
  | tr t v h =>
    intro x hx
    cases x <;> simp only [SV.mp, reduceCtorEq] at hx
    exact .tr _ v (by injection hx with hx; rw [hx]; exact h)
  | agg cs vs hl h ih =>
    intro x hx
    cases x <;> simp only [SV.mp, reduceCtorEq] at hx
    injection hx with hx
    subst hx
    exact .agg _ vs (by rw [← hl, mpL_len]) fun j c v hc hv => ih j _ v (get hc) hv c rfl
  | tup cs vs hl h ih =>
    intro x hx
    cases x <;> simp only [SV.mp, reduceCtorEq] at hx
    injection hx with hx
    subst hx
    exact .tup _ vs (by rw [← hl, mpL_len]) fun j c v hc hv => ih j _ v (get hc) hv c rfl
  | ptr cs o g b u hg h hc ih =>
    intro x hx
    cases x <;> simp only [SV.mp, reduceCtorEq] at hx
    injection hx with hx hx2
    subst hx hx2
    exact .ptr _ _ g b u hg (fun j c hj => ih j _ (get hj) c rfl) fun j c hj => hc j _ (get hj)
  | ref d o g h =>
    intro x hx
    cases x <;> simp only [SV.mp, reduceCtorEq] at hx
    injection hx with hx hx2
    subst hx hx2
    exact .ref _ _ g h
  | eref d m i j g n c h =>
    intro x hx
    cases x <;> simp only [SV.mp, reduceCtorEq] at hx
    injection hx with hx hx2 hx3 hx4
    subst hx hx2 hx3 hx4
    exact .eref _ _ _ _ g n c h
  | own d =>
    intro x hx
    cases x <;> simp only [SV.mp, reduceCtorEq] at hx
    injection hx with hx
    subst hx
    exact .own (β := fun d => β (ρ d)) _
  | clo f cs vs hl h ih =>
    intro x hx
    cases x <;> simp only [SV.mp, reduceCtorEq] at hx
    injection hx with hx hx2
    subst hx hx2
    exact .clo _ _ vs (by rw [← hl, mpL_len]) fun j c v hc hv => ih j _ v (get hc) hv c rfl
  | mth f cs vs hl h ih =>
    intro x hx
    cases x <;> simp only [SV.mp, reduceCtorEq] at hx
    injection hx with hx hx2
    subst hx hx2
    exact .mth _ _ vs (by rw [← hl, mpL_len]) fun j c v hc hv => ih j _ v (get hc) hv c rfl
  | any v h =>
    intro x hx
    cases x <;> simp only [SV.mp, reduceCtorEq] at hx
    exact .any v h
def SO.mp (ρ : Nat → Nat) : SO → SO
  | .box cs => .box (SV.mp.mpL ρ cs)
  | .arr e m n es => .arr e m n es
  | .deep e m n ss es => .deep e m n ss es
  | .hol e m n ss es i j d => .hol e m n ss es i j (ρ d)
theorem foot_mp {ρ : Nat → Nat} {x : SO} {w : World} {v : Value} {g : Nat} : (x.mp ρ).foot w v g ↔ x.foot w v g := by
  cases x <;> exact Iff.rfl
theorem obj_mp1 {w : World} {S : Nat → Prop} {β : Nat → Value} {ρ : Nat → Nat} {x : SO} {v : Value} (h : ObjR w S (fun d => β (ρ d)) x v) : ObjR w S β (x.mp ρ) v := by
  cases h with
  | box cs g vs T hg hl h =>
    refine .box _ g vs T hg (by rw [mpL_len]; exact hl) fun j c v hc hv => ?_
    rw [mpL_get, Option.map_eq_some_iff] at hc
    obtain ⟨c0, h1, rfl⟩ := hc
    exact svr_mp1 (h j c0 v h1 hv)
  | arr e m n es v xs hn hown he h => exact .arr e m n es v xs hn hown he h
  | deep e m n ss es v h => exact .deep e m n ss es v h
  | hol e m n ss es i j d v xs h hu => exact .hol e m n ss es i j _ v xs h hu
theorem obj_mp2 {w : World} {S : Nat → Prop} {β : Nat → Value} {ρ : Nat → Nat} {x : SO} {v : Value} (h : ObjR w S β (x.mp ρ) v) : ObjR w S (fun d => β (ρ d)) x v := by
  cases x with
  | box cs =>
    cases h with
    | box _ g vs T hg hl h => exact .box cs g vs T hg (by rw [← hl, mpL_len]) fun j c v hc hv => svr_mp2 (h j (c.mp ρ) v (by rw [mpL_get, hc]; rfl) hv) c rfl
  | arr e m n es => cases h with | arr _ _ _ _ _ xs hn hown he h => exact .arr e m n es v xs hn hown he h
  | deep e m n ss es => cases h with | deep _ _ _ _ _ _ h => exact .deep e m n ss es v h
  | hol e m n ss es i j d => cases h with | hol _ _ _ _ _ _ _ _ _ xs h hu => exact .hol e m n ss es i j d v xs h hu
/-- The first call, from the frame that made the variables: ρ says which of its names the callee's stand for. -/
theorem hstep_ren (ρ : Nat → Nat) {fo : Operand} {args : Array Operand} {ts : Array TypeId} (ho : o.op = .call { callee := .value fo, args := args, argTypes := ts }) {f : FuncId} {caps xs zs : List SV} {os os' : List (Nat × SO)} (he : Ents P f) (hc : HCall P f zs os os') (hnm : ∀ p ∈ os', ∀ k, k = p.1 ∨ k ∈ p.2.names → k = 3000000 ∨ (k < 3000000 ∧ ρ k ≠ ρ 3000000))
    (hgd : gd ops σ o = some true := by kernel_rfl) (hok : okd σ o = true := by kernel_rfl) (hfo : ev σ fo = some (.clo f caps) := by kernel_rfl) (hxs : evL σ args.toList = some xs := by kernel_rfl) (hz : xs ++ caps = SV.mp.mpL ρ zs := by kernel_rfl) (hos : subB (os.map fun p => ρ p.1) σ.o = os.map (fun p => (ρ p.1, p.2.mp ρ)) := by kernel_rfl) (hkeys : os'.map (·.1) = os.map (·.1) := by kernel_rfl)
    (hinj : os.all (fun p => os.all fun q => !(ρ p.1 == ρ q.1) || (p.1 == q.1)) = true := by kernel_rfl) (hside : os.all (fun p => Nat.blt (ρ p.1) σ.n) = true := by kernel_rfl) (hn3 : Nat.blt (ρ 3000000) σ.n = true := by kernel_rfl) (hfr : frB ρ σ os = true := by kernel_rfl) :
    EStep P ops o σ (SS.app ⟨σ.n, σ.t, os'.map (fun p => (ρ p.1, p.2.mp ρ)) ++ σ.o.filter (fun p => !(os.any fun q => ρ q.1 == p.1))⟩ o.dst (some (.tup [], none))) := by
  have hm : ∀ p ∈ os, (ρ p.1, p.2.mp ρ) ∈ σ.o := fun p hp => subB_mem (k := os.map fun p => ρ p.1) (by rw [hos]; exact List.mem_map.2 ⟨p, hp, rfl⟩)
  have hl : zs.length = xs.length + caps.length := by rw [← List.length_append, hz, mpL_len]
  refine hstep_call ho hgd hok hfo hxs he hc ρ hl (fun w S β j x y v h1 h2 h3 => ?_) (fun p hp => ⟨_, hm p hp, fun w S β v h => obj_mp2 h, fun w v g h => foot_mp.2 h⟩) (fun p hp q hq h => ?_) (objs_id hkeys) (fun q hq => ?_) hnm (frB_ok hfr) (.inl ⟨fun p hp => by simpa using List.all_eq_true.1 hside p hp, by simpa using hn3⟩)
  · rw [hz, mpL_get, h2] at h1
    injection h1 with h1
    exact svr_mp2 h3 y h1
  · have h1 := List.all_eq_true.1 (List.all_eq_true.1 hinj p hp) q hq
    rw [Bool.or_eq_true] at h1
    rcases h1 with h1 | h1
    · simp [h] at h1
    · simpa using h1
  · obtain ⟨p, hp, rfl⟩ := List.mem_map.1 hq
    exact ⟨p, hp, rfl, fun w S β v h => obj_mp1 h, fun w v g h => foot_mp.1 h⟩
/-- A local slice takes the free name. -/
theorem Le.up' {σ : SS} (d : Nat) (hd : Nat.blt d σ.n = true := by kernel_rfl) (hf : σ.names.contains 3000000 = false := by kernel_rfl) : Le σ (σ.ren d 3000000) := Le.renG (by simpa using hd) (.inr (Nat.le_refl _)) hf
variable {tb : Tb} {ν : SS}
theorem run_equalIn_nil {t e : Nat} (w : World) (d : Nat) {A : Option Addr} {n c : Nat} (hu : P.underlying t = some (.slice e)) : (Op.equalIn (d + 1) t (.slice A n c) (.slice none 0 0)).run P w = .ok A.isNone w := by
  cases A <;> simp [Op.equalIn, run_underlying hu]
/-- A slice against nil: nil itself, or one that is not empty. -/
theorem lstep_eqnil (hP : TbOk P tb) {t t' : Nat} {ti : TI} {e : Nat} {x y : Operand} (ho : o.op = .binOp .eql t x y t') (hgd : gd ops ν o = some true) (hok : okd ν o = true) {v : Tr} {b : Bool} (ht : find t tb = some ti) (hd : ti.d = .slice e) (hx : ev ν x = some (.tr v)) (hy : y = .const (.slice none 0 0)) (hv : (match v with | .nil => some true | .sl (_ + 1) _ => some false | _ => none) = some b) :
    LStep P ops o ν (some (.tr (.bool b), none)) := by
  have hu : P.underlying t = some (.slice e) := by have := (find_ti hP ht).d; rw [hd] at this; exact this
  refine lstep_of_vok hgd hok fun c S β a w hr => ?_
  have hv1 := ev_ok hr hx
  generalize hy1 : a.eval x = y1 at hv1
  have hy2 : a.eval y = .slice none 0 0 := by rw [hy]; rfl
  have hA : ∃ A n c, y1 = .slice A n c ∧ A.isNone = b := by
    cases hv1 with | tr _ _ h =>
    cases h with
    | nil => injection hv with hv; exact ⟨none, 0, 0, rfl, hv⟩
    | sl es A n c m u hl hc hm he hu ha =>
      cases n with
      | zero => cases hv
      | succ n =>
        injection hv with hv
        obtain ⟨b0, o0, h1, _⟩ := ha (fun h => by rw [h] at hl; cases hl)
        exact ⟨A, _, c, rfl, by rw [h1, ← hv]; rfl⟩
    | int => cases hv
    | bool => cases hv
    | str => cases hv
    | nilf => cases hv
  obtain ⟨A, n, cc, rfl, rfl⟩ := hA
  refine .mk (s := (do eqGuard .eql t x y (a.eval x) (a.eval y); binOp .eql t (a.eval x) (a.eval y) : Sem Value)) (u := .bool A.isNone) (by simp only [execOp, ho]) ?_ (.tr _ _ (.bool _))
  rw [hy1, hy2, hy]
  have h1 := run_equalIn_nil (P := P) w 9999 (A := A) (n := n) (c := cc) hu
  simp only [eqGuard, binOp, Op.equal, Op.maxDepth, Sem.run_bind]
  simp [h1]
theorem x_eqnil (hP : TbOk P tb) {t t' : Nat} {ti : TI} {e : Nat} {x y : Operand} (ho : o.op = .binOp .eql t x y t') {v : Tr} {b : Bool} (hgd : gd ops ν o = some true := by kernel_rfl) (hok : okd ν o = true := by kernel_rfl) (ht : find t tb = some ti := by kernel_rfl) (hd : ti.d = .slice e := by kernel_rfl) (hx : ev ν x = some (.tr v) := by kernel_rfl) (hy : y = .const (.slice none 0 0) := by rfl) (hv : (match v with | .nil => some true | .sl (_ + 1) _ => some false | _ => none) = some b := by kernel_rfl) :
    LStep P ops o ν (some (.tr (.bool b), none)) := lstep_eqnil hP ho hgd hok ht hd hx hy hv
/-- An own slice that is not empty is not nil. -/
theorem x_eqnil_own (hP : TbOk P tb) {t t' : Nat} {ti : TI} {e : Nat} {x y : Operand} (ho : o.op = .binOp .eql t x y t') {d e1 m n : Nat} {es : List (List Tr)} (hgd : gd ops ν o = some true := by kernel_rfl) (hok : okd ν o = true := by kernel_rfl) (ht : find t tb = some ti := by kernel_rfl) (hd : ti.d = .slice e := by kernel_rfl) (hx : ev ν x = some (.own d) := by kernel_rfl) (hob : find d ν.o = some (.arr e1 m (n + 1) es) := by kernel_rfl) (hy : y = .const (.slice none 0 0) := by kernel_rfl) :
    LStep P ops o ν (some (.tr (.bool false), none)) := by
  have hu : P.underlying t = some (.slice e) := by have := (find_ti hP ht).d; rw [hd] at this; exact this
  refine lstep_of_vok hgd hok fun c S β a w hr => ?_
  have hv1 := ev_ok hr hx
  have ho1 := hr.obj d _ (mem_of_find hob)
  generalize hy1 : a.eval x = y1 at hv1
  have hy2 : a.eval y = .slice none 0 0 := by rw [hy]; rfl
  have hA : ∃ A n c, y1 = .slice A n c ∧ A.isNone = false := by
    cases hv1
    generalize β d = b at ho1
    cases ho1 with
    | arr _ _ _ _ _ xs hn hown he h =>
      rcases hown.2 with ⟨_, h2⟩ | ⟨g, cap, cur, h2, _⟩
      · exact absurd h2 (by omega)
      · exact ⟨_, _, _, h2, rfl⟩
  obtain ⟨A, n1, cc, rfl, hA⟩ := hA
  have hv2 : SVr w S β (.tr (.bool false)) (.bool A.isNone) := by
    rw [hA]
    exact .tr _ _ (.bool _)
  refine .mk (s := (do eqGuard .eql t x y (a.eval x) (a.eval y); binOp .eql t (a.eval x) (a.eval y) : Sem Value)) (u := .bool A.isNone) (by simp only [execOp, ho]) ?_ hv2
  rw [hy1, hy2, hy]
  have h1 := run_equalIn_nil (P := P) w 9999 (A := A) (n := n1) (c := cc) hu
  simp only [eqGuard, binOp, Op.equal, Op.maxDepth, Sem.run_bind]
  simp [h1]
/-- A variable of a slice's type, not yet set: it is nil. -/
theorem lstep_alloc_nil (hP : TbOk P tb) {e : Nat} (ho : o.op = .alloc e) {d : Nat} (hdst : o.dst = some d) {ti : TI} (hgd : gd ops ν o = some true := by kernel_rfl) (hd : decide (d < ν.n) = true := by kernel_rfl) (ht : find e tb = some ti := by kernel_rfl) (hz : ti.zero = [.sl 0 []] := by kernel_rfl) : LStep P ops o ν (some (.ref d 0, some (.box [.tr .nil]))) := by
  intro σ c a w hs hf ⟨S, β, hr⟩
  have hd : d < σ.n := by rw [← hs.n]; exact of_decide_eq_true hd
  have hν := hs.rel hr
  have hfd : d ∉ σ.names := hf d hdst
  obtain ⟨j, h3, _, _, h4⟩ := (find_ti hP ht).info'
  obtain ⟨z, h5, h6⟩ := h4 [.slice none 0 0] (by rw [hz]; rfl)
  have hzr : (zeroValue e).run P w = .ok z w := by simp [zeroValue, typeInfo, h3, h5]
  have hok : AOk P c a w o (σ.add d (.ref d 0) (.box [.tr .nil])) := by
    refine AOk.block hr hdst hd hfd (u := .pointer (some ⟨w.heap.size, 0, none⟩)) (cs := z.cells) (T := e) rfl rfl ?_ (fun w' hw hs' => ?_) fun w' => .ref d 0 _ (upd_same ..)
    · simp only [execOp, ho, Instr.alloc, Sem.run_bind, hzr, Result.andThen_ok, newVar, newRow, run_newObj_alloc, Sem.run_pure]
    · have hsz : z.cells = #[.slice none 0 0] := by
        apply Array.toList_inj.1
        rw [h6]
      refine .box _ _ _ _ hw (by rw [hsz]; rfl) fun j p q hp hq => ?_
      rw [hsz] at hq
      cases j with
      | zero =>
        injection hp with hp
        injection hq with hq
        subst hp hq
        exact .tr _ _ .nil
      | succ j => simp at hp
  obtain ⟨u, w', k1, k2, _⟩ := hok
  unfold OpDo
  rw [gd_ok hν hgd, if_pos rfl]
  refine wp_value k1 ?_
  rw [hdst] at k2 ⊢
  exact k2
end
/-- What a slot shows: a tree, or the content of an own slice. -/
def seeT (σ : SS) (j : Nat) : Option Tr := match find j σ.t with
  | some (.tr t) => some t
  | some (.own d) => match find d σ.o with
    | some (.arr _ _ n es) => some (.sl n es)
    | _ => none
  | _ => none
/-- A slice of what slots show, made for one call that hands back something new. -/
theorem SRun.bcall {P : Program} {tb : Tb} {ops : Array Oper} (hP : TbOk P tb) {o1 o2 : Oper} {rest : List Oper} {Q : SS → Prop} {σ : SS} {d1 e m n : Nat} {es : List (List Tr)} (T : List (Nat × Tr))
    {fo : Operand} {ts : Array TypeId} (ho2 : o2.op = .call { callee := .value fo, args := #[.tmp d1], argTypes := ts }) {f : FuncId} (he : Ents P f) {res : SRes} (hc : SCall P f [.v (.tr (.sl n es))] res) {x : SV} {y : Option SO}
    (k : SRun P ops rest Q ((σ.drop (some d1)).app o2.dst (some (x, y))))
    (hdst1 : o1.dst = some d1 := by kernel_rfl) (hn1 : Nat.blt d1 σ.n = true := by kernel_rfl) (hg1 : gd ops σ o1 = some true := by kernel_rfl)
    (hT : T.map (fun p => seeT σ p.1) = T.map (fun p => some p.2) := by kernel_rfl) (hnm : (SS.mk σ.n (T.map fun p => (p.1, SV.tr p.2)) []).names.contains d1 = false := by kernel_rfl)
    (h : aop tb ⟨σ.n, T.map fun p => (p.1, .tr p.2), []⟩ d1 o1.type o1.op = some (.own d1, .arr e m n es) := by kernel_rfl)
    (hg2 : gd ops (σ.drop (some d1)) o2 = some true := by kernel_rfl) (hfo : ev (σ.drop (some d1)) fo = some (.clo f []) := by kernel_rfl) (_hobj : res.objs = [] := by kernel_rfl) (hdep : res.dep = false := by kernel_rfl)
    (hret : retS (o2.dst.getD 0) res.outs = some (x, y) := by kernel_rfl) (hok2 : okd (σ.drop (some d1)) o2 = true := by kernel_rfl) (hf2 : freshB (some (x, y)) o2.dst (σ.drop (some d1)) = true := by kernel_rfl) : SRun P ops (o1 :: o2 :: rest) Q σ := by
  intro c a w ⟨S, β, hr⟩
  let S1 : Nat → Prop := fun b => S b ∨ ∃ d x, (d, x) ∈ σ.o ∧ x.foot w (β d) b
  have hS1 : ∀ b, S b → S1 b := fun b hb => .inl hb
  have hlt1 : ∀ b, S1 b → b < w.heap.size := fun b hb => by
    rcases hb with hb | ⟨d, z, hz, hg⟩
    · exact hr.lt b hb
    · exact (hr.obj d z hz).lt hg
  have hn1' : d1 < σ.n := by simpa using hn1
  have hr1 : Rel ⟨w, S1, [], fun _ _ => False, fun j v h => (by cases h), hr.globOk.mono hS1, fun p _ ⟨_, _, h, _⟩ => by cases h⟩ S1 β ⟨σ.n, T.map fun p => (p.1, .tr p.2), []⟩ a w := by
    refine ⟨hr.defers, hr.size, hr.one, Grew.refl _ _, fun _ h => h, fun _ h => .inl h, hlt1, fun i v hi => ?_, fun d x hd => (by cases hd), fun j v hj => (by cases hj), fun d x g hd _ => (by cases hd), fun d x d' x' g hd _ _ _ => (by cases hd)⟩
    obtain ⟨p, hp, hpe⟩ := List.mem_map.1 hi
    injection hpe with h1 h2
    subst h1 h2
    have hs : seeT σ p.1 = some p.2 := by
      obtain ⟨k, hk, rfl⟩ := List.mem_iff_getElem.1 hp
      have := congrArg (fun l => l[k]?) hT
      simpa [hk] using this
    unfold seeT at hs
    split at hs
    · rename_i t hf
      injection hs with hs
      subst hs
      have h1 := hr.tmp _ _ (mem_of_find hf)
      exact ⟨h1.1, h1.2.keep (fun _ _ => rfl) hS1⟩
    · rename_i d hf
      split at hs
      · rename_i e0 m0 n0 es0 hfo
        injection hs with hs
        rw [← hs]
        have h1 := hr.tmp _ _ (mem_of_find hf)
        refine ⟨h1.1, ?_⟩
        have h2 := h1.2
        generalize a.tmps.getD p.1 undef = u at h2
        cases h2
        exact .tr _ _ (own_tree hr hS1 (mem_of_find hfo) fun g hg => .inr ⟨d, _, mem_of_find hfo, hg⟩)
      · cases hs
    · cases hs
  have hf' : d1 ∉ (SS.mk σ.n (T.map fun p => (p.1, SV.tr p.2)) []).names := fun hm => by
    rw [List.contains_iff_mem.2 hm] at hnm
    cases hnm
  obtain ⟨u, w1, hrun, ⟨S2, β2, hr2⟩, hgr1⟩ := aop_ok hP hr1 hr1 (fun _ h => h) hdst1 hn1' hf' h
  rw [hdst1] at hr2
  have hmem : (d1, SO.arr e m n es) ∈ ((SS.mk σ.n (T.map fun p => (p.1, SV.tr p.2)) []).add d1 (.own d1) (.arr e m n es)).o := .head _
  have hob := hr2.obj d1 _ hmem
  have hu : β2 d1 = u := by
    have h1 := hr2.tmp d1 (.own d1) (.head _)
    rw [put_get a u (by have := hr.size; omega)] at h1
    cases h1.2
    rfl
  have htree : TV w1 (fun b => S2 b ∨ (SO.arr e m n es).foot w1 (β2 d1) b) (.sl n es) (β2 d1) := own_tree hr2 (fun _ hb => .inl hb) hmem fun _ hg => .inr hg
  rw [hu] at htree hob
  have hlt3 : ∀ b, (S2 b ∨ (SO.arr e m n es).foot w1 u b) → b < w1.heap.size := fun b hb => by
    rcases hb with hb | hb
    · exact hr2.lt b hb
    · exact hob.lt hb
  have hd1 : OpDo P ops o1 a w fun a' w' => a' = a.put (some d1) u ∧ w' = w1 := by
    unfold OpDo
    rw [gd_ok hr hg1, if_pos rfl]
    unfold Oper.wp
    rw [hrun]
    exact ⟨by rw [hdst1], rfl⟩
  refine hd1.list fun a1 w1' ⟨ha1, hw1⟩ => ?_
  subst hw1
  have hr3 : Rel c S β (σ.drop (some d1)) a1 w1' := by
    rw [ha1]
    exact (hr.drop (some d1) u).world hgr1
  have hget : a1.eval (.tmp d1) = u := by
    rw [ha1]
    exact put_get a u (by have := hr.size; omega)
  have hd2 : OpDo P ops o2 a1 w1' fun a' w' => RelE c ((σ.drop (some d1)).app o2.dst (some (x, y))) a' w' := by
    unfold OpDo
    rw [gd_ok hr3 hg2, if_pos rfl]
    have hfv := ev_ok hr3 hfo
    generalize hfe : a1.eval fo = fv at hfv
    cases hfv with
    | clo f caps vs hvl hvh =>
      have hvs : vs = #[] := by
        apply Array.eq_empty_of_size_eq_zero
        simpa using hvl.symm
      subst hvs
      have hrun2 : (execOp a1.eval o2).run P w1' = .ok (.enter f #[u]) w1' := by
        simp only [execOp, ho2, resolve, hfe, Deferred.ofValue, Sem.run_bind, Sem.run_pure, Result.andThen_ok, invoke]
        rw [show (#[] : Array Value) ++ (#[Operand.tmp d1].map a1.eval) = #[u] from by simp [hget]]
        exact he _ _
      have hcall := hc w1' (fun b => S2 b ∨ (SO.arr e m n es).foot w1' u b) #[u] rfl hlt3 (fun j z v hj hv => by
        cases j with
        | zero =>
          have h1 : z = .tr (.sl n es) := by
            have := Option.some.inj hj
            injection this with this
            exact this.symm
          have h2 : v = u := (Option.some.inj hv).symm
          rw [h1, h2]
          exact .tr _ _ htree
        | succ j => simp at hj) (fun j z v hj => by
        cases j with
        | zero => cases hj
        | succ j => simp at hj) (fun i j z z' u v g hi => by
        cases i with
        | zero => cases hi
        | succ i => simp at hi) (hr2.globOk.mono fun _ hb => .inl hb)
      unfold Oper.wp
      rw [hrun2]
      refine hcall.mono fun e' w' ⟨v, S', he', hg, hSS1, hSS2, hv, _⟩ => ?_
      subst he'
      refine Rel.result hr3 hok2 (d := o2.dst.getD 0) (fun k hk => by rw [hk]; rfl) ⟨hg.os, hg.tape, hg.output, hg.size, fun k hk _ => hg.block k hk ?_⟩ (fun b hb => ?_) hSS2 hret (freshB_ok hf2) hv
      · rintro ⟨j, z, u', hj, _⟩
        cases j with
        | zero => cases hj
        | succ j => simp at hj
      · rcases hSS1 b hb with ⟨h6, _⟩ | h6
        · rw [hdep] at h6
          cases h6
        · exact .inr h6
  exact hd2.list fun a' w' hr' => k c a' w' hr'
end Go.Proofs.Ytlhllbiikideeaa.Sh
