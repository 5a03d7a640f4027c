/- A call as a step. -/
import Derived.Test.YtnnpmbcamnnfgaaS12
namespace Go.Proofs.Ytnnpmbcamnnfgaa.Sh
open Go.RowKit
section
variable {P : Program} {c : Cx} {S : Nat → Prop} {β : Nat → Value} {ν σ : SS} {a : Act} {w : World}
theorem bz_up {w : World} {S : Nat → Prop} {x : SV} {v : Value} (h : SVr w S bz x v) (hn : x.names = []) (β : Nat → Value) : SVr w S β x v := h.agree fun d hd => by rw [hn] at hd; cases hd
def YOk (w' : World) (S' : Nat → Prop) (B : Nat) (nm : List Nat) (o : Value) : Option SO → Prop
  | none => nm = []
  | some y => o.cells = #[o] ∧ SO.names y = [] ∧ ObjR w' S' bz y o ∧ ∀ g, blkOf o = some g → B ≤ g ∧ ¬ S' g
/-- The call's results, taken up by the caller. -/
theorem comps_ok {d B : Nat} {S' : Nat → Prop} {w' : World} : ∀ {rs : List SR} {xs : List SV} {y : Option SO} {us : List Value}, comps d rs = some (xs, y) → us.length = rs.length → (∀ (i : Nat) r u, rs[i]? = some r → us[i]? = some u → ResR w' S' B r u) →
    xs.length = us.length ∧ ∃ o : Value, (∀ (i : Nat) x u, xs[i]? = some x → us[i]? = some u → ∀ β, SVr w' S' (upd β d o) x u) ∧
      YOk w' S' B (SV.names.namesL xs) o y
  | [], xs, y, us, h, hl, _ => by
    injection h with h
    injection h with h1 h2
    subst h1 h2
    exact ⟨by simpa using hl.symm, undef, by simp, rfl⟩
  | r :: rs, xs, y, u :: us, h, hl, hr => by
    have hr0 := hr 0 r u rfl rfl
    have hrs : ∀ (i : Nat) r u, rs[i]? = some r → us[i]? = some u → ResR w' S' B r u := fun i r' u' h1 h2 => hr (i + 1) r' u' (by simpa using h1) (by simpa using h2)
    have hl' : us.length = rs.length := by simpa using hl
    cases r with
    | v x =>
      simp only [comps] at h
      split at h
      · rename_i xs' y' hc
        injection h with h
        injection h with h1 h2
        subst h1 h2
        obtain ⟨h3, o, h4, h5⟩ := comps_ok hc hl' hrs
        refine ⟨by simp [h3], o, fun i x' u' h6 h7 β => ?_, ?_⟩
        · cases i with
          | zero => simp at h6 h7; subst h6 h7; exact bz_up hr0.2 hr0.1 _
          | succ i => exact h4 i x' u' (by simpa using h6) (by simpa using h7) β
        · cases y' with
          | none =>
            show SV.names.namesL (x :: xs') = []
            unfold SV.names.namesL
            rw [hr0.1]
            exact h5
          | some y' => exact h5
      · cases h
    | own e m n es =>
      simp only [comps] at h
      split at h
      · rename_i xs' hc
        injection h with h
        injection h with h1 h2
        subst h1 h2
        obtain ⟨h3, o, h4, h5⟩ := comps_ok hc hl' hrs
        refine ⟨by simp [h3], u, fun i x' u' h6 h7 β => ?_, ?_⟩
        · cases i with
          | zero =>
            simp at h6 h7
            subst h6 h7
            have : SVr w' S' (upd β d u) (.own d) (upd β d u d) := .own d
            rwa [upd_same] at this
          | succ i =>
            have h8 : SV.names.namesL xs' = [] := h5
            refine (h4 i x' u' (by simpa using h6) (by simpa using h7) β).agree fun k hk => ?_
            have := SV.mem_namesL (List.mem_of_getElem? (by simpa using h6)) hk
            rw [h8] at this
            cases this
        · refine ⟨?_, rfl, hr0.1, hr0.2⟩
          have := hr0.1
          cases this with
          | arr e m n es v xs hn hown he hh =>
            rcases hown.2 with ⟨h1, _⟩ | ⟨g, cap, cur, h1, _⟩ <;> rw [h1] <;> rfl
      · cases h
    | box cs =>
      simp only [comps] at h
      split at h
      · rename_i xs' hc
        injection h with h
        injection h with h1 h2
        subst h1 h2
        obtain ⟨h3, o, h4, h5⟩ := comps_ok hc hl' hrs
        obtain ⟨hb1, hb2, hb3⟩ := hr0
        refine ⟨by simp [h3], u, fun i x' u' h6 h7 β => ?_, ?_⟩
        · cases i with
          | zero =>
            simp at h6 h7
            subst h6 h7
            cases hb2 with
            | box cs g vs T hg hl hh => exact .ref d 0 g (upd_same ..)
          | succ i =>
            have h8 : SV.names.namesL xs' = [] := h5
            refine (h4 i x' u' (by simpa using h6) (by simpa using h7) β).agree fun k hk => ?_
            have := SV.mem_namesL (List.mem_of_getElem? (by simpa using h6)) hk
            rw [h8] at this
            cases this
        · exact ⟨by cases hb2; rfl, hb1, hb2, hb3⟩
      · cases h
theorem retS_ok {d B : Nat} {S' : Nat → Prop} {w' : World} {rs : List SR} {x : SV} {y : Option SO} {v : Value} (h : retS d rs = some (x, y)) (hv : ValsR (ResR w' S' B) rs v) :
    ∃ o : Value, (∀ β, SVr w' S' (upd β d o) x v) ∧ YOk w' S' B x.names o y := by
  have tup : ∀ {rs : List SR} {xs : List SV} {y : Option SO}, comps d rs = some (xs, y) → (∃ us : Array Value, v = .tuple us ∧ us.size = rs.length ∧ ∀ (i : Nat) r u, rs[i]? = some r → us[i]? = some u → ResR w' S' B r u) →
      ∃ o : Value, (∀ β, SVr w' S' (upd β d o) (.tup xs) v) ∧ YOk w' S' B (SV.tup xs).names o y := by
    intro rs xs y hc hus
    obtain ⟨us, rfl, h2, h3⟩ := hus
    obtain ⟨h4, o, h5, h6⟩ := comps_ok hc (us := us.toList) (by simpa using h2) fun i r u h7 h8 => h3 i r u h7 (by simpa using h8)
    exact ⟨o, fun β => .tup xs us (by simpa using h4) fun i x u h7 h8 => h5 i x u h7 (by simpa using h8) β, by cases y <;> exact h6⟩
  match rs, h, hv with
  | [r], h, hv =>
    simp only [retS] at h
    split at h
    · rename_i x' y' hc
      injection h with h
      injection h with h1 h2
      subst h1 h2
      obtain ⟨h4, o, h5, h6⟩ := comps_ok hc (us := [v]) rfl fun i r' u h7 h8 => by
        cases i with
        | zero => simp at h7 h8; subst h7 h8; exact hv
        | succ i => simp at h7
      refine ⟨o, fun β => h5 0 x' v rfl rfl β, ?_⟩
      cases y' with
      | none =>
        have h7 : SV.names.namesL [x'] = [] := h6
        show x'.names = []
        simpa [SV.names.namesL] using h7
      | some y' => exact h6
    · cases h
  | [], h, hv =>
    simp only [retS] at h
    split at h
    · rename_i xs y' hc
      injection h with h
      injection h with h1 h2
      subst h1 h2
      exact tup hc hv
    · cases h
  | r :: r' :: rs, h, hv =>
    simp only [retS] at h
    split at h
    · rename_i xs y' hc
      injection h with h
      injection h with h1 h2
      subst h1 h2
      exact tup hc hv
    · cases h
/-- The results, taken into the caller's frame. -/
theorem Rel.result (hr : Rel c S β σ a w) {o : Oper} (hok : okd σ o = true) {d : Nat} (hd : ∀ k, o.dst = some k → k = d) {w' : World} (hg : Grew (fun _ => False) w w') {S' : Nat → Prop} (h1 : ∀ b, S' b → S b ∨ w.heap.size ≤ b) (h2 : ∀ b, S' b → b < w'.heap.size)
    {rs : List SR} {x : SV} {y : Option SO} {v : Value} (h : retS d rs = some (x, y)) (hf : Fresh (some (x, y)) o.dst σ) (hv : ValsR (ResR w' S' w.heap.size) rs v) : RelE c (σ.app o.dst (some (x, y))) (a.put o.dst v) w' := by
  obtain ⟨u, h3, h4⟩ := retS_ok h hv
  have hr' := hr.more hg h1 h2
  cases hdst : o.dst with
  | none => cases y <;> exact ⟨_, _, hr'⟩
  | some k =>
    have hkd := hd k hdst
    subst hkd
    have hk : k < σ.n := by
      unfold okd at hok
      rw [hdst] at hok
      simpa using hok
    cases y with
    | none =>
      refine ⟨_, _, Rel.put hr' hk (v := x) (((h3 β).keep (fun _ _ => rfl) fun b hb => .inr hb).agree fun j hj => ?_)⟩
      have h5 : x.names = [] := h4
      rw [h5] at hj
      cases hj
    | some y =>
      obtain ⟨h5, h6, h7, h8⟩ := h4
      have hfr : k ∉ σ.names := hf k hdst
      have h9 : ObjR w' (fun b => S b ∨ S' b) (upd β k u) y u := (h7.keep (fun _ _ => rfl) fun b hb => .inr hb).agree fun j hj => by rw [h6] at hj; cases hj
      have hnew := Rel.new hr' hfr hk h5 h9 (fun g hgb => ⟨fun hc => by
        rcases hc with hc | hc
        · exact absurd (hr.lt g hc) (by have := (h8 g hgb).1; omega)
        · exact (h8 g hgb).2 hc, Nat.le_trans hr.grew.size (h8 g hgb).1, fun d' x' hm e => by
          have := (hr.obj d' x' hm).lt e
          have := (h8 g hgb).1
          omega⟩)
      exact ⟨_, _, Rel.put hnew hk ((h3 β).keep (fun _ _ => rfl) fun b hb => .inr hb)⟩
/-- A call. -/
theorem lstep_call {ops : Array Oper} {o : Oper} {fo : Operand} {args : Array Operand} {ts : Array TypeId} (ho : o.op = .call { callee := .value fo, args := args, argTypes := ts }) (hgd : gd ops ν o = some true) (hok : okd ν o = true)
    {f : FuncId} {caps xs ys : List SV} (hfo : ev ν fo = some (.clo f caps)) (hxs : evL ν args.toList = some xs) (hro : ro2L ν (xs ++ caps) = some ys) (he : Ents P f) {res : SRes} (hc : SCall P f (ys.map .v) res) (hobj : res.objs = [])
    (hdep : res.dep = true → SV.names.namesL (xs ++ caps) = []) {x : SV} {y : Option SO} (hret : retS (o.dst.getD 0) res.outs = some (x, y)) : LStep P ops o ν (some (x, y)) := by
  intro σ cx a w hs hf ⟨S, β, hr⟩
  have hν := hs.rel hr
  unfold OpDo
  rw [gd_ok hν hgd, if_pos rfl]
  let Sc : Nat → Prop := fun b => S b ∨ (res.dep = false ∧ ∃ d x, (d, x) ∈ ν.o ∧ blkOf (β d) = some b)
  have hSc : ∀ b, S b → Sc b := fun b hb => .inl hb
  have hT : Thru Sc β ν (SV.names.namesL (xs ++ caps)) := by
    intro d hd z hz
    have hdep' : res.dep = false := by
      cases hb : res.dep with
      | false => rfl
      | true =>
        rw [hdep hb] at hd
        cases hd
    exact ⟨fun g hg => .inr ⟨hdep', d, z, hz, hg⟩, fun k _ y hy g hg => .inr ⟨hdep', k, y, hy, hg⟩⟩
  obtain ⟨h1, h2, h3⟩ := ro2L_ok hν hSc hro hT
  obtain ⟨h4, h5⟩ := evL_ok hν hxs
  have hfv := ev_ok hν hfo
  generalize hfe : a.eval fo = fv at hfv
  cases hfv with
  | clo f caps vs hvl hvh =>
    have hrun : (execOp a.eval o).run P w = .ok (.enter f (args.map a.eval ++ vs)) w := by
      simp only [execOp, ho, resolve, hfe, Deferred.ofValue, Sem.run_bind, Sem.run_pure, Result.andThen_ok, invoke]
      rw [show (#[] : Array Value) ++ args.map a.eval = args.map a.eval from by simp]
      exact he _ _
    have hlen : xs.length = args.size := by simpa using h4
    have hcall := hc w Sc (args.map a.eval ++ vs) (by simp; simp at h1; omega) (fun b hb => by
        rcases hb with hb | ⟨_, d, z, hz, hg⟩
        · exact hr.lt b hb
        · exact (hν.obj d z hz).lt hg) (fun j z v hj hv => by
        rw [List.getElem?_map, Option.map_eq_some_iff] at hj
        obtain ⟨q, hq, hj⟩ := hj
        injection hj with hj
        subst hj
        have hjl := (List.getElem?_eq_some_iff.1 hq).1
        have hx : (xs ++ caps)[j]? = some ((xs ++ caps)[j]'(by omega)) := List.getElem?_eq_getElem _
        refine h3 j _ q v hx hq ?_
        generalize (xs ++ caps)[j]'(by omega) = p at hx
        by_cases hlt : j < xs.length
        · rw [List.getElem?_append_left hlt] at hx
          rw [Array.getElem?_append_left (by simp; omega), Array.getElem?_map, Option.map_eq_some_iff] at hv
          obtain ⟨op, hop, rfl⟩ := hv
          exact h5 j op p (by simpa using hop) hx
        · rw [List.getElem?_append_right (by omega)] at hx
          rw [Array.getElem?_append_right (by simp; omega)] at hv
          refine hvh (j - xs.length) p v hx ?_
          simpa [hlen] using hv) (fun j z v hj => by
        rw [List.getElem?_map, Option.map_eq_some_iff] at hj
        obtain ⟨q, _, hj⟩ := hj
        cases hj) (fun i j z z' u v g hi => by
        rw [List.getElem?_map, Option.map_eq_some_iff] at hi
        obtain ⟨q, _, hi⟩ := hi
        cases hi)
    unfold Oper.wp
    rw [hrun]
    refine hcall.mono fun e w' ⟨v, S', he', hg, hS1, hS2, hv, _⟩ => ?_
    subst he'
    refine Rel.result hr (by unfold okd at *; rwa [← hs.n]) (d := o.dst.getD 0) (fun k hk => by rw [hk]; rfl) ⟨hg.os, hg.tape, hg.output, hg.size, fun k hk _ => hg.block k hk ?_⟩ (fun b hb => ?_) hS2 hret hf hv
    · rintro ⟨j, z, u, hj, _⟩
      rw [List.getElem?_map, Option.map_eq_some_iff] at hj
      obtain ⟨q, _, hj⟩ := hj
      cases hj
    · rcases hS1 b hb with ⟨h6, h7⟩ | h6
      · rcases h7 with h7 | ⟨h8, _⟩
        · exact .inl h7
        · rw [h6] at h8
          cases h8
      · exact .inr h6
end
end Go.Proofs.Ytnnpmbcamnnfgaa.Sh
