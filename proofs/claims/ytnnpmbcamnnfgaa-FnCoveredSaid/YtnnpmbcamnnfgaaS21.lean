/- A call that changes one of the caller's own objects. -/
import Derived.Test.YtnnpmbcamnnfgaaS20
namespace Go.Proofs.Ytnnpmbcamnnfgaa.Sh
open Go.RowKit
section
variable {P : Program} {tb : Tb} {ops : Array Oper} {o : Oper} {c : Cx} {S : Nat → Prop} {β : Nat → Value} {ν σ : SS} {a : Act} {w : World}
/-- One own object has changed, and there are new blocks. -/
theorem Rel.touch2 (hr : Rel c S β σ a w) {d : Nat} {x x' : SO} (hd : (d, x) ∈ σ.o) {w' : World} (hg : Grew (fun k => blkOf (β d) = some k) w w') {S' : Nat → Prop} (h1 : ∀ b, S' b → S b ∨ w.heap.size ≤ b) (h2 : ∀ b, S' b → b < w'.heap.size)
    (hx : ObjR w' (fun b => S b ∨ S' b) β x' (β d)) : Rel c (fun b => S b ∨ S' b) β { σ with o := (d, x') :: σ.o.filter (fun p => p.1 != d) } a w' := by
  have hS : ∀ b, S b → w'.heap[b]? = w.heap[b]? := fun b hb => hg.block b (hr.lt b hb) fun e => (hr.priv d x b hd e).1 hb
  have hmem : ∀ {k y}, (k, y) ∈ (d, x') :: σ.o.filter (fun p => p.1 != d) → (k = d ∧ y = x') ∨ ((k, y) ∈ σ.o ∧ k ≠ d) := by
    intro k y h
    rcases List.mem_cons.1 h with h | h
    · injection h with h1 h2
      exact .inl ⟨h1, h2⟩
    · have h2 := List.mem_filter.1 h
      exact .inr ⟨h2.1, by simpa using h2.2⟩
  have hnew : ∀ k y g, (k, y) ∈ σ.o → blkOf (β k) = some g → ¬ (S g ∨ S' g) := fun k y g hk hgb hc => by
    have hlt := (hr.obj k y hk).lt hgb
    rcases hc with hc | hc
    · exact (hr.priv k y g hk hgb).1 hc
    · rcases h1 g hc with h | h
      · exact (hr.priv k y g hk hgb).1 h
      · omega
  refine ⟨hr.defers, hr.size, hr.one, hr.grew.of hg (fun k hk hlt => ?_), fun b hb => .inl (hr.s0 b hb), fun b hb => ?_, fun b hb => hb.elim (fun h => Nat.lt_of_lt_of_le (hr.lt b h) hg.size) (h2 b), fun i y hi => ⟨(hr.tmp i y hi).1, (hr.tmp i y hi).2.keep hS fun _ h => .inl h⟩, fun k y hk => ?_, fun j v hj => ⟨(hr.pin j v hj).1, fun y hy => ?_⟩, fun k y g' hk hg' => ?_, fun k y k' y' g' hk hk' hg' hg2 => ?_⟩
  · rcases (hr.priv d x k hd hk).2 with h | ⟨_, h⟩
    · omega
    · exact h
  · have hw := hr.grew.size
    rcases hb with hb | hb
    · exact hr.s1 b hb
    · rcases h1 b hb with h | h
      · exact hr.s1 b h
      · exact .inr (Nat.le_trans hw h)
  · rcases hmem hk with ⟨rfl, rfl⟩ | ⟨h3, h4⟩
    · exact hx
    · refine (hr.obj k y h3).keep (fun b hb => ?_) fun _ h => .inl h
      rcases hb with hb | hb
      · exact hS b hb
      · exact hg.block b ((hr.obj k y h3).lt hb) fun e => h4 (hr.apart k y d x b h3 hd hb e)
  · rcases hmem hy with ⟨rfl, rfl⟩ | ⟨h3, h4⟩
    · exact (hr.pin j v hj).2 x hd
    · exact (hr.pin j v hj).2 y h3
  · rcases hmem hk with ⟨rfl, rfl⟩ | ⟨h3, h4⟩
    · exact ⟨hnew k x g' hd hg', (hr.priv k x g' hd hg').2⟩
    · exact ⟨hnew k y g' h3 hg', (hr.priv k y g' h3 hg').2⟩
  · rcases hmem hk with ⟨rfl, rfl⟩ | ⟨h3, h4⟩ <;> rcases hmem hk' with ⟨rfl, rfl⟩ | ⟨h5, h6⟩
    · rfl
    · exact hr.apart k x k' y' g' hd h5 hg' hg2
    · exact hr.apart k y k' x g' h3 hd hg' hg2
    · exact hr.apart k y k' y' g' h3 h5 hg' hg2
/-- The results of a call, taken into the caller's frame; B: from where on all is new. -/
theorem Rel.resultB {B : Nat} (hr : Rel c S β σ a w) {o : Oper} (hok : okd σ o = true) {d : Nat} (hd : ∀ k, o.dst = some k → k = d) {S' : Nat → Prop} (hS : ∀ b, S' b → S b) (hB : ∀ b, S b → b < B ∨ S' b) (hBo : ∀ d' x' g, (d', x') ∈ σ.o → blkOf (β d') = some g → g < B) (hB0 : c.w0.heap.size ≤ B)
    {rs : List SR} {x : SV} {y : Option SO} {v : Value} (h : retS d rs = some (x, y)) (hf : Fresh (some (x, y)) o.dst σ) (hv : ValsR (ResR w S' B) rs v) : RelE c (σ.app o.dst (some (x, y))) (a.put o.dst v) w := by
  obtain ⟨u, h3, h4⟩ := retS_ok h hv
  cases hdst : o.dst with
  | none => cases y <;> exact ⟨_, _, hr⟩
  | some k =>
    have hkd := hd k hdst
    subst hkd
    have hk : k < σ.n := by
      unfold okd at hok
      rw [hdst] at hok
      simpa using hok
    cases y with
    | none =>
      refine ⟨_, _, Rel.put hr hk (v := x) (((h3 β).keep (fun _ _ => rfl) hS).agree fun j hj => ?_)⟩
      have h5 : x.names = [] := h4
      rw [h5] at hj
      cases hj
    | some y =>
      obtain ⟨h5, h6, h7, h8⟩ := h4
      have hfr : k ∉ σ.names := hf k hdst
      have h9 : ObjR w S (upd β k u) y u := (h7.keep (fun _ _ => rfl) hS).agree fun j hj => by rw [h6] at hj; cases hj
      have hnew := Rel.new hr hfr hk h5 h9 (fun g hgb => ⟨fun hc => by
        rcases hB g hc with hc | hc
        · have := (h8 g hgb).1; omega
        · exact (h8 g hgb).2 hc, Nat.le_trans hB0 (h8 g hgb).1, fun d' x' hm e => by
          have := hBo d' x' g hm e
          have := (h8 g hgb).1
          omega⟩)
      exact ⟨_, _, Rel.put hnew hk ((h3 β).keep (fun _ _ => rfl) hS)⟩
def nameOf : SV → Option Nat
  | .own d => some d
  | .ref d 0 => some d
  | _ => none
def insO (qs : List SV) (pl : Nat) (y : SO) : List SIn := (qs.take pl).map SIn.v ++ SIn.o y :: (qs.drop pl).map SIn.v
theorem insO_get {qs : List SV} {y : SO} {pl i : Nat} {x : SIn} (hpl : pl ≤ qs.length) (h : (insO qs pl y)[i]? = some x) : (i = pl ∧ x = .o y) ∨ (i < pl ∧ ∃ q, qs[i]? = some q ∧ x = .v q) ∨ (pl < i ∧ ∃ q, qs[i - 1]? = some q ∧ x = .v q) := by
  unfold insO at h
  have hl : ((qs.take pl).map SIn.v).length = pl := by simp; omega
  rcases Nat.lt_trichotomy i pl with hi | hi | hi
  · rw [List.getElem?_append_left (by omega), List.getElem?_map, Option.map_eq_some_iff] at h
    obtain ⟨q, hq, rfl⟩ := h
    rw [List.getElem?_take_of_lt hi] at hq
    exact .inr (.inl ⟨hi, q, hq, rfl⟩)
  · subst hi
    rw [List.getElem?_append_right (by omega), hl, Nat.sub_self] at h
    injection h with h
    exact .inl ⟨rfl, h.symm⟩
  · rw [List.getElem?_append_right (by omega), hl, show i - pl = (i - 1 - pl) + 1 from by omega, List.getElem?_cons_succ, List.getElem?_map, Option.map_eq_some_iff] at h
    obtain ⟨q, hq, rfl⟩ := h
    rw [List.getElem?_drop, show pl + (i - 1 - pl) = i - 1 from by omega] at hq
    exact .inr (.inr ⟨hi, q, hq, rfl⟩)
theorem insO_at {qs : List SV} {y : SO} {pl : Nat} (hpl : pl ≤ qs.length) : (insO qs pl y)[pl]? = some (.o y) := by
  unfold insO
  have hl : ((qs.take pl).map SIn.v).length = pl := by simp; omega
  rw [List.getElem?_append_right (by omega), hl, Nat.sub_self]
  rfl
def FlatO : SO → Prop
  | .box cs => SV.Flat.FlatL cs
  | .arr _ _ _ es => FlatE es
theorem ObjR.free {w : World} {S S' : Nat → Prop} {β : Nat → Value} {x : SO} {v : Value} (h : ObjR w S β x v) (hf : FlatO x) : ObjR w S' β x v := by
  cases h with
  | box cs g vs T hg hl h => exact .box cs g vs T hg hl fun j c v hc hv => (h j c v hc hv).free (SV.flat_mem hf (List.mem_of_getElem? hc))
  | arr e m n es v xs hn hown he h => exact .arr e m n es v xs hn hown he fun i x j t u hi hj hu => (h i x j t u hi hj hu).free (hf x (List.mem_of_getElem? hi) t (List.mem_of_getElem? hj))
/-- The object d is not reached from these names. -/
def sepB (σ : SS) (d : Nat) (l : List Nat) : Bool := l.all fun k => k != d && σ.o.all fun p => p.1 != k || !p.2.names.contains d
theorem sepB_ok {d : Nat} {l : List Nat} (h : sepB σ d l = true) : ∀ k ∈ l, k ≠ d ∧ ∀ x, (k, x) ∈ σ.o → d ∉ x.names := by
  intro k hk
  have h1 := List.all_eq_true.1 h k hk
  simp only [Bool.and_eq_true, bne_iff_ne, ne_eq, List.all_eq_true, Bool.or_eq_true, Bool.not_eq_true', List.contains_eq_mem, decide_eq_false_iff_not] at h1
  refine ⟨h1.1, fun x hx => ?_⟩
  rcases h1.2 _ hx with h2 | h2
  · exact absurd rfl h2
  · exact h2
theorem estep_call {fo : Operand} {args : Array Operand} {ts : Array TypeId} (ho : o.op = .call { callee := .value fo, args := args, argTypes := ts }) (hgd : gd ops σ o = some true) (hok : okd σ o = true)
    {f : FuncId} {caps xs pre post qs : List SV} {z : SV} {d pl : Nat} {y y' : SO} (hfo : ev σ fo = some (.clo f caps)) (hxs : evL σ args.toList = some xs) (hzs : xs ++ caps = pre ++ z :: post) (hz : nameOf z = some d) (hy : find d σ.o = some y) (hyn : y.names = []) (hpl : pre.length = pl)
    (hro : ro2L σ (pre ++ post) = some qs) (hsep : sepB σ d (SV.names.namesL (pre ++ post)) = true) (he : Ents P f) {res : SRes} (hc : SCall P f (insO qs pl y) res) (hobj : res.objs = [(pl, y')]) (hyn' : y'.names = [])
    (fl : Bool) (hfl : fl = false → SV.names.namesL (pre ++ post) = []) (hfl' : fl = true → res.dep = false ∧ FlatO y') {x : SV} {yo : Option SO} (hret : retS (o.dst.getD 0) res.outs = some (x, yo))
    (hf : freshB (some (x, yo)) o.dst { σ with o := (d, y') :: σ.o.filter (fun p => p.1 != d) } = true) :
    EStep P ops o σ (SS.app { σ with o := (d, y') :: σ.o.filter (fun p => p.1 != d) } o.dst (some (x, yo))) := by
  intro cx a w ⟨S, β, hr⟩
  unfold OpDo
  rw [gd_ok hr hgd, if_pos rfl]
  let Sc : Nat → Prop := fun b => S b ∨ (fl = true ∧ ∃ k x, k ≠ d ∧ (k, x) ∈ σ.o ∧ blkOf (β k) = some b)
  have hSc : ∀ b, S b → Sc b := fun b hb => .inl hb
  have hsep' := sepB_ok hsep
  have hT : Thru Sc β σ (SV.names.namesL (pre ++ post)) := by
    intro k hk q hq
    have hfl1 : fl = true := by
      cases hb : fl with
      | true => rfl
      | false => rw [hfl hb] at hk; cases hk
    have h1 := hsep' k hk
    exact ⟨fun g hg => .inr ⟨hfl1, k, q, h1.1, hq, hg⟩, fun k' hk' y hy g hg => .inr ⟨hfl1, k', y, fun e => h1.2 q hq (e ▸ hk'), hy, hg⟩⟩
  obtain ⟨h1, h2, h3⟩ := ro2L_ok hr hSc hro hT
  obtain ⟨h4, h5⟩ := evL_ok hr hxs
  have hfv := ev_ok hr hfo
  have hm := mem_of_find hy
  generalize hfe : a.eval fo = fv at hfv
  cases hfv with
  | clo f caps vs hvl hvh =>
    have hrun : (execOp a.eval o).run P w = .ok (.enter f (args.map a.eval ++ vs)) w := by
      simp only [execOp, ho, resolve, hfe, Deferred.ofValue, Sem.run_bind, Sem.run_pure, Result.andThen_ok, invoke]
      rw [show (#[] : Array Value) ++ args.map a.eval = args.map a.eval from by simp]
      exact he _ _
    have hlen : xs.length = args.size := by simpa using h4
    have hval : ∀ (j : Nat) p v, (pre ++ z :: post)[j]? = some p → (args.map a.eval ++ vs)[j]? = some v → SVr w S β p v := by
      intro j p v hp hv
      rw [← hzs] at hp
      by_cases hlt : j < xs.length
      · rw [List.getElem?_append_left hlt] at hp
        rw [Array.getElem?_append_left (by simp; omega), Array.getElem?_map, Option.map_eq_some_iff] at hv
        obtain ⟨op, hop, rfl⟩ := hv
        exact h5 j op p (by simpa using hop) hp
      · rw [List.getElem?_append_right (by omega)] at hp
        rw [Array.getElem?_append_right (by simp; omega)] at hv
        refine hvh (j - xs.length) p v hp ?_
        simpa [hlen] using hv
    have hqs : qs.length = pl + post.length := by rw [h1, List.length_append, hpl]
    have hple : pl ≤ qs.length := by omega
    have hsz : (args.map a.eval ++ vs).size = (insO qs pl y).length := by
      have h6 := congrArg List.length hzs
      simp only [List.length_append, List.length_cons] at h6
      simp [insO]
      omega
    have hbd : ∀ v, (args.map a.eval ++ vs)[pl]? = some v → v = β d := by
      intro v hv
      have h6 := hval pl z v (by rw [← hpl, List.getElem?_append_right (Nat.le_refl _), Nat.sub_self]; rfl) hv
      cases z <;> simp only [nameOf, reduceCtorEq] at hz
      case own k =>
        injection hz with hz
        subst hz
        cases h6 with | own => rfl
      case ref k off =>
        cases off with
        | zero =>
          injection hz with hz
          subst hz
          cases h6 with | ref _ _ g hg => exact hg.symm
        | succ n => simp [nameOf] at hz
    have hcall := hc w Sc (args.map a.eval ++ vs) hsz (fun b hb => by
        rcases hb with hb | ⟨_, k, q, _, hq, hg⟩
        · exact hr.lt b hb
        · exact (hr.obj k q hq).lt hg) (fun j q v hj hv => by
        rcases insO_get hple hj with ⟨_, h6⟩ | ⟨hlt, q', hq, h6⟩ | ⟨hlt, q', hq, h6⟩
        · cases h6
        · injection h6 with h6
          subst h6
          have hp : pre[j]? = some (pre[j]'(by omega)) := List.getElem?_eq_getElem _
          exact h3 j _ q v (by rw [List.getElem?_append_left (by omega)]; exact hp) hq (hval j _ v (by rw [List.getElem?_append_left (by omega)]; exact hp) hv)
        · injection h6 with h6
          subst h6
          have hjl := (List.getElem?_eq_some_iff.1 hq).1
          have hp : post[j - 1 - pl]? = some (post[j - 1 - pl]'(by omega)) := List.getElem?_eq_getElem _
          exact h3 (j - 1) _ q v (by rw [List.getElem?_append_right (by omega), hpl]; exact hp) hq (hval j _ v (by rw [List.getElem?_append_right (by omega), hpl, show j - pl = (j - 1 - pl) + 1 from by omega, List.getElem?_cons_succ]; exact hp) hv)) (fun j q v hj hv => by
        rcases insO_get hple hj with ⟨h7, h6⟩ | ⟨hlt, q', hq, h6⟩ | ⟨hlt, q', hq, h6⟩
        · injection h6 with h6
          subst h6 h7
          rw [hbd v hv]
          refine ⟨hr.one d, ((hr.obj d _ hm).keep (fun _ _ => rfl) hSc).agree (fun k hk => by rw [hyn] at hk; cases hk), fun g hg hcc => ?_⟩
          rcases hcc with hcc | ⟨_, k, q, hne, hq, hgk⟩
          · exact (hr.priv d _ g hm hg).1 hcc
          · exact hne (hr.apart k q d _ g hq hm hgk hg)
        · cases h6
        · cases h6) (fun i j z z' u v g hi hj _ _ _ _ => by
        rcases insO_get hple hi with ⟨h7, _⟩ | ⟨_, q', _, h6⟩ | ⟨_, q', _, h6⟩
        · rcases insO_get hple hj with ⟨h8, _⟩ | ⟨_, q', _, h6⟩ | ⟨_, q', _, h6⟩
          · rw [h7, h8]
          · cases h6
          · cases h6
        · cases h6
        · cases h6)
    unfold Oper.wp
    rw [hrun]
    refine hcall.mono fun e w' ⟨v, S', he', hg, hS1, hS2, hv, hob⟩ => ?_
    subst he'
    have hpv : (args.map a.eval ++ vs)[pl]? = some ((args.map a.eval ++ vs)[pl]'(by rw [hsz]; exact (List.getElem?_eq_some_iff.1 (insO_at hple)).1)) := Array.getElem?_eq_getElem _
    have hgg : Grew (fun k => blkOf (β d) = some k) w w' := by
      refine ⟨hg.os, hg.tape, hg.output, hg.size, fun k hk hx => hg.block k hk ?_⟩
      rintro ⟨j, q, u, hj, hu, hb⟩
      rcases insO_get hple hj with ⟨h7, _⟩ | ⟨_, q', _, h6⟩ | ⟨_, q', _, h6⟩
      · subst h7
        rw [hbd u hu] at hb
        exact hx hb
      · cases h6
      · cases h6
    have hS' : ∀ b, S' b → S b ∨ w.heap.size ≤ b := by
      intro b hb
      rcases hS1 b hb with ⟨h6, h7⟩ | h6
      · rcases h7 with h7 | ⟨h8, _⟩
        · exact .inl h7
        · rw [(hfl' h8).1] at h6
          cases h6
      · exact .inr h6
    have hob1 := hob pl y' _ (by rw [hobj]; exact List.mem_singleton.2 rfl) hpv
    rw [hbd _ hpv] at hob1
    have hob2 : ObjR w' (fun b => S b ∨ S' b) β y' (β d) := by
      refine ObjR.agree (β := bz) ?_ fun k hk => by rw [hyn'] at hk; cases hk
      cases hfc : fl with
      | true => exact hob1.1.free (hfl' hfc).2
      | false =>
        refine hob1.1.keep (fun _ _ => rfl) fun b hb => ?_
        rcases hb with (hb | ⟨hb, _⟩) | hb
        · exact .inl hb
        · rw [hfc] at hb; cases hb
        · exact .inr hb
    have hr2 := hr.touch2 hm hgg hS' hS2 hob2
    refine hr2.resultB (B := w.heap.size) (by unfold okd at *; exact hok) (d := o.dst.getD 0) (fun k hk => by rw [hk]; rfl) (fun b hb => .inr hb) (fun b hb => ?_) (fun k q g hk hgk => ?_) hr.grew.size hret (freshB_ok hf) hv
    · rcases hb with hb | hb
      · exact .inl (hr.lt b hb)
      · exact .inr hb
    · rcases List.mem_cons.1 hk with h6 | h6
      · injection h6 with h6 h7
        subst h6
        exact (hr.obj _ _ hm).lt hgk
      · exact (hr.obj k q (List.mem_filter.1 h6).1).lt hgk
end
end Go.Proofs.Ytnnpmbcamnnfgaa.Sh
