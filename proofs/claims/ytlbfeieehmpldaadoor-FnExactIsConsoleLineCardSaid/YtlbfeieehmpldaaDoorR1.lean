/- From the reading of the arguments to shadows, and what the row of a law asks, where the law's typed form answers true; no condition. -/
import Derived.Test.YtlbfeieehmpldaaDoorSB
import Derived.ProofKit
import Derived.OpenShut
import Derived.Deep.Slices
namespace Go.Proofs.YtlbfeieehmpldaaDoor.Sh
open Go.RowKit Go.ChangeShapes Go.WideShapes Go.ChangeAt Go.Deep
theorem own : ownKnob Tryd.prog.godebug = none := by kernel_rfl
theorem laidOut : laidOutB Tryd.prog = true := by kernel_rfl
def allB (w : World) : Nat → Prop := fun b => b < w.heap.size
section
variable {P : Program} {t e : TypeId}
theorem rows_nil {w : World} : ∀ (j : Nat) x v, ([] : List SV)[j]? = some x → ([] : List Value)[j]? = some v → SVr w (allB w) bz x v := fun j x v h => by simp at h
theorem rows_cons {w : World} {x : SV} {v : Value} {xs : List SV} {vs : List Value} (h : SVr w (allB w) bz x v) (k : ∀ (j : Nat) x v, xs[j]? = some x → vs[j]? = some v → SVr w (allB w) bz x v) : ∀ (j : Nat) x' v', (x :: xs)[j]? = some x' → (v :: vs)[j]? = some v' → SVr w (allB w) bz x' v' := by
  intro j x' v' h1 h2
  cases j with
  | zero => simp at h1 h2; subst h1 h2; exact h
  | succ j => exact k j x' v' (by simpa using h1) (by simpa using h2)
theorem row_calls {k : FuncId} {ins : List SV} {vs : List Value} {W : World} (h : SCall P k (ins.map .v) ⟨[.v (.tr (.bool true))], [], false⟩) (hs : vs.length = ins.length) (hv : ∀ (j : Nat) x v, ins[j]? = some x → vs[j]? = some v → SVr W (allB W) bz x v) (hgl : GlobOk (allB W) W := by refine ⟨?_, ?_, ?_⟩ <;> (intro p hp; cases hp)) :
    Calls P k vs.toArray W fun e W' => e = .returned (.bool true) ∧ Below W.heap.size W W' := by
  have hno : ∀ (j : Nat) x, (ins.map SIn.v)[j]? = some (SIn.o x) → False := fun j x hj => by
    rw [List.getElem?_map, Option.map_eq_some_iff] at hj
    obtain ⟨q, _, hq⟩ := hj
    cases hq
  have := h W (allB W) vs.toArray (by simpa using hs) (fun b hb => hb) (fun j x v hj hv' => by
    rw [List.getElem?_map, Option.map_eq_some_iff] at hj
    obtain ⟨q, hq, hj⟩ := hj
    injection hj with hj
    subst hj
    exact hv j q v hq (by simpa using hv')) (fun j x v hj => (hno j x hj).elim) (fun i j x y u v g hi => (hno i x hi).elim) hgl
  refine this.mono fun e W' ⟨v, S', he, hg, _, _, hv, _⟩ => ?_
  subst he
  have h1 : ResR vs.toArray W' S' W.heap.size (.v (.tr (.bool true))) v := hv
  obtain ⟨_, h2⟩ := h1
  cases h2 with | tr _ _ h2 => cases h2 with | bool =>
  refine ⟨rfl, hg.os, hg.tape, hg.output, hg.size, fun k hk => hg.block k hk ?_⟩
  rintro ⟨j, x, u, hj, _⟩
  exact hno j x hj
theorem trodAll_stays {H : Type} {enc : TypeId × Value → H} {W W' : World} (hl : laidOutB P = true) (hb : Below W.heap.size W W') {sp : Nat → Bool} :
    ∀ {ts : List TypeId} {vs : List Value} {ds : List (DataW H)} {ps : List MemPlace}, (∀ t ∈ ts, P.readableRec t = true ∧ t < P.types.size) → DataW.TrodAll enc P W 0 (fun _ => true) true ts vs ds ps →
    (∀ x ∈ ps, x.block < W.heap.size) → (∀ p ∈ ps, sp p.block = true) → DataW.TrodAll enc P W' 0 sp true ts vs ds ps
  | [], vs, ds, ps, _, h, _, _ => by
    obtain ⟨rfl, rfl, rfl⟩ := trodAll_nil h
    exact trodAll_mk0
  | t :: ts, vs, ds, ps, hts, h, hlt, hsp => by
    obtain ⟨v, vs', d, ds', p, q, rfl, rfl, rfl, h1, h2⟩ := trodAll_cons h
    refine trodAll_cons_mk (WideElems.Trod_stays hl (hts t (by simp)).1 (hts t (by simp)).2 h1 (fun x hx => hb.same (hlt x (by simp [hx]))) (fun x hx => hsp x (by simp [hx])))
      (trodAll_stays hl hb (fun u hu => hts u (by simp [hu])) h2 (fun x hx => hlt x (by simp [hx])) (fun x hx => hsp x (by simp [hx])))
end
/-- The row's last step where the call only made memory and answered true. -/
theorem law_post {H : Type} {enc : TypeId × Value → H} {P : Program} {f : Func} {s : ChangeSpec} {W W' : World} {args : Array Value} {v : Value} {ds gs : List (DataW H)} {before p q : List MemPlace} {tb : TypeId}
    (hW : DataW.Whole enc P f.params.toList s.vars false W args.toList ds gs before) (hl : laidOutB P = true) (hts : ∀ t ∈ f.params.toList, P.readableRec t = true ∧ t < P.types.size)
    (hA : DataW.TrodAll enc P W 0 (fun _ => true) true f.params.toList args.toList ds p) (hq : q = []) (hbef : before = p ++ q) (hb : Below W.heap.size W W')
    (hr : f.resultTypes = #[tb]) (ht : P.underlying tb = some .bool) (hv : v = .bool true) (h1 : (s.fn H (ds ++ gs)).results = [.lit (.bool true)]) (h2 : (s.fn H (ds ++ gs)).args = ds)
    (hvars : ∀ sp : Nat → Bool, (∀ p ∈ before, sp p.block = true) → DataW.TrodVars enc P W' sp s.vars (s.fn H (ds ++ gs)).vars []) :
    s.post enc P f false true false false W args v W' := by
  have hlt : ∀ x ∈ before, x.block < W.heap.size := fun x hx => hW.lt x hx
  subst hv hq
  have hsp : ∀ x ∈ before, (fun b => decide (b < W.heap.size)) x.block = true := fun x hx => by simpa using hlt x hx
  refine ⟨ds, gs, before, [], p, [], hW, ?_, ?_, hvars _ hsp, hb.frame _, fun h => by cases h⟩
  · rw [h1, hr]
    exact trodAll_mk1 (shut_bool ht _)
  · rw [h2]
    exact trodAll_stays hl hb hts hA (fun x hx => hlt x (by rw [hbef]; simp [hx])) (fun x hx => hsp x (by rw [hbef]; simp [hx]))
end Go.Proofs.YtlbfeieehmpldaaDoor.Sh
