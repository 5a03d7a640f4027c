/- Library functions as typed calls: Clone, Trim, Grow; bounds on sizes alone. -/
import Derived.Test.YtdfkbjnbllmllaaDoorSB
import Derived.Shelf.SlicesE.Clone
import Derived.Shelf.Strings.SlTrimAscii
import Derived.Shelf.Spec.SlicesGrow
namespace Go.Proofs.YtdfkbjnbllmllaaDoor.Sh
open Go.RowKit Go.Shelf Go.Lib
variable {P : Program} {ρ : Ren}
set_option maxHeartbeats 2000000 in
set_option maxRecDepth 100000 in
/-- A clone of what lies at any address. -/
theorem clone_any (L : SlLaysE0.n41 P ρ) (i0 : TypeInfo) (z : Value) (size bytes : Nat) (hi : P.info? (ρ.t 23) = some i0) (hz0 : i0.zero = some z) (hz1 : i0.size = size) (hz2 : i0.bytes = bytes) (hzs : z.cells.size = size) (hsz : 0 < size)
    (z23 : ∀ w, (Go.sizeOf (ρ.t 23)).run P w = .ok size w) (a : Addr) (n c : Nat) (news : List Value) (w : World) (hl : news.length = n * size) (hn : n ≤ maxLen) (hbig : n * bytes ≤ 140737488355328)
    (hc : ∀ j u, news[j]? = some u → w.cell? (a.add j) = some u) (h1 : ∀ u ∈ news, u.oneCell' = true) :
    Calls P (ρ.f 41) #[.slice (some a) n c] w fun e w' => ∃ v', e = .returned v' ∧ w'.ownsRow w.heap.size (ρ.t 23) size v' n news ∧ Below w.heap.size w w' := by
  have mixed := L.mixed
  have t4 := L.t4
  have a4 := L.a4
  have z4 := L.z4
  have v4 := L.v4
  have t22 := L.t22
  have a22 := L.a22
  have z22 := L.z22
  have v22 := L.v22
  have q22 : ∀ (w : World) (a : Option Addr) (n c n' c' : Nat), (binOp .eql (ρ.t 22) (.slice a n c) (.slice none n' c')).run P w = .ok (.bool a.isNone) w := fun w a n c n' c' => Lib.run_eql_slice_nil w _ _ a n c n' c' L.t22
  have u22 : ∀ w, Sem.run P (underlying (ρ.t 22)) w = .ok (TypeDesc.slice (ρ.t 23)) w := run_underlying t22
  have A : Aside (∀ j u, news[j]? = some u → w.cell? (a.add j) = some u) := hc
  clear hc
  obtain ⟨_, _, FG⟩ := L.f41
  go_enter FG, SlBodyN.n41_ntmps ρ
  go_wp2_with (at_builtin; refine wpList_append_own _ rfl _ _ (ρ.t 22) rfl w.heap.size (ρ.t 23) i0 z size bytes t22 hi hz0 hz1 hz2 hzs hsz _ _ _ rfl (World.ownsRow_made w #[] 0 (Nat.le_refl _) (Nat.zero_le _) (by simp)) a n c news rfl ?k1 ?k2 ?k3 ?k4 ?k5 ?k6 ?_)
  case k1 => exact hl
  case k2 => exact fun j u hj => Lib.cell?_alloc_some _ (A.out j u hj)
  case k3 => exact h1
  case k4 => rw [Nat.zero_add]; exact hn
  case k5 => rw [Nat.zero_add]; exact hbig
  case k6 => simp
  intro v' w1 hown hgrow hnil
  go_wp2
  go_ret
  exact ⟨v', rfl, by simpa using hown, ((Below.refl _ w).alloc (Nat.le_refl _) _).grown hgrow (by simp) (by intro k hk; simp [Value.ownBlock] at hk; omega)⟩
theorem tv_cell1 {w : World} {S : Nat → Prop} {t : Tr} {v : Value} (h : TV w S t v) : v.oneCell' = true := by
  cases h <;> rfl
/-- The cells of a list of trees in a row. -/
theorem row_cells {w : World} {S : Nat → Prop} {es : List (List Tr)} {m : Nat} {u : Nat → Nat → Value} (hm : 0 < m) (he : ∀ e ∈ es, e.length = m) (_hu : ∀ (i : Nat) e (j : Nat) t, es[i]? = some e → e[j]? = some t → TV w S t (u i j)) :
    ∃ xs : List Value, xs.length = es.length * m ∧ ∀ (i : Nat) e (j : Nat) t, es[i]? = some e → e[j]? = some t → xs[i * m + j]? = some (u i j) := by
  refine ⟨(List.range (es.length * m)).map fun k => u (k / m) (k % m), by simp, fun i e j t hi hj => ?_⟩
  have h1 := (List.getElem?_eq_some_iff.1 hi).1
  have h2 := (List.getElem?_eq_some_iff.1 hj).1
  rw [he e (List.mem_of_getElem? hi)] at h2
  have h3 : (i + 1) * m ≤ es.length * m := Nat.mul_le_mul_right _ h1
  rw [Nat.add_mul, Nat.one_mul] at h3
  rw [List.getElem?_map, List.getElem?_range (by omega)]
  have e1 : (i * m + j) / m = i := by rw [Nat.mul_comm, Nat.mul_add_div hm]; simp [Nat.div_eq_of_lt h2]
  have e2 : (i * m + j) % m = j := by rw [Nat.mul_comm, Nat.mul_add_mod]; exact Nat.mod_eq_of_lt h2
  simp [e1, e2]
theorem clone_scall {α : Type} (f : α → List Tr) (L : SlLaysE0.n41 P ρ) (k e : Nat) (hk : ρ.f 41 = k) (ht : ρ.t 23 = e) (i0 : TypeInfo) (z : Value) (size bytes : Nat) (hi : P.info? e = some i0) (hz0 : i0.zero = some z) (hz1 : i0.size = size) (hz2 : i0.bytes = bytes) (hzs : z.cells.size = size) (hsz : 0 < size)
    (z23 : ∀ w, (Go.sizeOf e).run P w = .ok size w) (hm : ∀ x, (f x).length = size) (M : List α) (hbig : M.length * bytes ≤ 140737488355328) : SCall P k [.v (.tr (.sl M.length (M.map f)))] ⟨[.own e size M.length (M.map f)], [], true⟩ := by
  intro w S vs hn hS hv _ _ _
  subst ht
  subst hk
  have hvs : vs = #[vs.getD 0 undef] := by
    simp at hn
    apply Array.ext
    · simp [hn]
    · intro i h1 h2
      have : i = 0 := by omega
      subst this
      simp [Array.getD, h1]
  have h0 := hv 0 _ (vs.getD 0 undef) rfl (by
    simp at hn
    simp [Array.getD, hn])
  rw [hvs]
  generalize vs.getD 0 undef = v0 at h0 ⊢
  cases h0 with
  | tr _ _ h0 =>
    generalize hln : M.length = n at h0 hbig ⊢
    generalize hes : M.map f = es at h0 ⊢
    cases h0 with
    | sl es A n c m u hl hc hmx he hu ha =>
      have hmm : es ≠ [] → m = size := by
        intro hne
        obtain ⟨x, l, rfl⟩ := List.exists_cons_of_ne_nil hne
        have h1 := he x (by simp)
        have h2 : x ∈ M.map f := by rw [hes]; simp
        obtain ⟨y, _, rfl⟩ := List.mem_map.1 h2
        rw [← h1, hm]
      have hes2 : ∀ x ∈ es, x.length = size := by
        intro x hx
        rw [← hes] at hx
        obtain ⟨y, _, rfl⟩ := List.mem_map.1 hx
        exact hm y
      cases A with
      | none =>
        have h1 : es = [] := by
          rcases es with _ | ⟨x, l⟩
          · rfl
          · obtain ⟨b, o, h2, _⟩ := ha (by simp)
            cases h2
        subst h1
        have h2 : n = 0 := by simpa using hl.symm
        subst h2
        refine (AnyE.slices_Clone_nil L 0 c w).mono fun r w' h => ?_
        obtain ⟨rfl, rfl⟩ := h
        exact ⟨_, S, rfl, Grew.refl _ _, fun b hb => .inl ⟨rfl, hb⟩, hS, ⟨.arr _ size 0 [] _ [] rfl ⟨by simp, .inl ⟨rfl, rfl⟩⟩ (by simp) (fun i x j t u hi => by simp at hi), fun g hg => by simp [blkOf] at hg⟩, fun j x u hj => by simp at hj⟩
      | some a =>
        obtain ⟨xs, hx1, hx2⟩ := row_cells (w := w) (S := S) (es := es) (m := size) hsz hes2 (u := u) hu
        have hxs : ∀ q v, xs[q]? = some v → ∃ i e j t, es[i]? = some e ∧ e[j]? = some t ∧ q = i * size + j ∧ v = u i j := by
          intro q v hq
          have hql := (List.getElem?_eq_some_iff.1 hq).1
          rw [hx1] at hql
          have hi : q / size < es.length := Nat.div_lt_of_lt_mul (by rw [Nat.mul_comm]; exact hql)
          have hj : q % size < (es[q / size]).length := by rw [hes2 _ (List.getElem_mem hi)]; exact Nat.mod_lt _ hsz
          have h3 := hx2 (q / size) _ (q % size) _ (List.getElem?_eq_getElem hi) (List.getElem?_eq_getElem hj)
          have h4 : q / size * size + q % size = q := by rw [Nat.mul_comm]; exact Nat.div_add_mod q size
          rw [h4, hq] at h3
          injection h3 with h3
          exact ⟨_, _, _, _, List.getElem?_eq_getElem hi, List.getElem?_eq_getElem hj, h4.symm, h3⟩
        refine (clone_any L i0 z size bytes hi hz0 hz1 hz2 hzs hsz z23 a n c xs w (by rw [hx1, hl]) (by omega) hbig (fun q v hq => ?_) (fun v hv => ?_)).mono fun r w' h => ?_
        · obtain ⟨i, e, j, t, h1, h2, rfl, rfl⟩ := hxs q v hq
          have hne : es ≠ [] := by rintro rfl; simp at h1
          obtain ⟨b, o, h3, _, h5⟩ := ha hne
          injection h3 with h3
          subst h3
          have := hmm hne
          subst this
          rw [Addr.add_lit, ← Nat.add_assoc]
          exact h5 i e j t h1 h2
        · obtain ⟨q, hq⟩ := List.mem_iff_getElem?.1 hv
          obtain ⟨i, e, j, t, h1, h2, _, rfl⟩ := hxs q v hq
          exact tv_cell1 (hu i e j t h1 h2)
        · obtain ⟨v', rfl, hown, hb⟩ := h
          refine ⟨v', S, rfl, Grew.of_below hb _, fun b hb => .inl ⟨rfl, hb⟩, fun b hb2 => Nat.lt_of_lt_of_le (hS b hb2) hb.size, ⟨.arr _ size n es v' xs hl ⟨hown.1, ?_⟩ hes2 (fun i x j t q h1 h2 h3 => ?_), fun g hg => ?_⟩, fun j x u hj => by simp at hj⟩
          · rcases hown.2 with h | ⟨g, cap, cur, h3, h4, h5⟩
            · exact .inl h
            · exact .inr ⟨g, cap, cur, h3, Nat.zero_le _, h5⟩
          · rw [hx2 i x j t h1 h2] at h3
            injection h3 with h3
            subst h3
            exact (hu i x j t h1 h2).keep (fun b hb3 => hb.block b (hS b hb3)) fun b hb => hb
          · rcases hown.2 with ⟨h, _⟩ | ⟨g', cap, cur, h3, h4, h5⟩
            · subst h; simp [blkOf] at hg
            · subst h3
              simp [blkOf] at hg
              subst hg
              exact ⟨h4, fun h6 => absurd (hS _ h6) (by omega)⟩
end Go.Proofs.YtdfkbjnbllmllaaDoor.Sh
namespace Go.Proofs.YtdfkbjnbllmllaaDoor.Sh
open Go.RowKit Go.Shelf Go.Lib
def Tr.val : Tr → Value
  | .int k n => .int k n
  | .bool b => .bool b
  | .str s => .string s
  | .sl _ _ => undef
theorem tv_val {w : World} {S : Nat → Prop} {t : Tr} {v : Value} (h : TV w S t v) (hf : t.flat = true) : v = t.val := by
  cases h with
  | int => rfl
  | bool => rfl
  | str => rfl
  | sl => cases hf
def Tr.small : Tr → Prop
  | .str s => s.size ≤ maxLen
  | _ => True
theorem val_tv {w : World} {S : Nat → Prop} {t : Tr} (hf : t.flat = true) (hs : t.small) : TV w S t t.val := by
  cases t with
  | int k n => exact .int k n
  | bool b => exact .bool b
  | str s => exact .str s hs
  | sl => cases hf
theorem flat_args {w : World} {S : Nat → Prop} {ts : List Tr} (hf : ∀ t ∈ ts, t.flat = true) {vs : Array Value} (hn : vs.size = ts.length) (hv : ∀ (j : Nat) x v, (ts.map fun t => SIn.v (.tr t))[j]? = some (SIn.v x) → vs[j]? = some v → SVr w S bz x v) : vs = (ts.map Tr.val).toArray := by
  apply Array.ext
  · simp [hn]
  · intro i h1 h2
    have h3 : i < ts.length := by omega
    have h4 := hv i (.tr ts[i]) vs[i] (by simp [List.getElem?_eq_getElem h3]) (Array.getElem?_eq_getElem h1)
    cases h4 with
    | tr _ _ h4 =>
      rw [tv_val h4 (hf _ (List.getElem_mem h3))]
      simp
/-- A call that takes flat values and gives one. -/
theorem scall_flat {P : Program} {k : FuncId} (ts : List Tr) (hf : ∀ t ∈ ts, t.flat = true) (r : Tr) (hr : r.flat = true) (hs : r.small) (h : ∀ w, Calls P k (ts.map Tr.val).toArray w fun e w' => e = .returned r.val ∧ Below w.heap.size w w') : SCall P k (ts.map fun t => SIn.v (.tr t)) ⟨[.v (.tr r)], [], false⟩ := by
  intro w S vs hn hS hv _ _ _
  rw [flat_args hf (by simpa using hn) hv]
  refine (h w).mono fun e w' h => ?_
  obtain ⟨rfl, hb⟩ := h
  exact ⟨_, fun _ => False, rfl, Grew.of_below hb _, fun b hb => hb.elim, fun b hb => hb.elim, ⟨rfl, .tr _ _ (val_tv hr hs)⟩, fun j x u hj => by simp at hj⟩
/-- A call that takes flat values and gives several. -/
theorem scall_flats {P : Program} {k : FuncId} (ts : List Tr) (hf : ∀ t ∈ ts, t.flat = true) (r r' : Tr) (rs : List Tr) (hr : ∀ t ∈ r :: r' :: rs, t.flat = true) (hs : ∀ t ∈ r :: r' :: rs, t.small) (h : ∀ w, Calls P k (ts.map Tr.val).toArray w fun e w' => e = .returned (.tuple ((r :: r' :: rs).map Tr.val).toArray) ∧ Below w.heap.size w w') : SCall P k (ts.map fun t => SIn.v (.tr t)) ⟨(r :: r' :: rs).map fun t => SR.v (.tr t), [], false⟩ := by
  intro w S vs hn hS hv _ _ _
  rw [flat_args hf (by simpa using hn) hv]
  refine (h w).mono fun e w' h => ?_
  obtain ⟨rfl, hb⟩ := h
  refine ⟨_, fun _ => False, rfl, Grew.of_below hb _, fun b hb => hb.elim, fun b hb => hb.elim, ⟨_, rfl, by simp, fun i q u hq hu => ?_⟩, fun j x u hj => by simp at hj⟩
  generalize hrs : r :: r' :: rs = ls at hr hs hu
  have hq : (ls.map fun t => SR.v (.tr t))[i]? = some q := by rw [← hrs]; exact hq
  rw [List.getElem?_map, Option.map_eq_some_iff] at hq
  obtain ⟨t, ht, rfl⟩ := hq
  have hu2 : u = t.val := by
    rw [List.getElem?_toArray, List.getElem?_map, ht] at hu
    simpa using hu.symm
  subst hu2
  exact ⟨rfl, .tr _ _ (val_tv (hr _ (List.mem_of_getElem? ht)) (hs _ (List.mem_of_getElem? ht)))⟩
/-- strings.Trim at a cutset of ASCII letters. -/
def strings_Trim (s c : ByteArray) : Option ByteArray := bif c.data.toList.all (fun b => decide (b.toNat < 128)) && (decide (c.size ≤ 1000) && decide (s.size ≤ maxLen)) then some ⟨(trimS s.data.toList c.data.toList).toArray⟩ else none
theorem trim_size (l c : List UInt8) : (trimS l c).length ≤ l.length := by
  have hd : ∀ (p : UInt8 → Bool) (l : List UInt8), (l.dropWhile p).length ≤ l.length := fun p l => List.Sublist.length_le (List.dropWhile_sublist p)
  unfold trimS trimRightS trimLeftS
  have h1 := hd (fun b => c.contains b) l.reverse
  have h2 := hd (fun b => c.contains b) ((l.reverse.dropWhile (fun b => c.contains b)).reverse)
  simp only [List.length_reverse] at h1 h2 ⊢
  omega
theorem trim_run {P : Program} {ρ : Ren} (L : Lays.n160 P ρ) (h116 : (P.info? (ρ.t 116)).map (fun i => (i.zero, i.size)) = some (some (.agg (Array.replicate 256 (.bool false))), 256)) (k : FuncId) (hk : ρ.f 160 = k) (s c r : ByteArray) (h : strings_Trim s c = some r) : SCall P k [.v (.tr (.str s)), .v (.tr (.str c))] ⟨[.v (.tr (.str r))], [], false⟩ := by
  unfold strings_Trim at h
  cases hb : (c.data.toList.all (fun b => decide (b.toNat < 128)) && (decide (c.size ≤ 1000) && decide (s.size ≤ maxLen)))
  · rw [hb] at h; cases h
  · rw [hb] at h
    injection h with h
    subst h
    simp only [Bool.and_eq_true, decide_eq_true_eq] at hb
    obtain ⟨h1, h2, h3⟩ := hb
    subst hk
    refine scall_flat [.str s, .str c] (by simp [Tr.flat]) _ rfl ?_ fun w => Any.strings_Trim_laid L h116 s c w (by unfold maxLen at h3; omega) (by omega) (ascii_of_all h1)
    show (List.toArray _).size ≤ maxLen
    rw [List.size_toArray]
    have := trim_size s.data.toList c.data.toList
    have h4 : s.data.toList.length = s.size := by rw [Array.length_toList]; rfl
    omega
end Go.Proofs.YtdfkbjnbllmllaaDoor.Sh
namespace Go.Proofs.YtdfkbjnbllmllaaDoor.Sh
open Go.RowKit Go.Shelf Go.Lib
section
variable {P : Program} {tb : Tb} {c : Cx} {S : Nat → Prop} {β : Nat → Value} {σ ν : SS} {a : Act} {w : World}
def SCallV (P : Program) (f : FuncId) (ins : List SIn) (res : SRes) (V : Array Value → Prop) : Prop :=
  ∀ (w : World) (S : Nat → Prop) (vs : Array Value), vs.size = ins.length → (∀ b, S b → b < w.heap.size) →
    (∀ (j : Nat) x v, ins[j]? = some (SIn.v x) → vs[j]? = some v → SVr w S bz x v) →
    (∀ (j : Nat) x v, ins[j]? = some (SIn.o x) → vs[j]? = some v → v.cells = #[v] ∧ ObjR w S bz x v ∧ ∀ g, x.foot w v g → ¬ S g) →
    (∀ (i j : Nat) x y u v (g : Nat), ins[i]? = some (SIn.o x) → ins[j]? = some (SIn.o y) → vs[i]? = some u → vs[j]? = some v → x.foot w u g → y.foot w v g → i = j) → V vs →
    Calls P f vs w fun e w' => ∃ v S', e = .returned v ∧ Grew (fun g => ∃ (j : Nat) (x : SO) (u : Value), ins[j]? = some (SIn.o x) ∧ vs[j]? = some u ∧ x.foot w u g) w w' ∧
      (∀ b, S' b → (res.dep = true ∧ S b) ∨ w.heap.size ≤ b) ∧ (∀ b, S' b → b < w'.heap.size) ∧ ValsR (ResR w' S' w.heap.size) res.outs v ∧
      ∀ (j : Nat) x u, (j, x) ∈ res.objs → vs[j]? = some u → ObjR w' (fun b => S b ∨ S' b) bz x u ∧ ∀ g, x.foot w' u g → ¬ S' g ∧ ∃ (j : Nat) (x0 : SO) (u0 : Value), ins[j]? = some (SIn.o x0) ∧ vs[j]? = some u0 ∧ x0.foot w u0 g
/-- A call some of whose arguments are known as they are. -/
theorem lstep_callV (V : Array Value → Prop) {ops : Array Oper} {o : Oper} {fo : Operand} {args : Array Operand} {ts : Array TypeId} (ho : o.op = .call { callee := .value fo, args := args, argTypes := ts }) (hgd : gd ops ν o = some true) (hok : okd ν o = true)
    {f : FuncId} {caps xs ys : List SV} (hfo : ev ν fo = some (.clo f caps)) (hxs : evL ν args.toList = some xs) (hro : ro2L ν (xs ++ caps) = some ys) (he : Ents P f) {res : SRes} (hc : SCallV P f (ys.map .v) res V) (hV : ∀ (a : Act) (vs : Array Value), V (args.map a.eval ++ vs)) (_hobj : res.objs = [])
    (hdep : res.dep = true → SV.names.namesL (xs ++ caps) = []) {x : SV} {y : Option SO} (hret : retS (o.dst.getD 0) res.outs = some (x, y)) : LStep P ops o ν (some (x, y)) := by
  intro σ cx a w hs hf ⟨S, β, hr⟩
  have hν := hs.rel hr
  unfold OpDo
  rw [gd_ok hν hgd, if_pos rfl]
  let Sc : Nat → Prop := fun b => S b ∨ (res.dep = false ∧ ∃ d x, (d, x) ∈ ν.o ∧ x.foot w (β d) b)
  have hSc : ∀ b, S b → Sc b := fun b hb => .inl hb
  have hT : Thru w Sc β ν (SV.names.namesL (xs ++ caps)) := by
    intro d hd z hz
    have hdep' : res.dep = false := by
      cases hb : res.dep with
      | false => rfl
      | true =>
        rw [hdep hb] at hd
        cases hd
    exact ⟨fun g hg => .inr ⟨hdep', d, z, hz, hg⟩, fun k _ y hy g hg => .inr ⟨hdep', k, y, hy, hg⟩⟩
  obtain ⟨h1, h2, h3⟩ := ro2L_ok hν hSc hro hT
  obtain ⟨h4, h5⟩ := evL_ok hν hxs
  have hfv := ev_ok hν hfo
  generalize hfe : a.eval fo = fv at hfv
  cases hfv with
  | clo f caps vs hvl hvh =>
    have hrun : (execOp a.eval o).run P w = .ok (.enter f (args.map a.eval ++ vs)) w := by
      simp only [execOp, ho, resolve, hfe, Deferred.ofValue, Sem.run_bind, Sem.run_pure, Result.andThen_ok, invoke]
      rw [show (#[] : Array Value) ++ args.map a.eval = args.map a.eval from by simp]
      exact he _ _
    have hlen : xs.length = args.size := by simpa using h4
    have hcall := hc w Sc (args.map a.eval ++ vs) (by simp; simp at h1; omega) (fun b hb => by
        rcases hb with hb | ⟨_, d, z, hz, hg⟩
        · exact hr.lt b hb
        · exact (hν.obj d z hz).lt hg) (fun j z v hj hv => by
        rw [List.getElem?_map, Option.map_eq_some_iff] at hj
        obtain ⟨q, hq, hj⟩ := hj
        injection hj with hj
        subst hj
        have hjl := (List.getElem?_eq_some_iff.1 hq).1
        have hx : (xs ++ caps)[j]? = some ((xs ++ caps)[j]'(by omega)) := List.getElem?_eq_getElem _
        refine h3 j _ q v hx hq ?_
        generalize (xs ++ caps)[j]'(by omega) = p at hx
        by_cases hlt : j < xs.length
        · rw [List.getElem?_append_left hlt] at hx
          rw [Array.getElem?_append_left (by simp; omega), Array.getElem?_map, Option.map_eq_some_iff] at hv
          obtain ⟨op, hop, rfl⟩ := hv
          exact h5 j op p (by simpa using hop) hx
        · rw [List.getElem?_append_right (by omega)] at hx
          rw [Array.getElem?_append_right (by simp; omega)] at hv
          refine hvh (j - xs.length) p v hx ?_
          simpa [hlen] using hv) (fun j z v hj => by
        rw [List.getElem?_map, Option.map_eq_some_iff] at hj
        obtain ⟨q, _, hj⟩ := hj
        cases hj) (fun i j z z' u v g hi => by
        rw [List.getElem?_map, Option.map_eq_some_iff] at hi
        obtain ⟨q, _, hi⟩ := hi
        cases hi) (hV a vs)
    unfold Oper.wp
    rw [hrun]
    refine hcall.mono fun e w' ⟨v, S', he', hg, hS1, hS2, hv, _⟩ => ?_
    subst he'
    refine Rel.result hr (by unfold okd at *; rwa [← hs.n]) (d := o.dst.getD 0) (fun k hk => by rw [hk]; rfl) ⟨hg.os, hg.tape, hg.output, hg.size, fun k hk _ => hg.block k hk ?_⟩ (fun b hb => ?_) hS2 hret hf hv
    · rintro ⟨j, z, u, hj, _⟩
      rw [List.getElem?_map, Option.map_eq_some_iff] at hj
      obtain ⟨q, _, hj⟩ := hj
      cases hj
    · rcases hS1 b hb with ⟨h6, h7⟩ | h6
      · rcases h7 with h7 | ⟨h8, _⟩
        · exact .inl h7
        · rw [h6] at h8
          cases h8
      · exact .inr h6
end
theorem alloc_new (w : World) (o : Obj) : (w.alloc o).heap[w.heap.size]? = some o := by
  show (w.heap.push o)[w.heap.size]? = _
  simp
/-- The bound on what Grow is asked for. -/
def grow' (n : Int) : Option Unit := bif decide (0 ≤ n) && decide (n ≤ 68719476736) then some () else none
/-- The first argument is nil. -/
def nil0 (vs : Array Value) : Prop := vs[0]? = some (.slice none 0 0)
theorem nil0_of {args : Array Operand} (h : args[0]? = some (.const (.slice none 0 0))) (a : Act) (vs : Array Value) : nil0 (args.map a.eval ++ vs) := by
  unfold nil0
  have h1 := (Array.getElem?_eq_some_iff.1 h).1
  rw [Array.getElem?_append_left (by simpa using h1), Array.getElem?_map, h]
  rfl
/-- Grow of nil: an empty slice of its own. -/
theorem grow_nil {P : Program} {ρ : Ren} {α : Type} (f : α → List Tr) (L : Lays8.n4 P ρ) (k e : Nat) (hk : ρ.f 4 = k) (ht : ρ.t 25 = e) (i0 : TypeInfo) (z : Value) (size : Nat) (hi : P.info? e = some i0) (hz0 : i0.zero = some z) (hz1 : i0.size = size) (hby : Nat.ble i0.bytes 2048 = true) (hzs : z.cells.size = size) (hsz : 0 < size)
    (n : Int) (q : Unit) (hn : grow' n = some q) (M : List α) (hM : M = []) : SCallV P k ([.tr (.sl 0 []), .tr (.int .i64 n)].map .v) ⟨[.own e size M.length (M.map f)], [], true⟩ nil0 := by
  intro w S vs hs hS hv _ _ hV
  unfold nil0 at hV
  subst hM hk ht
  unfold grow' at hn
  have hn2 : 0 ≤ n ∧ n ≤ 68719476736 := by
    cases hb : decide (0 ≤ n) && decide (n ≤ 68719476736)
    · rw [hb] at hn; cases hn
    · simpa using hb
  obtain ⟨m, rfl⟩ := Int.eq_ofNat_of_zero_le hn2.1
  have h0 : vs = #[.slice none 0 0, .int .i64 (m : Int)] := by
    simp at hs
    have h1 : ∃ v, vs[1]? = some v := ⟨vs[1]'(by omega), Array.getElem?_eq_getElem _⟩
    obtain ⟨v, h1⟩ := h1
    have h2 := hv 1 _ v rfl h1
    have h3 : v = .int .i64 (m : Int) := by
      cases h2 with
      | tr _ _ h2 => cases h2; rfl
    subst h3
    apply Array.ext
    · simp [hs]
    · intro i hi1 hi2
      have : i = 0 ∨ i = 1 := by omega
      rcases this with rfl | rfl
      · rw [Array.getElem?_eq_getElem hi1] at hV
        injection hV
      · rw [Array.getElem?_eq_getElem hi1] at h1
        injection h1
  subst h0
  have fin : ∀ (w' : World) (v : Value), Below w.heap.size w w' → w'.ownsRow w.heap.size (ρ.t 25) size v 0 [] → ∃ v' S', Ending.returned v = .returned v' ∧ Grew (fun g => ∃ (j : Nat) (x : SO) (u : Value), ([.v (.tr (.sl 0 [])), .v (.tr (.int .i64 (m : Int)))] : List SIn)[j]? = some (SIn.o x) ∧ (#[.slice none 0 0, .int .i64 (m : Int)] : Array Value)[j]? = some u ∧ x.foot w u g) w w' ∧ (∀ b, S' b → (true = true ∧ S b) ∨ w.heap.size ≤ b) ∧ (∀ b, S' b → b < w'.heap.size) ∧ ValsR (ResR w' S' w.heap.size) [.own (ρ.t 25) size ([] : List α).length (([] : List α).map f)] v' ∧ ∀ (j : Nat) (x : SO) u, (j, x) ∈ ([] : List (Nat × SO)) → (#[.slice none 0 0, .int .i64 (m : Int)] : Array Value)[j]? = some u → ObjR w' (fun b => S b ∨ S' b) bz x u ∧ ∀ g, x.foot w' u g → ¬ S' g ∧ ∃ (j : Nat) (x0 : SO) (u0 : Value), ([.v (.tr (.sl 0 [])), .v (.tr (.int .i64 (m : Int)))] : List SIn)[j]? = some (SIn.o x0) ∧ (#[.slice none 0 0, .int .i64 (m : Int)] : Array Value)[j]? = some u0 ∧ x0.foot w u0 g := by
    intro w' v hb hown
    refine ⟨v, fun _ => False, rfl, Grew.of_below hb _, fun b hb => hb.elim, fun b hb => hb.elim, ⟨.arr _ size 0 [] v [] rfl ⟨hown.1, ?_⟩ (by simp) (fun i x j t q h1 => by simp at h1), fun g hg => ?_⟩, fun j x u hj => by simp at hj⟩
    · rcases hown.2 with h | ⟨g, cap, cur, h3, h4, h5⟩
      · exact .inl h
      · exact .inr ⟨g, cap, cur, h3, Nat.zero_le _, h5⟩
    · rcases hown.2 with ⟨h, _⟩ | ⟨g', cap, cur, h3, h4, h5⟩
      · subst h; simp [blkOf] at hg
      · subst h3
        simp [blkOf] at hg
        subst hg
        exact ⟨h4, fun h => h⟩
  by_cases hm : m = 0
  · subst hm
    refine (Any8.slices_Grow_room L none 0 0 0 w (Nat.le_refl _) (by omega) (by omega) (by omega)).mono fun r w' h => ?_
    obtain ⟨rfl, rfl⟩ := h
    exact fin _ _ (Below.refl _ _) ⟨by simp, .inl ⟨rfl, rfl⟩⟩
  · have hbz : i0.bytes ≤ 2048 := Nat.le_of_ble_eq_true hby
    have hbig : (0 + m) * i0.bytes ≤ 140737488355328 := by
      have h1 : (0 + m) * i0.bytes ≤ 68719476736 * 2048 := Nat.mul_le_mul (by omega) hbz
      omega
    refine (Any8.slices_Grow_grow L i0 z hi hz0 (by omega) none 0 0 m [] w (Nat.le_refl _) (by omega) hbig (by omega) (by simp) (fun _ => rfl) (fun a h => by cases h)).mono fun r w' h => ?_
    obtain ⟨rfl, rfl⟩ := h
    refine fin _ _ (((Below.refl _ w).drew).alloc (Nat.le_refl _) _) ⟨by simp, .inr ⟨w.heap.size, grownCap w (0 + m) 0 (ρ.t 25), _, rfl, Nat.le_refl _, alloc_new w.drew _, Nat.zero_le _, ?_, ?_, by simp⟩⟩
    · exact grownCap_le_maxLen w _ _ _ (by unfold maxLen; omega)
    · have h1 : 0 + m ≤ grownCap w (0 + m) 0 (ρ.t 25) := grownCap_ge w _ _ _
      simp only [Array.size_append, List.size_toArray, List.length_nil]
      have hzc : ∀ k, (Builtin.zeroCells z.cells k).size = k * size := by
        intro k
        first
        | rw [Builtin.size_zeroCells, hzs]
        | simp [Builtin.zeroCells, hzs]
      rw [hzc, hzc, Nat.zero_add, ← Nat.add_mul]
      congr 1
      omega
end Go.Proofs.YtdfkbjnbllmllaaDoor.Sh
