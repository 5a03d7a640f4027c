/- Library functions as typed calls: Clone, Trim, Grow; bounds on sizes alone. -/
import Derived.Test.YtppehghiiahabaaGreatDoorSB
import Derived.Shelf.SlicesE.Clone
import Derived.Shelf.Strings.SlTrimAscii
import Derived.Shelf.Spec.SlicesGrow
namespace Go.Proofs.YtppehghiiahabaaGreatDoor.Sh
open Go.RowKit Go.Shelf Go.Lib
variable {P : Program} {ρ : Ren}
end Go.Proofs.YtppehghiiahabaaGreatDoor.Sh
namespace Go.Proofs.YtppehghiiahabaaGreatDoor.Sh
open Go.RowKit Go.Shelf Go.Lib
def Tr.val : Tr → Value
  | .int k n => .int k n
  | .bool b => .bool b
  | .str s => .string s
  | .sl _ _ => undef
  | .nil => .slice none 0 0
  | .nilf => .nilFunc
theorem tv_val {w : World} {S : Nat → Prop} {t : Tr} {v : Value} (h : TV w S t v) (hf : t.flat = true) : v = t.val := by
  cases h with
  | int => rfl
  | bool => rfl
  | str => rfl
  | sl => cases hf
  | nil => rfl
  | nilf => rfl
def Tr.small : Tr → Prop
  | .str s => s.size ≤ maxLen
  | _ => True
theorem val_tv {w : World} {S : Nat → Prop} {t : Tr} (hf : t.flat = true) (hs : t.small) : TV w S t t.val := by
  cases t with
  | int k n => exact .int k n
  | bool b => exact .bool b
  | str s => exact .str s hs
  | sl => cases hf
  | nil => exact .nil
  | nilf => exact .nilf
theorem flat_args {w : World} {S : Nat → Prop} {ts : List Tr} (hf : ∀ t ∈ ts, t.flat = true) {vs : Array Value} (hn : vs.size = ts.length) (hv : ∀ (j : Nat) x v, (ts.map fun t => SIn.v (.tr t))[j]? = some (SIn.v x) → vs[j]? = some v → SVr w S bz x v) : vs = (ts.map Tr.val).toArray := by
  apply Array.ext
  · simp [hn]
  · intro i h1 h2
    have h3 : i < ts.length := by omega
    have h4 := hv i (.tr ts[i]) vs[i] (by simp [List.getElem?_eq_getElem h3]) (Array.getElem?_eq_getElem h1)
    cases h4 with
    | tr _ _ h4 =>
      rw [tv_val h4 (hf _ (List.getElem_mem h3))]
      simp
/-- A call that takes flat values and gives one. -/
theorem scall_flat {P : Program} {k : FuncId} (ts : List Tr) (hf : ∀ t ∈ ts, t.flat = true) (r : Tr) (hr : r.flat = true) (hs : r.small) (h : ∀ w, Calls P k (ts.map Tr.val).toArray w fun e w' => e = .returned r.val ∧ Below w.heap.size w w') : SCall P k (ts.map fun t => SIn.v (.tr t)) ⟨[.v (.tr r)], [], false⟩ := by
  intro w S vs hn hS hv _ _ _
  rw [flat_args hf (by simpa using hn) hv]
  refine (h w).mono fun e w' h => ?_
  obtain ⟨rfl, hb⟩ := h
  exact ⟨_, fun _ => False, rfl, Grew.of_below hb _, fun b hb => hb.elim, fun b hb => hb.elim, ⟨rfl, .tr _ _ (val_tv hr hs)⟩, fun j x u hj => by simp at hj⟩
/-- strings.Trim at a cutset of ASCII letters. -/
def strings_Trim (s c : ByteArray) : Option ByteArray := bif c.data.toList.all (fun b => decide (b.toNat < 128)) && (decide (c.size ≤ 1000) && decide (s.size ≤ maxLen)) then some ⟨(trimS s.data.toList c.data.toList).toArray⟩ else none
theorem trim_size (l c : List UInt8) : (trimS l c).length ≤ l.length := by
  have hd : ∀ (p : UInt8 → Bool) (l : List UInt8), (l.dropWhile p).length ≤ l.length := fun p l => List.Sublist.length_le (List.dropWhile_sublist p)
  unfold trimS trimRightS trimLeftS
  have h1 := hd (fun b => c.contains b) l.reverse
  have h2 := hd (fun b => c.contains b) ((l.reverse.dropWhile (fun b => c.contains b)).reverse)
  simp only [List.length_reverse] at h1 h2 ⊢
  omega
theorem trim_run {P : Program} {ρ : Ren} (L : Lays.n160 P ρ) (h116 : (P.info? (ρ.t 116)).map (fun i => (i.zero, i.size)) = some (some (.agg (Array.replicate 256 (.bool false))), 256)) (k : FuncId) (hk : ρ.f 160 = k) (s c r : ByteArray) (h : strings_Trim s c = some r) : SCall P k [.v (.tr (.str s)), .v (.tr (.str c))] ⟨[.v (.tr (.str r))], [], false⟩ := by
  unfold strings_Trim at h
  cases hb : (c.data.toList.all (fun b => decide (b.toNat < 128)) && (decide (c.size ≤ 1000) && decide (s.size ≤ maxLen)))
  · rw [hb] at h; cases h
  · rw [hb] at h
    injection h with h
    subst h
    simp only [Bool.and_eq_true, decide_eq_true_eq] at hb
    obtain ⟨h1, h2, h3⟩ := hb
    subst hk
    refine scall_flat [.str s, .str c] (by simp [Tr.flat]) _ rfl ?_ fun w => Any.strings_Trim_laid L h116 s c w (by unfold maxLen at h3; omega) (by omega) (ascii_of_all h1)
    show (List.toArray _).size ≤ maxLen
    rw [List.size_toArray]
    have := trim_size s.data.toList c.data.toList
    have h4 : s.data.toList.length = s.size := by rw [Array.length_toList]; rfl
    omega
end Go.Proofs.YtppehghiiahabaaGreatDoor.Sh
namespace Go.Proofs.YtppehghiiahabaaGreatDoor.Sh
open Go.RowKit Go.Shelf Go.Lib
section
variable {P : Program} {tb : Tb} {c : Cx} {S : Nat → Prop} {β : Nat → Value} {σ ν : SS} {a : Act} {w : World}
def SCallV (P : Program) (f : FuncId) (ins : List SIn) (res : SRes) (V : Array Value → Prop) : Prop :=
  ∀ (w : World) (S : Nat → Prop) (vs : Array Value), vs.size = ins.length → (∀ b, S b → b < w.heap.size) →
    (∀ (j : Nat) x v, ins[j]? = some (SIn.v x) → vs[j]? = some v → SVr w S bz x v) →
    (∀ (j : Nat) x v, ins[j]? = some (SIn.o x) → vs[j]? = some v → v.cells = #[v] ∧ ObjR w S bz x v ∧ ∀ g, x.foot w v g → ¬ S g) →
    (∀ (i j : Nat) x y u v (g : Nat), ins[i]? = some (SIn.o x) → ins[j]? = some (SIn.o y) → vs[i]? = some u → vs[j]? = some v → x.foot w u g → y.foot w v g → i = j) → V vs →
    Calls P f vs w fun e w' => ∃ v S', e = .returned v ∧ Grew (fun g => ∃ (j : Nat) (x : SO) (u : Value), ins[j]? = some (SIn.o x) ∧ vs[j]? = some u ∧ x.foot w u g) w w' ∧
      (∀ b, S' b → (res.dep = true ∧ S b) ∨ w.heap.size ≤ b) ∧ (∀ b, S' b → b < w'.heap.size) ∧ ValsR (ResR vs w' S' w.heap.size) res.outs v ∧
      ∀ (j : Nat) x u, (j, x) ∈ res.objs → vs[j]? = some u → ObjR w' (fun b => S b ∨ S' b) bz x u ∧ ∀ g, x.foot w' u g → ¬ S' g ∧ ∃ (j : Nat) (x0 : SO) (u0 : Value), ins[j]? = some (SIn.o x0) ∧ vs[j]? = some u0 ∧ x0.foot w u0 g
/-- A call some of whose arguments are known as they are. -/
theorem lstep_callV (V : Array Value → Prop) {ops : Array Oper} {o : Oper} {fo : Operand} {args : Array Operand} {ts : Array TypeId} (ho : o.op = .call { callee := .value fo, args := args, argTypes := ts }) (hgd : gd ops ν o = some true) (hok : okd ν o = true)
    {f : FuncId} {caps xs ys : List SV} (hfo : ev ν fo = some (.clo f caps)) (hxs : evL ν args.toList = some xs) (hro : ro2L ν (xs ++ caps) = some ys) (he : Ents P f) {res : SRes} (hc : SCallV P f (ys.map .v) res V) (hV : ∀ (a : Act) (vs : Array Value), V (args.map a.eval ++ vs)) (_hobj : res.objs = [])
    (hdep : res.dep = true → SV.names.namesL (xs ++ caps) = []) {x : SV} {y : Option SO} (hret : retS (o.dst.getD 0) res.outs = some (x, y)) : LStep P ops o ν (some (x, y)) := by
  intro σ cx a w hs hf ⟨S, β, hr⟩
  have hν := hs.rel hr
  unfold OpDo
  rw [gd_ok hν hgd, if_pos rfl]
  let Sc : Nat → Prop := fun b => S b ∨ (res.dep = false ∧ ∃ d x, (d, x) ∈ ν.o ∧ x.foot w (β d) b)
  have hSc : ∀ b, S b → Sc b := fun b hb => .inl hb
  have hT : Thru w Sc β ν (SV.names.namesL (xs ++ caps)) := by
    intro d hd z hz
    have hdep' : res.dep = false := by
      cases hb : res.dep with
      | false => rfl
      | true =>
        rw [hdep hb] at hd
        cases hd
    exact ⟨fun g hg => .inr ⟨hdep', d, z, hz, hg⟩, fun k _ y hy g hg => .inr ⟨hdep', k, y, hy, hg⟩⟩
  obtain ⟨h1, h2, h3⟩ := ro2L_ok hν hSc hro hT
  obtain ⟨h4, h5⟩ := evL_ok hν hxs
  have hfv := ev_ok hν hfo
  generalize hfe : a.eval fo = fv at hfv
  cases hfv with
  | clo f caps vs hvl hvh =>
    have hrun : (execOp a.eval o).run P w = .ok (.enter f (args.map a.eval ++ vs)) w := by
      simp only [execOp, ho, resolve, hfe, Deferred.ofValue, Sem.run_bind, Sem.run_pure, Result.andThen_ok, invoke]
      rw [show (#[] : Array Value) ++ args.map a.eval = args.map a.eval from by simp]
      exact he _ _
    have hlen : xs.length = args.size := by simpa using h4
    have hcall := hc w Sc (args.map a.eval ++ vs) (by simp; simp at h1; omega) (fun b hb => by
        rcases hb with hb | ⟨_, d, z, hz, hg⟩
        · exact hr.lt b hb
        · exact (hν.obj d z hz).lt hg) (fun j z v hj hv => by
        rw [List.getElem?_map, Option.map_eq_some_iff] at hj
        obtain ⟨q, hq, hj⟩ := hj
        injection hj with hj
        subst hj
        have hjl := (List.getElem?_eq_some_iff.1 hq).1
        have hx : (xs ++ caps)[j]? = some ((xs ++ caps)[j]'(by omega)) := List.getElem?_eq_getElem _
        refine h3 j _ q v hx hq ?_
        generalize (xs ++ caps)[j]'(by omega) = p at hx
        by_cases hlt : j < xs.length
        · rw [List.getElem?_append_left hlt] at hx
          rw [Array.getElem?_append_left (by simp; omega), Array.getElem?_map, Option.map_eq_some_iff] at hv
          obtain ⟨op, hop, rfl⟩ := hv
          exact h5 j op p (by simpa using hop) hx
        · rw [List.getElem?_append_right (by omega)] at hx
          rw [Array.getElem?_append_right (by simp; omega)] at hv
          refine hvh (j - xs.length) p v hx ?_
          simpa [hlen] using hv) (fun j z v hj => by
        rw [List.getElem?_map, Option.map_eq_some_iff] at hj
        obtain ⟨q, _, hj⟩ := hj
        cases hj) (fun i j z z' u v g hi => by
        rw [List.getElem?_map, Option.map_eq_some_iff] at hi
        obtain ⟨q, _, hi⟩ := hi
        cases hi) (hV a vs)
    unfold Oper.wp
    rw [hrun]
    refine hcall.mono fun e w' ⟨v, S', he', hg, hS1, hS2, hv, _⟩ => ?_
    subst he'
    refine Rel.result hr (by unfold okd at *; rwa [← hs.n]) (d := o.dst.getD 0) (fun k hk => by rw [hk]; rfl) ⟨hg.os, hg.tape, hg.output, hg.size, fun k hk _ => hg.block k hk ?_⟩ (fun b hb => ?_) hS2 hret hf hv
    · rintro ⟨j, z, u, hj, _⟩
      rw [List.getElem?_map, Option.map_eq_some_iff] at hj
      obtain ⟨q, _, hj⟩ := hj
      cases hj
    · rcases hS1 b hb with ⟨h6, h7⟩ | h6
      · rcases h7 with h7 | ⟨h8, _⟩
        · exact .inl h7
        · rw [h6] at h8
          cases h8
      · exact .inr h6
end
theorem alloc_new (w : World) (o : Obj) : (w.alloc o).heap[w.heap.size]? = some o := by
  show (w.heap.push o)[w.heap.size]? = _
  simp
/-- The bound on what Grow is asked for. -/
def grow' (n : Int) : Option Unit := bif decide (0 ≤ n) && decide (n ≤ 68719476736) then some () else none
/-- The first argument is nil. -/
def nil0 (vs : Array Value) : Prop := vs[0]? = some (.slice none 0 0)
theorem nil0_of {args : Array Operand} (h : args[0]? = some (.const (.slice none 0 0))) (a : Act) (vs : Array Value) : nil0 (args.map a.eval ++ vs) := by
  unfold nil0
  have h1 := (Array.getElem?_eq_some_iff.1 h).1
  rw [Array.getElem?_append_left (by simpa using h1), Array.getElem?_map, h]
  rfl
/-- Grow of nil: an empty slice of its own. -/
theorem grow_nil {P : Program} {ρ : Ren} {α : Type} (f : α → List Tr) (L : Lays8.n4 P ρ) (k e : Nat) (hk : ρ.f 4 = k) (ht : ρ.t 25 = e) (i0 : TypeInfo) (z : Value) (size : Nat) (hi : P.info? e = some i0) (hz0 : i0.zero = some z) (hz1 : i0.size = size) (hby : Nat.ble i0.bytes 2048 = true) (hzs : z.cells.size = size) (hsz : 0 < size)
    (n : Int) (q : Unit) (hn : grow' n = some q) (M : List α) (hM : M = []) : SCallV P k ([.tr (.sl 0 []), .tr (.int .i64 n)].map .v) ⟨[.own e size M.length (M.map f)], [], true⟩ nil0 := by
  intro w S vs hs hS hv _ _ hV
  unfold nil0 at hV
  subst hM hk ht
  unfold grow' at hn
  have hn2 : 0 ≤ n ∧ n ≤ 68719476736 := by
    cases hb : decide (0 ≤ n) && decide (n ≤ 68719476736)
    · rw [hb] at hn; cases hn
    · simpa using hb
  obtain ⟨m, rfl⟩ := Int.eq_ofNat_of_zero_le hn2.1
  have h0 : vs = #[.slice none 0 0, .int .i64 (m : Int)] := by
    simp at hs
    have h1 : ∃ v, vs[1]? = some v := ⟨vs[1]'(by omega), Array.getElem?_eq_getElem _⟩
    obtain ⟨v, h1⟩ := h1
    have h2 := hv 1 _ v rfl h1
    have h3 : v = .int .i64 (m : Int) := by
      cases h2 with
      | tr _ _ h2 => cases h2; rfl
    subst h3
    apply Array.ext
    · simp [hs]
    · intro i hi1 hi2
      have : i = 0 ∨ i = 1 := by omega
      rcases this with rfl | rfl
      · rw [Array.getElem?_eq_getElem hi1] at hV
        injection hV
      · rw [Array.getElem?_eq_getElem hi1] at h1
        injection h1
  subst h0
  have fin : ∀ (w' : World) (v : Value), Below w.heap.size w w' → w'.ownsRow w.heap.size (ρ.t 25) size v 0 [] → ∃ v' S', Ending.returned v = .returned v' ∧ Grew (fun g => ∃ (j : Nat) (x : SO) (u : Value), ([.v (.tr (.sl 0 [])), .v (.tr (.int .i64 (m : Int)))] : List SIn)[j]? = some (SIn.o x) ∧ (#[.slice none 0 0, .int .i64 (m : Int)] : Array Value)[j]? = some u ∧ x.foot w u g) w w' ∧ (∀ b, S' b → (true = true ∧ S b) ∨ w.heap.size ≤ b) ∧ (∀ b, S' b → b < w'.heap.size) ∧ ValsR (ResR (#[.slice none 0 0, .int .i64 (m : Int)] : Array Value) w' S' w.heap.size) [.own (ρ.t 25) size ([] : List α).length (([] : List α).map f)] v' ∧ ∀ (j : Nat) (x : SO) u, (j, x) ∈ ([] : List (Nat × SO)) → (#[.slice none 0 0, .int .i64 (m : Int)] : Array Value)[j]? = some u → ObjR w' (fun b => S b ∨ S' b) bz x u ∧ ∀ g, x.foot w' u g → ¬ S' g ∧ ∃ (j : Nat) (x0 : SO) (u0 : Value), ([.v (.tr (.sl 0 [])), .v (.tr (.int .i64 (m : Int)))] : List SIn)[j]? = some (SIn.o x0) ∧ (#[.slice none 0 0, .int .i64 (m : Int)] : Array Value)[j]? = some u0 ∧ x0.foot w u0 g := by
    intro w' v hb hown
    refine ⟨v, fun _ => False, rfl, Grew.of_below hb _, fun b hb => hb.elim, fun b hb => hb.elim, ⟨.arr _ size 0 [] v [] rfl ⟨hown.1, ?_⟩ (by simp) (fun i x j t q h1 => by simp at h1), fun g hg => ?_⟩, fun j x u hj => by simp at hj⟩
    · rcases hown.2 with h | ⟨g, cap, cur, h3, h4, h5⟩
      · exact .inl h
      · exact .inr ⟨g, cap, cur, h3, Nat.zero_le _, h5⟩
    · rcases hown.2 with ⟨h, _⟩ | ⟨g', cap, cur, h3, h4, h5⟩
      · subst h; simp [blkOf] at hg
      · subst h3
        simp [blkOf] at hg
        subst hg
        exact ⟨h4, fun h => h⟩
  by_cases hm : m = 0
  · subst hm
    refine (Any8.slices_Grow_room L none 0 0 0 w (Nat.le_refl _) (by omega) (by omega) (by omega)).mono fun r w' h => ?_
    obtain ⟨rfl, rfl⟩ := h
    exact fin _ _ (Below.refl _ _) ⟨by simp, .inl ⟨rfl, rfl⟩⟩
  · have hbz : i0.bytes ≤ 2048 := Nat.le_of_ble_eq_true hby
    have hbig : (0 + m) * i0.bytes ≤ 140737488355328 := by
      have h1 : (0 + m) * i0.bytes ≤ 68719476736 * 2048 := Nat.mul_le_mul (by omega) hbz
      omega
    refine (Any8.slices_Grow_grow L i0 z hi hz0 (by omega) none 0 0 m [] w (Nat.le_refl _) (by omega) hbig (by omega) (by simp) (fun _ => rfl) (fun a h => by cases h)).mono fun r w' h => ?_
    obtain ⟨rfl, rfl⟩ := h
    refine fin _ _ (((Below.refl _ w).drew).alloc (Nat.le_refl _) _) ⟨by simp, .inr ⟨w.heap.size, grownCap w (0 + m) 0 (ρ.t 25), _, rfl, Nat.le_refl _, alloc_new w.drew _, Nat.zero_le _, ?_, ?_, by simp⟩⟩
    · exact grownCap_le_maxLen w _ _ _ (by unfold maxLen; omega)
    · have h1 : 0 + m ≤ grownCap w (0 + m) 0 (ρ.t 25) := grownCap_ge w _ _ _
      simp only [Array.size_append, List.size_toArray, List.length_nil]
      have hzc : ∀ k, (Builtin.zeroCells z.cells k).size = k * size := by
        intro k
        first
        | rw [Builtin.size_zeroCells, hzs]
        | simp [Builtin.zeroCells, hzs]
      rw [hzc, hzc, Nat.zero_add, ← Nat.add_mul]
      congr 1
      omega
end Go.Proofs.YtppehghiiahabaaGreatDoor.Sh
