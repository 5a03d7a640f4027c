/- Reading a number as the program does: strconv.ParseInt and back by strconv.FormatInt; no condition but the tables. -/
import Derived.Test.YtlbfeieehmpldaaDoorKA
import Derived.Test.YtlbfeieehmpldaaDoorH1
import Derived.ProofKit
import Derived.Lib.Hide
import Derived.Lib.AppendIntMem
namespace Go.Proofs.YtlbfeieehmpldaaDoor.Sh
open Go.RowKit Go.Shelf Go.Lib
/-- A call that takes flat values and gives several, and may look at the library's variables. -/
theorem scall_flatsG {P : Program} {k : FuncId} (ts : List Tr) (hf : ∀ t ∈ ts, t.flat = true) (r r' : Tr) (rs : List Tr) (hr : ∀ t ∈ r :: r' :: rs, t.flat = true) (hs : ∀ t ∈ r :: r' :: rs, t.small) (h : ∀ w S, GlobOk S w → Calls P k (ts.map Tr.val).toArray w fun e w' => e = .returned (.tuple ((r :: r' :: rs).map Tr.val).toArray) ∧ Below w.heap.size w w') : SCall P k (ts.map fun t => SIn.v (.tr t)) ⟨(r :: r' :: rs).map fun t => SR.v (.tr t), [], false⟩ := by
  intro w S vs hn hS hv _ _ hgl
  rw [flat_args hf (by simpa using hn) hv]
  refine (h w S hgl).mono fun e w' h => ?_
  obtain ⟨rfl, hb⟩ := h
  refine ⟨_, fun _ => False, rfl, Grew.of_below hb _, fun b hb => hb.elim, fun b hb => hb.elim, ⟨_, rfl, by simp, fun i q u hq hu => ?_⟩, fun j x u hj => by simp at hj⟩
  generalize hrs : r :: r' :: rs = ls at hr hs hu
  have hq : (ls.map fun t => SR.v (.tr t))[i]? = some q := by rw [← hrs]; exact hq
  rw [List.getElem?_map, Option.map_eq_some_iff] at hq
  obtain ⟨t, ht, rfl⟩ := hq
  have hu2 : u = t.val := by
    rw [List.getElem?_toArray, List.getElem?_map, ht] at hu
    simpa using hu.symm
  subst hu2
  exact ⟨rfl, .tr _ _ (val_tv (hr _ (List.mem_of_getElem? ht)) (hs _ (List.mem_of_getElem? ht)))⟩
theorem parse_in {l : List UInt8} {v : Int} (h : Lib.parseIntB 64 l = .ok v) : -9223372036854775808 ≤ v ∧ v ≤ 9223372036854775807 := by
  unfold Lib.parseIntB at h
  cases l with
  | nil => cases h
  | cons c r =>
    simp only at h
    split at h
    · cases h
    · cases h
    · split at h
      · cases h
      · split at h
        · cases h
        · injection h with h
          split at h <;> omega
def numE (s : ByteArray) : Int × Bool := match Lib.parseIntB 64 s.data.toList with
  | .ok v => (v, Lib.itoa v == s.toList)
  | .range => (Lib.intSat 64 s.data.toList, false)
  | _ => (0, false)
def impl_readNumber (s : ByteArray) : Option (Int × Bool) := if s.size ≤ 281474976710656 then some (numE s) else none
set_option maxHeartbeats 4000000 in
set_option maxRecDepth 100000 in
theorem decimal_calls (v : Int) (h0 : -9223372036854775808 ≤ v) (h1 : v ≤ 9223372036854775807) (w : World) (ht : Lib.TabIs Tryd.prog w "internal/strconv.uint64pow10" .u64 Lib.pow10Tab) : Calls Tryd.prog 28 #[.int .i64 v] w fun e w' => e = .returned (.string ⟨(Lib.itoa v).toArray⟩) ∧ Below w.heap.size w w' := by
  have hF : Calls Tryd.prog 37 #[.int .i64 v, .int .i64 10] w fun e w' => e = .returned (.string ⟨(Lib.itoa v).toArray⟩) ∧ Below w.heap.size w w' := (Any.strconv_FormatInt_10 Tryd.lays173 v h0 h1 w ht).mono fun e w' ⟨h1, k, os, h2⟩ => ⟨h1, by subst h2; exact Lib.below_grow _ _ (Nat.le_refl _) _ _⟩
  go_enter Tryd.func28, Tryd.ntmps28
  go_wp2_with (go_at_call 37; refine hF.mono ?_; rintro e W2 ⟨rfl, hb⟩)
  go_ret
  exact ⟨rfl, hb⟩
set_option maxHeartbeats 4000000 in
set_option maxRecDepth 100000 in
theorem readN_calls (s : ByteArray) (hs : s.size ≤ 281474976710656) (S : Nat → Prop) (w : World) (hgl : GlobOk S w) : Calls Tryd.prog 21 #[.string s] w fun e w' => e = .returned (.tuple #[.int .i64 (numE s).1, .bool (numE s).2]) ∧ Below w.heap.size w w' := by
  obtain ⟨_, _, t0, x0, e0⟩ := hgl.2.2 (5, _) (by unfold tabs; exact List.mem_singleton.2 rfl)
  obtain ⟨_, _, t1, u1, e1⟩ := hgl.2.1 3 (by unfold sents; simp)
  obtain ⟨_, _, t2, u2, e2⟩ := hgl.2.1 4 (by unfold sents; simp)
  have htab : Lib.TabIs Tryd.prog w "internal/strconv.uint64pow10" .u64 Lib.pow10Tab := by
    unfold Lib.TabIs World.var?
    rw [show Tryd.prog.globalNamed "internal/strconv.uint64pow10" = some 5 by kernel_rfl, Option.bind_some, e0]
    rfl
  clear e0
  unfold numE
  cases hp : Lib.parseIntB 64 s.data.toList
  · rename_i v
    have hv := parse_in hp
    have hP : ∀ W : World, Calls Tryd.prog 27 #[.string s, .int .i64 10, .int .i64 64] W fun e w' => e = .returned (.tuple #[.int .i64 v, .nilIface]) ∧ Below W.heap.size W w' := fun W => (Any.strconv_ParseInt_10_at64_ok Tryd.lays174 s (by omega) v hp W).mono fun e w' h => ⟨h.1, by
      rcases h.2 with rfl | ⟨t, rfl⟩
      · exact Below.refl _ _
      · exact Lib.bytesWorld_below _ _ _⟩
    go_enter Tryd.func21, Tryd.ntmps21
    go_wp2_with (go_at_call 27; refine (hP _).mono ?_; rintro e W1 ⟨rfl, hb1⟩)
    have ht1 := (Lib.tabBelow_of_tabIs htab) _ hb1
    have hF := decimal_calls v hv.1 hv.2 W1 ht1
    go_wp2_with (go_at_call 28; refine hF.mono ?_; rintro e W2 ⟨rfl, hb2⟩)
    try go_wp2
    go_ret2
    refine ⟨?_, ?_⟩
    · first | rfl | simp
    · exact hb1.trans (hb2.mono hb1.size)
  · have hP : Calls Tryd.prog 27 #[.string s, .int .i64 10, .int .i64 64] w fun e w' => (∃ N T, e = .returned (.tuple #[.int .i64 (0), .iface T (.pointer (some ⟨N, 0, none⟩))])) ∧ Below w.heap.size w w' := (Any.strconv_ParseInt_10_at64_syntax Tryd.lays174 s hs hp _ w e1 (.inr ⟨_, _, rfl⟩)).mono fun e w' ⟨N, h1, _, _, h4⟩ => ⟨⟨N, _, h1⟩, h4⟩
    go_enter Tryd.func21, Tryd.ntmps21
    go_wp2_with (go_at_call 27; refine hP.mono ?_; rintro e W1 ⟨⟨N, T, rfl⟩, hb⟩)
    go_wp2
    go_ret2
    exact ⟨rfl, hb⟩
  · have hP : Calls Tryd.prog 27 #[.string s, .int .i64 10, .int .i64 64] w fun e w' => (∃ N T, e = .returned (.tuple #[.int .i64 (Lib.intSat 64 s.data.toList), .iface T (.pointer (some ⟨N, 0, none⟩))])) ∧ Below w.heap.size w w' := (Any.strconv_ParseInt_10_at64_range Tryd.lays174 s hs hp _ w e2 (.inr ⟨_, _, rfl⟩)).mono fun e w' ⟨N, h1, _, _, h4⟩ => ⟨⟨N, _, h1⟩, h4⟩
    go_enter Tryd.func21, Tryd.ntmps21
    go_wp2_with (go_at_call 27; refine hP.mono ?_; rintro e W1 ⟨⟨N, T, rfl⟩, hb⟩)
    go_wp2
    go_ret2
    exact ⟨rfl, hb⟩
theorem readNumber_run (s : ByteArray) (r : Int × Bool) (h : impl_readNumber s = some r) : SCall Tryd.prog 21 [.v (.tr (.str s))] ⟨[.v (.tr (.int .i64 r.1)), .v (.tr (.bool r.2))], [], false⟩ := by
  unfold impl_readNumber at h
  split at h
  · rename_i hs
    injection h with h
    subst h
    exact scall_flatsG [.str s] (by simp [Tr.flat]) (.int .i64 (numE s).1) (.bool (numE s).2) [] (by simp [Tr.flat]) (by simp [Tr.small]) fun w S hgl => readN_calls s hs S w hgl
  · cases h
end Go.Proofs.YtlbfeieehmpldaaDoor.Sh
