/- BestPlacement's closure: a call of it does what walk_f says. -/
import Derived.Test.YtlhllbiikideeaaBP1
namespace Go.Proofs.Ytlhllbiikideeaa.Sh
open Go.RowKit
set_option maxRecDepth 100000
set_option maxHeartbeats 4000000
theorem fin_os {os o : List (Nat × SO)} (h : subB (os.map (·.1)) o = os := by kernel_rfl) : ∀ p ∈ os, p ∈ o := fun p hp => subB_mem (k := os.map (·.1)) (by rw [h]; exact hp)
/-- How a call ends. -/
def wQ (L : List Label) (r : Option (List Int) × List Int) (e : Exit) (σ : SS) : Prop := (e = .normal ∨ e = .ret) ∧ ∀ p ∈ wos L r.1 r.2, p ∈ σ.o
theorem wq_r {L : List Label} {r : Option (List Int) × List Int} {σ : SS} (h : ∀ p ∈ wos L r.1 r.2, p ∈ σ.o) : wQ L r .ret σ := ⟨.inr rfl, h⟩
theorem wq_n {L : List Label} {r : Option (List Int) × List Int} {σ : SS} (h : ∀ p ∈ wos L r.1 r.2, p ∈ σ.o) : wQ L r .normal σ := ⟨.inl rfl, h⟩
theorem wos_hos {L : List Label} {b : Option (List Int)} {cur : List Int} : ∀ p ∈ wos L b cur, (42 ≤ p.1 ∧ p.1 < 1999999) ∨ 3000000 ≤ p.1 := fun p hp => by
  have := (wos_nm p hp).2 p.1 (.inl rfl)
  omega
theorem ents33 : Ents Try.prog 33 := ents_of Try.func33 (by kernel_rfl) rfl
theorem walk_run : ∀ (fuel : Nat) (L : List Label) (i : Int) (b : Option (List Int)) (cur : List Int) (r : Option (List Int) × List Int), walk_f fuel L i b cur = some r → HCall Try.prog 33 (wargs i) (wos L b cur) (wos L r.1 r.2) := by
  intro fuel
  induction fuel with
  | zero => intro L i b cur r h; cases h
  | succ fuel ih =>
    intro L i b cur r h
    refine hcall_intro Try.func33 rfl rfl (show (5 : Nat) ≤ 42 by decide) (show (42 : Nat) ≤ 1999999 by decide) wos_hos ⟨fun p hp => (wos_nm p hp).1, fun p hp => (wos_nm p hp).1⟩ (wos_names L b cur L r.1 r.2) ?_
    show swp _ _ (wQ L r) _
    unfold walk_f at h
    refine swp_seq ?_
    refine srk tbok ⟨42, [(0, vi i), (1, .ref 1000001 0), (2, .ref 1000002 0), (3, .ref 1000003 0), (4, .ref 1000004 0), (10, vb (i == (L.length : Int)))], wos L b cur⟩ ?_
    refine swp_cd h (fun h => ?_) fun h => ?_
    · refine swp_seq ?_
      refine swp_seq ?_
      cases b with
      | none =>
        refine swp_dr mixed ?_
        refine DGo.ck tbok false 1 ⟨42, [(0, vi i), (1, .ref 1000001 0), (2, .ref 1000002 0), (3, .ref 1000003 0), (4, .ref 1000004 0), (11, .tr .nil)], wos L none cur⟩ ?_
        refine DGo.step (x_eqnil (ti := ti24) (e := 2) (v := .nil) (b := true) tbok rfl) ?_
        refine DGo.ck tbok false 9 ⟨42, [(0, vi i), (1, .ref 1000001 0), (2, .ref 1000002 0), (3, .ref 1000003 0), (4, .ref 1000004 0), (21, vb true)], wos L none cur⟩ ?_
        refine DGo.nx ?_
        refine swp_cond (b := true) (by kernel_rfl) (fun _ => ?_) (fun hb => by cases hb)
        refine swp_reg ?_
        refine SRun.ck tbok 2 ⟨42, [(0, vi i), (1, .ref 1000001 0), (2, .ref 1000002 0), (3, .ref 1000003 0), (4, .ref 1000004 0), (22, .own 22), (23, .own 1000100)], (22, oa 2 1 (eI .i64) ([] : List Int)) :: wos L none cur⟩ ?_
        obtain ⟨x, hx, h⟩ := bind_some h
        refine SRun.bcall tbok (d1 := 24) (e := 24) (m := 1) [(22, .sl ([] : List Int).length (([] : List Int).map (eI .i64))), (23, .sl cur.length (cur.map (eI .i64)))] rfl ents35 (slices_Concat_int64_run [[], cur] _ hx) (x := .own 25) (y := some (oa 2 1 (eI .i64) x)) ?_
        refine SRun.ck tbok 1 ⟨42, [(0, vi i), (1, .ref 1000001 0), (2, .ref 1000002 0), (3, .ref 1000003 0), (4, .ref 1000004 0)], [(1000001, .box [vl eLabel L]), (1000003, .box [.own 1000100]), (1000004, .box [.clo 33 [.ref 1000001 0, .ref 1000002 0, .ref 1000003 0, .ref 1000004 0]]), (1000100, oa 2 1 (eI .i64) cur), (1000002, .box [.own 25]), (25, oa 2 1 (eI .i64) x)]⟩ ?_
        refine SRun.le (Le.up' 25) ?_
        refine SRun.nil ?_
        refine nx_n ?_
        refine swp_ret ?_
        obtain rfl := inj h
        exact nx_r (wq_r fin_os)
      | some l =>
        cases l with
        | nil => cases h
        | cons y l =>
          refine swp_dr mixed ?_
          refine DGo.ck tbok false 1 ⟨42, [(0, vi i), (1, .ref 1000001 0), (2, .ref 1000002 0), (3, .ref 1000003 0), (4, .ref 1000004 0), (11, .own 3000000)], wos L (some (y :: l)) cur⟩ ?_
          refine DGo.step (x_eqnil_own (ti := ti24) (e := 2) (d := 3000000) (e1 := 2) (m := 1) (n := l.length) (es := (y :: l).map (eI .i64)) tbok rfl) ?_
          refine DGo.ck tbok false 3 ⟨42, [(0, vi i), (1, .ref 1000001 0), (2, .ref 1000002 0), (3, .ref 1000003 0), (4, .ref 1000004 0), (12, vb false), (13, vb false), (14, vl eLabel L), (15, .own 1000100)], wos L (some (y :: l)) cur⟩ ?_
          obtain ⟨p, hp, h⟩ := bind_some h
          refine DGo.step (xc ents34 (impl_score_run L cur _ hp)) ?_
          refine DGo.ck tbok false 2 ⟨42, [(0, vi i), (1, .ref 1000001 0), (2, .ref 1000002 0), (3, .ref 1000003 0), (4, .ref 1000004 0), (12, vb false), (13, vb false), (16, vi p), (17, vl eLabel L), (18, .own 3000000)], wos L (some (y :: l)) cur⟩ ?_
          obtain ⟨q, hq, h⟩ := bind_some h
          refine DGo.step (xc ents34 (impl_score_run L (y :: l) _ hq)) ?_
          refine DGo.ck tbok false 2 ⟨42, [(0, vi i), (1, .ref 1000001 0), (2, .ref 1000002 0), (3, .ref 1000003 0), (4, .ref 1000004 0), (21, vb (decide (p > q)))], wos L (some (y :: l)) cur⟩ ?_
          refine DGo.nx ?_
          refine swp_cd h (fun h => ?_) fun h => ?_
          · skip
            refine swp_reg ?_
            refine SRun.ck tbok 2 ⟨42, [(0, vi i), (1, .ref 1000001 0), (2, .ref 1000002 0), (3, .ref 1000003 0), (4, .ref 1000004 0), (22, .own 22), (23, .own 1000100)], (22, oa 2 1 (eI .i64) ([] : List Int)) :: wos L (some (y :: l)) cur⟩ ?_
            obtain ⟨x, hx, h⟩ := bind_some h
            refine SRun.bcall tbok (d1 := 24) (e := 24) (m := 1) [(22, .sl ([] : List Int).length (([] : List Int).map (eI .i64))), (23, .sl cur.length (cur.map (eI .i64)))] rfl ents35 (slices_Concat_int64_run [[], cur] _ hx) (x := .own 25) (y := some (oa 2 1 (eI .i64) x)) ?_
            refine SRun.ck tbok 1 ⟨42, [(0, vi i), (1, .ref 1000001 0), (2, .ref 1000002 0), (3, .ref 1000003 0), (4, .ref 1000004 0)], [(1000001, .box [vl eLabel L]), (1000003, .box [.own 1000100]), (1000004, .box [.clo 33 [.ref 1000001 0, .ref 1000002 0, .ref 1000003 0, .ref 1000004 0]]), (1000100, oa 2 1 (eI .i64) cur), (1000002, .box [.own 25]), (25, oa 2 1 (eI .i64) x)]⟩ ?_
            refine SRun.le (Le.up' 25) ?_
            refine SRun.nil ?_
            refine nx_n ?_
            refine swp_ret ?_
            obtain rfl := inj h
            exact nx_r (wq_r fin_os)
          · refine swp_skip ?_
            refine nx_n ?_
            refine swp_ret ?_
            obtain rfl := inj h
            exact nx_r (wq_r fin_os)
    · refine swp_skip ?_
      refine nx_n ?_
      refine srk tbok ⟨42, [(0, vi i), (1, .ref 1000001 0), (2, .ref 1000002 0), (3, .ref 1000003 0), (4, .ref 1000004 0), (6, vi 0)], wos L b cur⟩ ?_
      refine swp_blk (a := r) ?_
      refine swp_lpL (r := r) (s := (0, b, cur)) _ (fun s => ⟨42, [(0, vi i), (1, .ref 1000001 0), (2, .ref 1000002 0), (3, .ref 1000003 0), (4, .ref 1000004 0), (6, vi s.1)], wos L s.2.1 s.2.2⟩) _ (Le.sub0) h (fun s v h => ?_)
      refine swp_seq ?_
      refine srk tbok ⟨42, [(0, vi i), (1, .ref 1000001 0), (2, .ref 1000002 0), (3, .ref 1000003 0), (4, .ref 1000004 0), (6, vi s.1), (27, vb (decide (s.1 ≤ 4)))], wos L s.2.1 s.2.2⟩ ?_
      refine swp_cd h (fun h => ?_) fun h => ?_
      · refine swp_skip ?_
        refine nx_n ?_
        refine swp_seq ?_
        refine swp_seqJ h (fun j => ⟨42, [(0, vi i), (1, .ref 1000001 0), (2, .ref 1000002 0), (3, .ref 1000003 0), (4, .ref 1000004 0), (6, vi s.1)], wos L j.1 j.2⟩) (fun u h => ?_) (fun j h => ?_)
        · refine swp_blk (a := u) ?_
          refine sr ?_
          refine SRun.ck tbok 3 ⟨42, [(0, vi i), (1, .ref 1000001 0), (2, .ref 1000002 0), (3, .ref 1000003 0), (4, .ref 1000004 0), (6, vi s.1), (30, .own 1000100), (31, vi i), (32, vi s.1)], wos L s.2.1 s.2.2⟩ ?_
          obtain ⟨z, hz, h⟩ := bind_some h
          refine SRun.ls (x_index_own (d := 1000100) (L := s.2.2) (f := (eI .i64)) (ti := ti24) (tj := ti2) (e := 2) (e' := 2) (m := 1) (k := .i64) tbok rfl hz) ?_
          refine SRun.estep (x_store_own (d := 1000100) (m := 1) (j := 0) (L := s.2.2) (f := (eI .i64)) (x := s.1) (z := z) (ti := ti2) (e := 2) (ts := [.int .i64 s.1]) (vs := [vi s.1]) (v := vi s.1) tbok rfl rfl hz) ?_
          refine SRun.nx ?_
          refine sr ?_
          refine SRun.ck tbok 3 ⟨42, [(0, vi i), (1, .ref 1000001 0), (2, .ref 1000002 0), (3, .ref 1000003 0), (4, .ref 1000004 0), (6, vi s.1), (34, vl eLabel L), (35, .own 1000100), (36, vi i)], wos L s.2.1 (List.set s.2.2 (Int.toNat i) s.1)⟩ ?_
          obtain ⟨x, hx, h⟩ := bind_some h
          refine SRun.ls (xc ents36 (impl_isClearAt_run L (List.set s.2.2 (Int.toNat i) s.1) i _ hx)) ?_
          refine SRun.nx ?_
          refine swp_cd h (fun h => ?_) fun h => ?_
          · refine swp_reg ?_
            refine SRun.ck tbokW 3 ⟨42, [(0, vi i), (1, .ref 1000001 0), (2, .ref 1000002 0), (3, .ref 1000003 0), (4, .ref 1000004 0), (6, vi s.1), (38, .clo 33 [.ref 1000001 0, .ref 1000002 0, .ref 1000003 0, .ref 1000004 0]), (40, vi (w64 (i + 1)))], wos L s.2.1 (List.set s.2.2 (Int.toNat i) s.1)⟩ ?_
            refine SRun.estep (hstep_self (xs := [vi (w64 (i + 1))]) (caps := [.ref 1000001 0, .ref 1000002 0, .ref 1000003 0, .ref 1000004 0]) rfl ents33 (ih L (w64 (i + 1)) s.2.1 (List.set s.2.2 (Int.toNat i) s.1) u h) (fun p hp k hk => by have := (wos_nm p hp).2 k hk; omega)) ?_
            refine SRun.nil ?_
            exact q_bn (q_j (Le.sub0))
          · refine swp_skip ?_
            obtain rfl := inj h
            exact q_bn (q_j (Le.sub0))
        · refine swp_reg ?_
          refine SRun.ck tbok 3 ⟨42, [(0, vi i), (1, .ref 1000001 0), (2, .ref 1000002 0), (3, .ref 1000003 0), (4, .ref 1000004 0), (6, vi (w64 (s.1 + 1)))], wos L j.1 j.2⟩ ?_
          refine SRun.nil ?_
          obtain rfl := inj h
          exact q_l (Le.sub0)
      · refine swp_exit ?_
        obtain rfl := inj h
        exact nx_e (q_re (q_bh (wq_n fin_os)))
end Go.Proofs.Ytlhllbiikideeaa.Sh
