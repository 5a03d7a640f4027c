/- Typed functions and the calls that do what they say. -/
import Derived.Test.YtnnpmbcamnnfgaaGCp0
namespace Go.Proofs.Ytnnpmbcamnnfgaa.Sh
open Go.RowKit
noncomputable def impl_length_Label (aList : (List Label)) : Option (Int) :=
  some (aList.length : Int)
set_option maxRecDepth 100000 in
set_option maxHeartbeats 4000000 in
theorem impl_length_Label_run (aList : (List Label)) (r : Int) (h : impl_length_Label aList = some r) : SCall Try.prog 91 [.v (.tr (.sl aList.length (aList.map eLabel)))] ⟨[.v (.tr (.int .i64 r))], [], false⟩ := by
  refine scall_intro' (P := Try.prog) Try.func91 rfl [(.tmp 2)] rfl (ins := [.v (.tr (.sl aList.length (aList.map eLabel)))]) (by kernel_rfl) (by kernel_rfl) rfl (fun r => ⟨[.v (.tr (.int .i64 r))], [], false⟩) (r := r) ?_
  unfold impl_length_Label at h
  refine swp_seq ?_
  refine swp_reg ?_
  refine SRun.chunk tbok 1 (σ' := ⟨5, [(2, .tr (.int .i64 0)), (0, .tr (.sl aList.length (aList.map eLabel)))], []⟩) (by kernel_rfl) ?_
  refine SRun.nil ?_
  refine nx_n ?_
  refine swp_seq ?_
  refine swp_reg ?_
  refine SRun.chunk tbok 3 (σ' := ⟨5, [(2, .tr (.int .i64 (aList.length : Int))), (4, .tr (.int .i64 (aList.length : Int))), (3, .tr (.sl aList.length (aList.map eLabel))), (0, .tr (.sl aList.length (aList.map eLabel)))], []⟩) (by kernel_rfl) ?_
  refine SRun.nil ?_
  refine nx_n ?_
  refine swp_ret ?_
  replace h := Option.some.inj h
  subst h
  exact q_fr (fin1 (by kernel_rfl) (finV rfl (by simp [SV.Flat, SV.Flat.FlatL, Tr.flat]) (holds_t (by kernel_rfl))))
theorem ents91 : Ents Try.prog 91 := ents_of Try.func91 (by kernel_rfl) rfl
noncomputable def impl_labelCode (aList : (List Label)) (aIndex : Int) : Option (Int) :=
  ((((impl_AreLabels aList).bind fun x3 => (bif (!x3) then some (.inr 1) else ((impl_length_Label aList).bind fun x4 => ((impl_within aIndex 0 (w64 (x4 - 1))).bind fun x5 => (bif (!x5) then some (.inr 2) else some (.inl ()))))))).bind (Sum.elim (fun (j1 : Unit) => some 0) some))
set_option maxRecDepth 100000 in
set_option maxHeartbeats 4000000 in
theorem impl_labelCode_run (aList : (List Label)) (aIndex : Int) (r : Int) (h : impl_labelCode aList aIndex = some r) : SCall Try.prog 64 [.v (.tr (.sl aList.length (aList.map eLabel))), .v (.tr (.int .i64 aIndex))] ⟨[.v (.tr (.int .i64 r))], [], false⟩ := by
  refine scall_intro' (P := Try.prog) Try.func64 rfl [(.tmp 4)] rfl (ins := [.v (.tr (.sl aList.length (aList.map eLabel))), .v (.tr (.int .i64 aIndex))]) (by kernel_rfl) (by kernel_rfl) rfl (fun r => ⟨[.v (.tr (.int .i64 r))], [], false⟩) (r := r) ?_
  unfold impl_labelCode at h
  refine swp_seq ?_
  refine swp_reg ?_
  refine SRun.chunk tbok 1 (σ' := ⟨16, [(4, .tr (.int .i64 0)), (0, .tr (.sl aList.length (aList.map eLabel))), (1, .tr (.int .i64 aIndex))], []⟩) (by kernel_rfl) ?_
  refine SRun.nil ?_
  refine nx_n ?_
  refine swp_seq ?_
  refine swp_seqE (r := r) h (fun j1 => ⟨16, [], []⟩) (fun v2 h => ?_) (fun j1 h => ?_)
  · refine swp_blk (a := v2) ?_
    refine swp_seq ?_
    refine swp_reg ?_
    refine SRun.chunk tbok 1 (σ' := ⟨16, [(6, .tr (.sl aList.length (aList.map eLabel))), (4, .tr (.int .i64 0)), (0, .tr (.sl aList.length (aList.map eLabel))), (1, .tr (.int .i64 aIndex))], []⟩) (by kernel_rfl) ?_
    obtain ⟨x3, hx3, h⟩ := bind_some h
    refine SRun.lstep (lstep_call (f := 16) (caps := []) (xs := [.tr (.sl aList.length (aList.map eLabel))]) (ys := [.tr (.sl aList.length (aList.map eLabel))]) (res := ⟨[.v (.tr (.bool x3))], [], false⟩) (x := .tr (.bool x3)) (y := none) rfl (by kernel_rfl) (by kernel_rfl) (by kernel_rfl) (by kernel_rfl) (by kernel_rfl) ents16 (impl_AreLabels_run aList _ hx3) rfl (by intro hc; cases hc) (by kernel_rfl)) (by kernel_rfl) ?_
    refine SRun.chunk tbok 2 (σ' := ⟨16, [(5, .tr (.bool (!x3))), (8, .tr (.bool (!x3))), (7, .tr (.bool x3)), (6, .tr (.sl aList.length (aList.map eLabel))), (4, .tr (.int .i64 0)), (0, .tr (.sl aList.length (aList.map eLabel))), (1, .tr (.int .i64 aIndex))], []⟩) (by kernel_rfl) ?_
    refine SRun.nil ?_
    refine nx_n ?_
    refine swp_cond (b := (!x3)) (by kernel_rfl) (fun hb => ?_) (fun hb => ?_)
    · replace h := cond_t hb h
      refine swp_seq ?_
      refine swp_reg ?_
      refine SRun.chunk tbok 1 (σ' := ⟨16, [(4, .tr (.int .i64 1)), (5, .tr (.bool (!x3))), (8, .tr (.bool (!x3))), (7, .tr (.bool x3)), (6, .tr (.sl aList.length (aList.map eLabel))), (0, .tr (.sl aList.length (aList.map eLabel))), (1, .tr (.int .i64 aIndex))], []⟩) (by kernel_rfl) ?_
      refine SRun.nil ?_
      refine nx_n ?_
      refine swp_ret ?_
      replace h := Option.some.inj h
      subst h
      exact q_br (q_rr (q_fr (fin1 (by kernel_rfl) (finV rfl (by simp [SV.Flat, SV.Flat.FlatL, Tr.flat]) (holds_t (by kernel_rfl))))))
    · replace h := cond_f hb h
      refine swp_seq ?_
      refine swp_reg ?_
      refine SRun.chunk tbok 2 (σ' := ⟨16, [(11, .tr (.sl aList.length (aList.map eLabel))), (10, .tr (.int .i64 aIndex)), (5, .tr (.bool (!x3))), (8, .tr (.bool (!x3))), (7, .tr (.bool x3)), (6, .tr (.sl aList.length (aList.map eLabel))), (4, .tr (.int .i64 0)), (0, .tr (.sl aList.length (aList.map eLabel))), (1, .tr (.int .i64 aIndex))], []⟩) (by kernel_rfl) ?_
      obtain ⟨x4, hx4, h⟩ := bind_some h
      refine SRun.lstep (lstep_call (f := 91) (caps := []) (xs := [.tr (.sl aList.length (aList.map eLabel))]) (ys := [.tr (.sl aList.length (aList.map eLabel))]) (res := ⟨[.v (.tr (.int .i64 x4))], [], false⟩) (x := .tr (.int .i64 x4)) (y := none) rfl (by kernel_rfl) (by kernel_rfl) (by kernel_rfl) (by kernel_rfl) (by kernel_rfl) ents91 (impl_length_Label_run aList _ hx4) rfl (by intro hc; cases hc) (by kernel_rfl)) (by kernel_rfl) ?_
      refine SRun.chunk tbok 1 (σ' := ⟨16, [(13, .tr (.int .i64 (w64 (x4 - 1)))), (12, .tr (.int .i64 x4)), (11, .tr (.sl aList.length (aList.map eLabel))), (10, .tr (.int .i64 aIndex)), (5, .tr (.bool (!x3))), (8, .tr (.bool (!x3))), (7, .tr (.bool x3)), (6, .tr (.sl aList.length (aList.map eLabel))), (4, .tr (.int .i64 0)), (0, .tr (.sl aList.length (aList.map eLabel))), (1, .tr (.int .i64 aIndex))], []⟩) (by kernel_rfl) ?_
      obtain ⟨x5, hx5, h⟩ := bind_some h
      refine SRun.lstep (lstep_call (f := 55) (caps := []) (xs := [.tr (.int .i64 aIndex), .tr (.int .i64 0), .tr (.int .i64 (w64 (x4 - 1)))]) (ys := [.tr (.int .i64 aIndex), .tr (.int .i64 0), .tr (.int .i64 (w64 (x4 - 1)))]) (res := ⟨[.v (.tr (.bool x5))], [], false⟩) (x := .tr (.bool x5)) (y := none) rfl (by kernel_rfl) (by kernel_rfl) (by kernel_rfl) (by kernel_rfl) (by kernel_rfl) ents55 (impl_within_run aIndex 0 (w64 (x4 - 1)) _ hx5) rfl (by intro hc; cases hc) (by kernel_rfl)) (by kernel_rfl) ?_
      refine SRun.chunk tbok 2 (σ' := ⟨16, [(9, .tr (.bool (!x5))), (15, .tr (.bool (!x5))), (14, .tr (.bool x5)), (13, .tr (.int .i64 (w64 (x4 - 1)))), (12, .tr (.int .i64 x4)), (11, .tr (.sl aList.length (aList.map eLabel))), (10, .tr (.int .i64 aIndex)), (5, .tr (.bool (!x3))), (8, .tr (.bool (!x3))), (7, .tr (.bool x3)), (6, .tr (.sl aList.length (aList.map eLabel))), (4, .tr (.int .i64 0)), (0, .tr (.sl aList.length (aList.map eLabel))), (1, .tr (.int .i64 aIndex))], []⟩) (by kernel_rfl) ?_
      refine SRun.nil ?_
      refine nx_n ?_
      refine swp_cond (b := (!x5)) (by kernel_rfl) (fun hb => ?_) (fun hb => ?_)
      · replace h := cond_t hb h
        refine swp_seq ?_
        refine swp_reg ?_
        refine SRun.chunk tbok 1 (σ' := ⟨16, [(4, .tr (.int .i64 2)), (9, .tr (.bool (!x5))), (15, .tr (.bool (!x5))), (14, .tr (.bool x5)), (13, .tr (.int .i64 (w64 (x4 - 1)))), (12, .tr (.int .i64 x4)), (11, .tr (.sl aList.length (aList.map eLabel))), (10, .tr (.int .i64 aIndex)), (5, .tr (.bool (!x3))), (8, .tr (.bool (!x3))), (7, .tr (.bool x3)), (6, .tr (.sl aList.length (aList.map eLabel))), (0, .tr (.sl aList.length (aList.map eLabel))), (1, .tr (.int .i64 aIndex))], []⟩) (by kernel_rfl) ?_
        refine SRun.nil ?_
        refine nx_n ?_
        refine swp_ret ?_
        replace h := Option.some.inj h
        subst h
        exact q_br (q_rr (q_fr (fin1 (by kernel_rfl) (finV rfl (by simp [SV.Flat, SV.Flat.FlatL, Tr.flat]) (holds_t (by kernel_rfl))))))
      · replace h := cond_f hb h
        refine swp_skip ?_
        replace h := Option.some.inj h
        subst h
        exact q_bn (q_l ((Le.sub' ([] : List (Nat × SV)) ([] : List (Nat × SO)) (by kernel_rfl) (by kernel_rfl)).trans (Le.sub' ([] : List (Nat × SV)) ([] : List (Nat × SO)) (by kernel_rfl) (by kernel_rfl))))
  · refine swp_seq ?_
    refine swp_reg ?_
    refine SRun.chunk tbok 1 (σ' := ⟨16, [(4, .tr (.int .i64 0))], []⟩) (by kernel_rfl) ?_
    refine SRun.nil ?_
    refine nx_n ?_
    refine swp_ret ?_
    replace h := Option.some.inj h
    subst h
    exact q_fr (fin1 (by kernel_rfl) (finV rfl (by simp [SV.Flat, SV.Flat.FlatL, Tr.flat]) (holds_t (by kernel_rfl))))
theorem ents64 : Ents Try.prog 64 := ents_of Try.func64 (by kernel_rfl) rfl
noncomputable def impl_Label_covered (aL : Label) (aPosition : Int) : Option ((List Point)) :=
  (((bif (aPosition == 1) then some (.inl ((w64 (aL.At.X - aL.Length)), (w64 (aL.At.Y + 1)))) else (bif (aPosition == 2) then some (.inl ((w64 (aL.At.X - aL.Length)), (w64 (aL.At.Y - 1)))) else (bif (aPosition == 3) then some (.inl ((w64 (aL.At.X + 1)), (w64 (aL.At.Y - 1)))) else (bif (aPosition == 4) then some (.inr ([] : List Point)) else some (.inl ((w64 (aL.At.X + 1)), (w64 (aL.At.Y + 1))))))))).bind (Sum.elim (fun (j1 : Int × Int) => (((loop (fun (s5 : Int × (List Point)) => (bif (decide (s5.1 < (w64 (j1.1 + aL.Length)))) then ((((app' s5.2 ([(Point.mk s5.1 j1.2)] : List Point)).bind fun x9 => some x9)).bind fun (j7 : (List Point)) => some (.inl ((w64 (s5.1 + 1)), j7))) else some (.inr s5.2))) (j1.1, ([] : List Point)))).bind fun (j3 : (List Point)) => some j3)) some))
set_option maxRecDepth 100000 in
set_option maxHeartbeats 4000000 in
theorem impl_Label_covered_run (aL : Label) (aPosition : Int) (r : (List Point)) (h : impl_Label_covered aL aPosition = some r) : SCall Try.prog 67 [.v (.agg [.tr (.int .i64 aL.At.X), .tr (.int .i64 aL.At.Y), .tr (.int .i64 aL.Length), .tr (.int .i64 aL.Priority)]), .v (.tr (.int .i64 aPosition))] ⟨[.own 53 2 r.length (r.map ePoint)], [], false⟩ := by
  refine scall_intro' (P := Try.prog) Try.func67 rfl [(.tmp 4)] rfl (ins := [.v (.agg [.tr (.int .i64 aL.At.X), .tr (.int .i64 aL.At.Y), .tr (.int .i64 aL.Length), .tr (.int .i64 aL.Priority)]), .v (.tr (.int .i64 aPosition))]) (by kernel_rfl) (by kernel_rfl) rfl (fun r => ⟨[.own 53 2 r.length (r.map ePoint)], [], false⟩) (r := r) ?_
  unfold impl_Label_covered at h
  refine swp_seq ?_
  refine swp_reg ?_
  refine SRun.chunk tbok 2 (σ' := ⟨62, [(4, .own 4), (2, .ref 2 0), (0, .agg [.tr (.int .i64 aL.At.X), .tr (.int .i64 aL.At.Y), .tr (.int .i64 aL.Length), .tr (.int .i64 aL.Priority)]), (1, .tr (.int .i64 aPosition))], [(4, .arr 53 2 ([] : List Point).length (([] : List Point).map ePoint)), (2, .box [.tr (.int .i64 aL.At.X), .tr (.int .i64 aL.At.Y), .tr (.int .i64 aL.Length), .tr (.int .i64 aL.Priority)])]⟩) (by kernel_rfl) ?_
  refine SRun.nil ?_
  refine nx_n ?_
  refine swp_seq ?_
  refine swp_dr mixed ?_
  refine DGo.chunk' tbok 10 (σ' := ⟨62, [(6, .tr (.int .i64 (w64 (aL.At.Y + 1)))), (5, .tr (.int .i64 (w64 (aL.At.X + 1)))), (16, .tr (.int .i64 (w64 (aL.At.Y + 1)))), (15, .tr (.int .i64 aL.At.Y)), (14, .ref 2 1), (13, .ref 2 0), (12, .tr (.int .i64 (w64 (aL.At.X + 1)))), (11, .tr (.int .i64 aL.At.X)), (10, .ref 2 0), (9, .ref 2 0), (4, .own 4), (2, .ref 2 0), (0, .agg [.tr (.int .i64 aL.At.X), .tr (.int .i64 aL.At.Y), .tr (.int .i64 aL.Length), .tr (.int .i64 aL.Priority)]), (1, .tr (.int .i64 aPosition))], [(4, .arr 53 2 ([] : List Point).length (([] : List Point).map ePoint)), (2, .box [.tr (.int .i64 aL.At.X), .tr (.int .i64 aL.At.Y), .tr (.int .i64 aL.Length), .tr (.int .i64 aL.Priority)])]⟩) (by kernel_rfl) ?_
  refine DGo.nil (by kernel_rfl) ?_
  refine nx_n ?_
  refine swp_seq ?_
  refine swp_seq ?_
  refine swp_reg ?_
  refine SRun.chunk tbok 1 (σ' := ⟨62, [(17, .tr (.int .i64 aPosition)), (6, .tr (.int .i64 (w64 (aL.At.Y + 1)))), (5, .tr (.int .i64 (w64 (aL.At.X + 1)))), (16, .tr (.int .i64 (w64 (aL.At.Y + 1)))), (15, .tr (.int .i64 aL.At.Y)), (14, .ref 2 1), (13, .ref 2 0), (12, .tr (.int .i64 (w64 (aL.At.X + 1)))), (11, .tr (.int .i64 aL.At.X)), (10, .ref 2 0), (9, .ref 2 0), (4, .own 4), (2, .ref 2 0), (0, .agg [.tr (.int .i64 aL.At.X), .tr (.int .i64 aL.At.Y), .tr (.int .i64 aL.Length), .tr (.int .i64 aL.Priority)]), (1, .tr (.int .i64 aPosition))], [(4, .arr 53 2 ([] : List Point).length (([] : List Point).map ePoint)), (2, .box [.tr (.int .i64 aL.At.X), .tr (.int .i64 aL.At.Y), .tr (.int .i64 aL.Length), .tr (.int .i64 aL.Priority)])]⟩) (by kernel_rfl) ?_
  refine SRun.nil ?_
  refine nx_n ?_
  refine swp_seqE (r := r) h (fun j1 => ⟨62, [(2, .ref 2 0), (5, .tr (.int .i64 j1.1)), (6, .tr (.int .i64 j1.2))], [(2, .box [.tr (.int .i64 aL.At.X), .tr (.int .i64 aL.At.Y), .tr (.int .i64 aL.Length), .tr (.int .i64 aL.Priority)])]⟩) (fun v2 h => ?_) (fun j1 h => ?_)
  · refine swp_blk (a := v2) ?_
    refine swp_seq ?_
    refine swp_reg ?_
    refine SRun.chunk tbok 2 (σ' := ⟨62, [(18, .tr (.bool (aPosition == 1))), (19, .tr (.bool (aPosition == 1))), (17, .tr (.int .i64 aPosition)), (6, .tr (.int .i64 (w64 (aL.At.Y + 1)))), (5, .tr (.int .i64 (w64 (aL.At.X + 1)))), (16, .tr (.int .i64 (w64 (aL.At.Y + 1)))), (15, .tr (.int .i64 aL.At.Y)), (14, .ref 2 1), (13, .ref 2 0), (12, .tr (.int .i64 (w64 (aL.At.X + 1)))), (11, .tr (.int .i64 aL.At.X)), (10, .ref 2 0), (9, .ref 2 0), (4, .own 4), (2, .ref 2 0), (0, .agg [.tr (.int .i64 aL.At.X), .tr (.int .i64 aL.At.Y), .tr (.int .i64 aL.Length), .tr (.int .i64 aL.Priority)]), (1, .tr (.int .i64 aPosition))], [(4, .arr 53 2 ([] : List Point).length (([] : List Point).map ePoint)), (2, .box [.tr (.int .i64 aL.At.X), .tr (.int .i64 aL.At.Y), .tr (.int .i64 aL.Length), .tr (.int .i64 aL.Priority)])]⟩) (by kernel_rfl) ?_
    refine SRun.nil ?_
    refine nx_n ?_
    refine swp_cond (b := (aPosition == 1)) (by kernel_rfl) (fun hb => ?_) (fun hb => ?_)
    · replace h := cond_t hb h
      refine swp_reg ?_
      refine SRun.chunk tbok 7 (σ' := ⟨62, [(5, .tr (.int .i64 (w64 (aL.At.X - aL.Length)))), (25, .tr (.int .i64 (w64 (aL.At.X - aL.Length)))), (24, .tr (.int .i64 aL.Length)), (23, .ref 2 2), (22, .tr (.int .i64 aL.At.X)), (21, .ref 2 0), (20, .ref 2 0), (18, .tr (.bool (aPosition == 1))), (19, .tr (.bool (aPosition == 1))), (17, .tr (.int .i64 aPosition)), (6, .tr (.int .i64 (w64 (aL.At.Y + 1)))), (16, .tr (.int .i64 (w64 (aL.At.Y + 1)))), (15, .tr (.int .i64 aL.At.Y)), (14, .ref 2 1), (13, .ref 2 0), (12, .tr (.int .i64 (w64 (aL.At.X + 1)))), (11, .tr (.int .i64 aL.At.X)), (10, .ref 2 0), (9, .ref 2 0), (4, .own 4), (2, .ref 2 0), (0, .agg [.tr (.int .i64 aL.At.X), .tr (.int .i64 aL.At.Y), .tr (.int .i64 aL.Length), .tr (.int .i64 aL.Priority)]), (1, .tr (.int .i64 aPosition))], [(4, .arr 53 2 ([] : List Point).length (([] : List Point).map ePoint)), (2, .box [.tr (.int .i64 aL.At.X), .tr (.int .i64 aL.At.Y), .tr (.int .i64 aL.Length), .tr (.int .i64 aL.Priority)])]⟩) (by kernel_rfl) ?_
      refine SRun.nil ?_
      replace h := Option.some.inj h
      subst h
      exact q_bn (q_l ((Le.sub' ([(2, .ref 2 0), (5, .tr (.int .i64 (w64 (aL.At.X - aL.Length)))), (6, .tr (.int .i64 (w64 (aL.At.Y + 1))))] : List (Nat × SV)) ([(2, .box [.tr (.int .i64 aL.At.X), .tr (.int .i64 aL.At.Y), .tr (.int .i64 aL.Length), .tr (.int .i64 aL.Priority)])] : List (Nat × SO)) (by kernel_rfl) (by kernel_rfl)).trans (Le.sub' ([(2, .ref 2 0), (5, .tr (.int .i64 (w64 (aL.At.X - aL.Length)))), (6, .tr (.int .i64 (w64 (aL.At.Y + 1))))] : List (Nat × SV)) ([(2, .box [.tr (.int .i64 aL.At.X), .tr (.int .i64 aL.At.Y), .tr (.int .i64 aL.Length), .tr (.int .i64 aL.Priority)])] : List (Nat × SO)) (by kernel_rfl) (by kernel_rfl))))
    · replace h := cond_f hb h
      refine swp_seq ?_
      refine swp_reg ?_
      refine SRun.chunk tbok 2 (σ' := ⟨62, [(26, .tr (.bool (aPosition == 2))), (27, .tr (.bool (aPosition == 2))), (18, .tr (.bool (aPosition == 1))), (19, .tr (.bool (aPosition == 1))), (17, .tr (.int .i64 aPosition)), (6, .tr (.int .i64 (w64 (aL.At.Y + 1)))), (5, .tr (.int .i64 (w64 (aL.At.X + 1)))), (16, .tr (.int .i64 (w64 (aL.At.Y + 1)))), (15, .tr (.int .i64 aL.At.Y)), (14, .ref 2 1), (13, .ref 2 0), (12, .tr (.int .i64 (w64 (aL.At.X + 1)))), (11, .tr (.int .i64 aL.At.X)), (10, .ref 2 0), (9, .ref 2 0), (4, .own 4), (2, .ref 2 0), (0, .agg [.tr (.int .i64 aL.At.X), .tr (.int .i64 aL.At.Y), .tr (.int .i64 aL.Length), .tr (.int .i64 aL.Priority)]), (1, .tr (.int .i64 aPosition))], [(4, .arr 53 2 ([] : List Point).length (([] : List Point).map ePoint)), (2, .box [.tr (.int .i64 aL.At.X), .tr (.int .i64 aL.At.Y), .tr (.int .i64 aL.Length), .tr (.int .i64 aL.Priority)])]⟩) (by kernel_rfl) ?_
      refine SRun.nil ?_
      refine nx_n ?_
      refine swp_cond (b := (aPosition == 2)) (by kernel_rfl) (fun hb => ?_) (fun hb => ?_)
      · replace h := cond_t hb h
        refine swp_dr mixed ?_
        refine DGo.chunk' tbok 12 (σ' := ⟨62, [(6, .tr (.int .i64 (w64 (aL.At.Y - 1)))), (5, .tr (.int .i64 (w64 (aL.At.X - aL.Length)))), (37, .tr (.int .i64 (w64 (aL.At.Y - 1)))), (36, .tr (.int .i64 aL.At.Y)), (35, .ref 2 1), (34, .ref 2 0), (33, .tr (.int .i64 (w64 (aL.At.X - aL.Length)))), (32, .tr (.int .i64 aL.Length)), (31, .ref 2 2), (30, .tr (.int .i64 aL.At.X)), (29, .ref 2 0), (28, .ref 2 0), (26, .tr (.bool (aPosition == 2))), (27, .tr (.bool (aPosition == 2))), (18, .tr (.bool (aPosition == 1))), (19, .tr (.bool (aPosition == 1))), (17, .tr (.int .i64 aPosition)), (16, .tr (.int .i64 (w64 (aL.At.Y + 1)))), (15, .tr (.int .i64 aL.At.Y)), (14, .ref 2 1), (13, .ref 2 0), (12, .tr (.int .i64 (w64 (aL.At.X + 1)))), (11, .tr (.int .i64 aL.At.X)), (10, .ref 2 0), (9, .ref 2 0), (4, .own 4), (2, .ref 2 0), (0, .agg [.tr (.int .i64 aL.At.X), .tr (.int .i64 aL.At.Y), .tr (.int .i64 aL.Length), .tr (.int .i64 aL.Priority)]), (1, .tr (.int .i64 aPosition))], [(4, .arr 53 2 ([] : List Point).length (([] : List Point).map ePoint)), (2, .box [.tr (.int .i64 aL.At.X), .tr (.int .i64 aL.At.Y), .tr (.int .i64 aL.Length), .tr (.int .i64 aL.Priority)])]⟩) (by kernel_rfl) ?_
        refine DGo.nil (by kernel_rfl) ?_
        replace h := Option.some.inj h
        subst h
        exact q_bn (q_l ((Le.sub' ([(2, .ref 2 0), (5, .tr (.int .i64 (w64 (aL.At.X - aL.Length)))), (6, .tr (.int .i64 (w64 (aL.At.Y - 1))))] : List (Nat × SV)) ([(2, .box [.tr (.int .i64 aL.At.X), .tr (.int .i64 aL.At.Y), .tr (.int .i64 aL.Length), .tr (.int .i64 aL.Priority)])] : List (Nat × SO)) (by kernel_rfl) (by kernel_rfl)).trans (Le.sub' ([(2, .ref 2 0), (5, .tr (.int .i64 (w64 (aL.At.X - aL.Length)))), (6, .tr (.int .i64 (w64 (aL.At.Y - 1))))] : List (Nat × SV)) ([(2, .box [.tr (.int .i64 aL.At.X), .tr (.int .i64 aL.At.Y), .tr (.int .i64 aL.Length), .tr (.int .i64 aL.Priority)])] : List (Nat × SO)) (by kernel_rfl) (by kernel_rfl))))
      · replace h := cond_f hb h
        refine swp_seq ?_
        refine swp_reg ?_
        refine SRun.chunk tbok 2 (σ' := ⟨62, [(38, .tr (.bool (aPosition == 3))), (39, .tr (.bool (aPosition == 3))), (26, .tr (.bool (aPosition == 2))), (27, .tr (.bool (aPosition == 2))), (18, .tr (.bool (aPosition == 1))), (19, .tr (.bool (aPosition == 1))), (17, .tr (.int .i64 aPosition)), (6, .tr (.int .i64 (w64 (aL.At.Y + 1)))), (5, .tr (.int .i64 (w64 (aL.At.X + 1)))), (16, .tr (.int .i64 (w64 (aL.At.Y + 1)))), (15, .tr (.int .i64 aL.At.Y)), (14, .ref 2 1), (13, .ref 2 0), (12, .tr (.int .i64 (w64 (aL.At.X + 1)))), (11, .tr (.int .i64 aL.At.X)), (10, .ref 2 0), (9, .ref 2 0), (4, .own 4), (2, .ref 2 0), (0, .agg [.tr (.int .i64 aL.At.X), .tr (.int .i64 aL.At.Y), .tr (.int .i64 aL.Length), .tr (.int .i64 aL.Priority)]), (1, .tr (.int .i64 aPosition))], [(4, .arr 53 2 ([] : List Point).length (([] : List Point).map ePoint)), (2, .box [.tr (.int .i64 aL.At.X), .tr (.int .i64 aL.At.Y), .tr (.int .i64 aL.Length), .tr (.int .i64 aL.Priority)])]⟩) (by kernel_rfl) ?_
        refine SRun.nil ?_
        refine nx_n ?_
        refine swp_cond (b := (aPosition == 3)) (by kernel_rfl) (fun hb => ?_) (fun hb => ?_)
        · replace h := cond_t hb h
          refine swp_reg ?_
          refine SRun.chunk tbok 5 (σ' := ⟨62, [(6, .tr (.int .i64 (w64 (aL.At.Y - 1)))), (43, .tr (.int .i64 (w64 (aL.At.Y - 1)))), (42, .tr (.int .i64 aL.At.Y)), (41, .ref 2 1), (40, .ref 2 0), (38, .tr (.bool (aPosition == 3))), (39, .tr (.bool (aPosition == 3))), (26, .tr (.bool (aPosition == 2))), (27, .tr (.bool (aPosition == 2))), (18, .tr (.bool (aPosition == 1))), (19, .tr (.bool (aPosition == 1))), (17, .tr (.int .i64 aPosition)), (5, .tr (.int .i64 (w64 (aL.At.X + 1)))), (16, .tr (.int .i64 (w64 (aL.At.Y + 1)))), (15, .tr (.int .i64 aL.At.Y)), (14, .ref 2 1), (13, .ref 2 0), (12, .tr (.int .i64 (w64 (aL.At.X + 1)))), (11, .tr (.int .i64 aL.At.X)), (10, .ref 2 0), (9, .ref 2 0), (4, .own 4), (2, .ref 2 0), (0, .agg [.tr (.int .i64 aL.At.X), .tr (.int .i64 aL.At.Y), .tr (.int .i64 aL.Length), .tr (.int .i64 aL.Priority)]), (1, .tr (.int .i64 aPosition))], [(4, .arr 53 2 ([] : List Point).length (([] : List Point).map ePoint)), (2, .box [.tr (.int .i64 aL.At.X), .tr (.int .i64 aL.At.Y), .tr (.int .i64 aL.Length), .tr (.int .i64 aL.Priority)])]⟩) (by kernel_rfl) ?_
          refine SRun.nil ?_
          replace h := Option.some.inj h
          subst h
          exact q_bn (q_l ((Le.sub' ([(2, .ref 2 0), (5, .tr (.int .i64 (w64 (aL.At.X + 1)))), (6, .tr (.int .i64 (w64 (aL.At.Y - 1))))] : List (Nat × SV)) ([(2, .box [.tr (.int .i64 aL.At.X), .tr (.int .i64 aL.At.Y), .tr (.int .i64 aL.Length), .tr (.int .i64 aL.Priority)])] : List (Nat × SO)) (by kernel_rfl) (by kernel_rfl)).trans (Le.sub' ([(2, .ref 2 0), (5, .tr (.int .i64 (w64 (aL.At.X + 1)))), (6, .tr (.int .i64 (w64 (aL.At.Y - 1))))] : List (Nat × SV)) ([(2, .box [.tr (.int .i64 aL.At.X), .tr (.int .i64 aL.At.Y), .tr (.int .i64 aL.Length), .tr (.int .i64 aL.Priority)])] : List (Nat × SO)) (by kernel_rfl) (by kernel_rfl))))
        · replace h := cond_f hb h
          refine swp_seq ?_
          refine swp_reg ?_
          refine SRun.chunk tbok 2 (σ' := ⟨62, [(44, .tr (.bool (aPosition == 4))), (45, .tr (.bool (aPosition == 4))), (38, .tr (.bool (aPosition == 3))), (39, .tr (.bool (aPosition == 3))), (26, .tr (.bool (aPosition == 2))), (27, .tr (.bool (aPosition == 2))), (18, .tr (.bool (aPosition == 1))), (19, .tr (.bool (aPosition == 1))), (17, .tr (.int .i64 aPosition)), (6, .tr (.int .i64 (w64 (aL.At.Y + 1)))), (5, .tr (.int .i64 (w64 (aL.At.X + 1)))), (16, .tr (.int .i64 (w64 (aL.At.Y + 1)))), (15, .tr (.int .i64 aL.At.Y)), (14, .ref 2 1), (13, .ref 2 0), (12, .tr (.int .i64 (w64 (aL.At.X + 1)))), (11, .tr (.int .i64 aL.At.X)), (10, .ref 2 0), (9, .ref 2 0), (4, .own 4), (2, .ref 2 0), (0, .agg [.tr (.int .i64 aL.At.X), .tr (.int .i64 aL.At.Y), .tr (.int .i64 aL.Length), .tr (.int .i64 aL.Priority)]), (1, .tr (.int .i64 aPosition))], [(4, .arr 53 2 ([] : List Point).length (([] : List Point).map ePoint)), (2, .box [.tr (.int .i64 aL.At.X), .tr (.int .i64 aL.At.Y), .tr (.int .i64 aL.Length), .tr (.int .i64 aL.Priority)])]⟩) (by kernel_rfl) ?_
          refine SRun.nil ?_
          refine nx_n ?_
          refine swp_cond (b := (aPosition == 4)) (by kernel_rfl) (fun hb => ?_) (fun hb => ?_)
          · replace h := cond_t hb h
            refine swp_seq ?_
            refine swp_reg ?_
            refine SRun.le (Le.ren' (d := 4) (e := 61) (by kernel_rfl) (by kernel_rfl) (by kernel_rfl)) ?_
            refine SRun.chunk tbok 1 (σ' := ⟨62, [(4, .own 4), (44, .tr (.bool (aPosition == 4))), (45, .tr (.bool (aPosition == 4))), (38, .tr (.bool (aPosition == 3))), (39, .tr (.bool (aPosition == 3))), (26, .tr (.bool (aPosition == 2))), (27, .tr (.bool (aPosition == 2))), (18, .tr (.bool (aPosition == 1))), (19, .tr (.bool (aPosition == 1))), (17, .tr (.int .i64 aPosition)), (6, .tr (.int .i64 (w64 (aL.At.Y + 1)))), (5, .tr (.int .i64 (w64 (aL.At.X + 1)))), (16, .tr (.int .i64 (w64 (aL.At.Y + 1)))), (15, .tr (.int .i64 aL.At.Y)), (14, .ref 2 1), (13, .ref 2 0), (12, .tr (.int .i64 (w64 (aL.At.X + 1)))), (11, .tr (.int .i64 aL.At.X)), (10, .ref 2 0), (9, .ref 2 0), (2, .ref 2 0), (0, .agg [.tr (.int .i64 aL.At.X), .tr (.int .i64 aL.At.Y), .tr (.int .i64 aL.Length), .tr (.int .i64 aL.Priority)]), (1, .tr (.int .i64 aPosition))], [(4, .arr 53 2 ([] : List Point).length (([] : List Point).map ePoint)), (61, .arr 53 2 ([] : List Point).length (([] : List Point).map ePoint)), (2, .box [.tr (.int .i64 aL.At.X), .tr (.int .i64 aL.At.Y), .tr (.int .i64 aL.Length), .tr (.int .i64 aL.Priority)])]⟩) (by kernel_rfl) ?_
            refine SRun.nil ?_
            refine nx_n ?_
            refine swp_ret ?_
            replace h := Option.some.inj h
            subst h
            exact q_br (q_rr (q_fr (fin1 (by kernel_rfl) (finO (d := 4) (holds_t (by kernel_rfl)) (by kernel_rfl) (flat_map ePoint_flat _) (by kernel_rfl)))))
          · replace h := cond_f hb h
            refine swp_skip ?_
            replace h := Option.some.inj h
            subst h
            exact q_bn (q_l ((Le.sub' ([(2, .ref 2 0), (5, .tr (.int .i64 (w64 (aL.At.X + 1)))), (6, .tr (.int .i64 (w64 (aL.At.Y + 1))))] : List (Nat × SV)) ([(2, .box [.tr (.int .i64 aL.At.X), .tr (.int .i64 aL.At.Y), .tr (.int .i64 aL.Length), .tr (.int .i64 aL.Priority)])] : List (Nat × SO)) (by kernel_rfl) (by kernel_rfl)).trans (Le.sub' ([(2, .ref 2 0), (5, .tr (.int .i64 (w64 (aL.At.X + 1)))), (6, .tr (.int .i64 (w64 (aL.At.Y + 1))))] : List (Nat × SV)) ([(2, .box [.tr (.int .i64 aL.At.X), .tr (.int .i64 aL.At.Y), .tr (.int .i64 aL.Length), .tr (.int .i64 aL.Priority)])] : List (Nat × SO)) (by kernel_rfl) (by kernel_rfl))))
  · refine swp_seq ?_
    refine swp_reg ?_
    refine SRun.chunk tbok 1 (σ' := ⟨62, [(7, .own 7), (2, .ref 2 0), (5, .tr (.int .i64 j1.1)), (6, .tr (.int .i64 j1.2))], [(7, .arr 53 2 ([] : List Point).length (([] : List Point).map ePoint)), (2, .box [.tr (.int .i64 aL.At.X), .tr (.int .i64 aL.At.Y), .tr (.int .i64 aL.Length), .tr (.int .i64 aL.Priority)])]⟩) (by kernel_rfl) ?_
    refine SRun.nil ?_
    refine nx_n ?_
    refine swp_seq ?_
    refine swp_seq ?_
    refine swp_reg ?_
    refine SRun.chunk tbok 2 (σ' := ⟨62, [(8, .tr (.int .i64 j1.1)), (46, .tr (.int .i64 j1.1)), (7, .own 7), (2, .ref 2 0), (5, .tr (.int .i64 j1.1)), (6, .tr (.int .i64 j1.2))], [(7, .arr 53 2 ([] : List Point).length (([] : List Point).map ePoint)), (2, .box [.tr (.int .i64 aL.At.X), .tr (.int .i64 aL.At.Y), .tr (.int .i64 aL.Length), .tr (.int .i64 aL.Priority)])]⟩) (by kernel_rfl) ?_
    refine SRun.nil ?_
    refine nx_n ?_
    refine swp_seqJ h (fun j3 => ⟨62, [(7, .own 7)], [(7, .arr 53 2 j3.length (j3.map ePoint))]⟩) (fun v4 h => ?_) (fun j3 h => ?_)
    · refine swp_blk (a := v4) ?_
      refine swp_lpL (r := v4) (s := (j1.1, ([] : List Point))) _ (fun s5 => ⟨62, [(2, .ref 2 0), (5, .tr (.int .i64 j1.1)), (6, .tr (.int .i64 j1.2)), (7, .own 7), (8, .tr (.int .i64 s5.1))], [(2, .box [.tr (.int .i64 aL.At.X), .tr (.int .i64 aL.At.Y), .tr (.int .i64 aL.Length), .tr (.int .i64 aL.Priority)]), (7, .arr 53 2 s5.2.length (s5.2.map ePoint))]⟩) _ ((Le.sub' ([(2, .ref 2 0), (5, .tr (.int .i64 j1.1)), (6, .tr (.int .i64 j1.2)), (7, .own 7), (8, .tr (.int .i64 j1.1))] : List (Nat × SV)) ([(2, .box [.tr (.int .i64 aL.At.X), .tr (.int .i64 aL.At.Y), .tr (.int .i64 aL.Length), .tr (.int .i64 aL.Priority)]), (7, .arr 53 2 ([] : List Point).length (([] : List Point).map ePoint))] : List (Nat × SO)) (by kernel_rfl) (by kernel_rfl)).trans (Le.sub' ([(2, .ref 2 0), (5, .tr (.int .i64 j1.1)), (6, .tr (.int .i64 j1.2)), (7, .own 7), (8, .tr (.int .i64 j1.1))] : List (Nat × SV)) ([(2, .box [.tr (.int .i64 aL.At.X), .tr (.int .i64 aL.At.Y), .tr (.int .i64 aL.Length), .tr (.int .i64 aL.Priority)]), (7, .arr 53 2 ([] : List Point).length (([] : List Point).map ePoint))] : List (Nat × SO)) (by kernel_rfl) (by kernel_rfl))) h (fun s5 v6 h => ?_)
      refine swp_seq ?_
      refine swp_seq ?_
      refine swp_reg ?_
      refine SRun.chunk tbok 6 (σ' := ⟨62, [(52, .tr (.bool (decide (s5.1 < (w64 (j1.1 + aL.Length)))))), (51, .tr (.int .i64 (w64 (j1.1 + aL.Length)))), (50, .tr (.int .i64 aL.Length)), (49, .ref 2 2), (48, .tr (.int .i64 j1.1)), (47, .tr (.int .i64 s5.1)), (2, .ref 2 0), (5, .tr (.int .i64 j1.1)), (6, .tr (.int .i64 j1.2)), (7, .own 7), (8, .tr (.int .i64 s5.1))], [(2, .box [.tr (.int .i64 aL.At.X), .tr (.int .i64 aL.At.Y), .tr (.int .i64 aL.Length), .tr (.int .i64 aL.Priority)]), (7, .arr 53 2 s5.2.length (s5.2.map ePoint))]⟩) (by kernel_rfl) ?_
      refine SRun.nil ?_
      refine nx_n ?_
      refine swp_cond (b := (decide (s5.1 < (w64 (j1.1 + aL.Length))))) (by kernel_rfl) (fun hb => ?_) (fun hb => ?_)
      · replace h := cond_t hb h
        refine swp_skip ?_
        refine nx_n ?_
        refine swp_seq ?_
        refine swp_seqJ h (fun j7 => ⟨62, [(2, .ref 2 0), (5, .tr (.int .i64 j1.1)), (6, .tr (.int .i64 j1.2)), (7, .own 7), (8, .tr (.int .i64 s5.1))], [(2, .box [.tr (.int .i64 aL.At.X), .tr (.int .i64 aL.At.Y), .tr (.int .i64 aL.Length), .tr (.int .i64 aL.Priority)]), (7, .arr 53 2 j7.length (j7.map ePoint))]⟩) (fun v8 h => ?_) (fun j7 h => ?_)
        · refine swp_blk (a := v8) ?_
          refine swp_reg ?_
          refine SRun.chunk tbok 3 (σ' := ⟨62, [(57, .tr (.int .i64 j1.2)), (56, .tr (.int .i64 s5.1)), (55, .own 7), (52, .tr (.bool (decide (s5.1 < (w64 (j1.1 + aL.Length)))))), (51, .tr (.int .i64 (w64 (j1.1 + aL.Length)))), (50, .tr (.int .i64 aL.Length)), (49, .ref 2 2), (48, .tr (.int .i64 j1.1)), (47, .tr (.int .i64 s5.1)), (2, .ref 2 0), (5, .tr (.int .i64 j1.1)), (6, .tr (.int .i64 j1.2)), (7, .own 7), (8, .tr (.int .i64 s5.1))], [(2, .box [.tr (.int .i64 aL.At.X), .tr (.int .i64 aL.At.Y), .tr (.int .i64 aL.Length), .tr (.int .i64 aL.Priority)]), (7, .arr 53 2 s5.2.length (s5.2.map ePoint))]⟩) (by kernel_rfl) ?_
          refine SRun.lstep (lstep_build (v := .agg [.tr (.int .i64 s5.1), .tr (.int .i64 j1.2)]) tbok rfl (by kernel_rfl) (by kernel_rfl) (by kernel_rfl)) (by kernel_rfl) ?_
          refine SRun.chunk tbok 1 (σ' := ⟨62, [(59, .own 59), (58, .agg [.tr (.int .i64 s5.1), .tr (.int .i64 j1.2)]), (57, .tr (.int .i64 j1.2)), (56, .tr (.int .i64 s5.1)), (55, .own 7), (52, .tr (.bool (decide (s5.1 < (w64 (j1.1 + aL.Length)))))), (51, .tr (.int .i64 (w64 (j1.1 + aL.Length)))), (50, .tr (.int .i64 aL.Length)), (49, .ref 2 2), (48, .tr (.int .i64 j1.1)), (47, .tr (.int .i64 s5.1)), (2, .ref 2 0), (5, .tr (.int .i64 j1.1)), (6, .tr (.int .i64 j1.2)), (7, .own 7), (8, .tr (.int .i64 s5.1))], [(59, .arr 53 2 ([(Point.mk s5.1 j1.2)] : List Point).length (([(Point.mk s5.1 j1.2)] : List Point).map ePoint)), (2, .box [.tr (.int .i64 aL.At.X), .tr (.int .i64 aL.At.Y), .tr (.int .i64 aL.Length), .tr (.int .i64 aL.Priority)]), (7, .arr 53 2 s5.2.length (s5.2.map ePoint))]⟩) (by kernel_rfl) ?_
          obtain ⟨x9, hx9, h⟩ := bind_some h
          refine SRun.estep (t_append (f := ePoint) (t := 40) (ti := ti40) (tj := ti53) (zs := [.int .i64 0, .int .i64 0]) (e := 53) (m := 2) (d := 7) (xv := .own 59) hx9 tbok rfl rfl rfl rfl (by kernel_rfl) (by kernel_rfl) (by kernel_rfl) (by kernel_rfl) (by kernel_rfl) (by kernel_rfl) (by kernel_rfl) (by kernel_rfl) (by kernel_rfl) (by kernel_rfl) (by kernel_rfl) (by kernel_rfl) (by kernel_rfl) (by kernel_rfl) (src_o (e := 53) (by kernel_rfl)) (by kernel_rfl)) ?_
          refine SRun.chunk tbok 1 (σ' := ⟨62, [(7, .own 60), (60, .own 60), (59, .own 59), (58, .agg [.tr (.int .i64 s5.1), .tr (.int .i64 j1.2)]), (57, .tr (.int .i64 j1.2)), (56, .tr (.int .i64 s5.1)), (52, .tr (.bool (decide (s5.1 < (w64 (j1.1 + aL.Length)))))), (51, .tr (.int .i64 (w64 (j1.1 + aL.Length)))), (50, .tr (.int .i64 aL.Length)), (49, .ref 2 2), (48, .tr (.int .i64 j1.1)), (47, .tr (.int .i64 s5.1)), (2, .ref 2 0), (5, .tr (.int .i64 j1.1)), (6, .tr (.int .i64 j1.2)), (8, .tr (.int .i64 s5.1))], [(60, .arr 53 2 x9.length (x9.map ePoint)), (59, .arr 53 2 ([(Point.mk s5.1 j1.2)] : List Point).length (([(Point.mk s5.1 j1.2)] : List Point).map ePoint)), (2, .box [.tr (.int .i64 aL.At.X), .tr (.int .i64 aL.At.Y), .tr (.int .i64 aL.Length), .tr (.int .i64 aL.Priority)])]⟩) (by kernel_rfl) ?_
          refine SRun.nil ?_
          replace h := Option.some.inj h
          subst h
          exact q_bn (q_j ((Le.sub' ([(2, .ref 2 0), (5, .tr (.int .i64 j1.1)), (6, .tr (.int .i64 j1.2)), (7, .own 60), (8, .tr (.int .i64 s5.1))] : List (Nat × SV)) ([(2, .box [.tr (.int .i64 aL.At.X), .tr (.int .i64 aL.At.Y), .tr (.int .i64 aL.Length), .tr (.int .i64 aL.Priority)]), (60, .arr 53 2 x9.length (x9.map ePoint))] : List (Nat × SO)) (by kernel_rfl) (by kernel_rfl)).trans ((Le.ren' (d := 60) (e := 7) (by kernel_rfl) (by kernel_rfl) (by kernel_rfl)).trans (Le.sub' ([(2, .ref 2 0), (5, .tr (.int .i64 j1.1)), (6, .tr (.int .i64 j1.2)), (7, .own 7), (8, .tr (.int .i64 s5.1))] : List (Nat × SV)) ([(2, .box [.tr (.int .i64 aL.At.X), .tr (.int .i64 aL.At.Y), .tr (.int .i64 aL.Length), .tr (.int .i64 aL.Priority)]), (7, .arr 53 2 x9.length (x9.map ePoint))] : List (Nat × SO)) (by kernel_rfl) (by kernel_rfl)))))
        · refine swp_reg ?_
          refine SRun.chunk tbok 3 (σ' := ⟨62, [(8, .tr (.int .i64 (w64 (s5.1 + 1)))), (54, .tr (.int .i64 (w64 (s5.1 + 1)))), (53, .tr (.int .i64 s5.1)), (2, .ref 2 0), (5, .tr (.int .i64 j1.1)), (6, .tr (.int .i64 j1.2)), (7, .own 7)], [(2, .box [.tr (.int .i64 aL.At.X), .tr (.int .i64 aL.At.Y), .tr (.int .i64 aL.Length), .tr (.int .i64 aL.Priority)]), (7, .arr 53 2 j7.length (j7.map ePoint))]⟩) (by kernel_rfl) ?_
          refine SRun.nil ?_
          replace h := Option.some.inj h
          subst h
          exact q_l ((Le.sub' ([(2, .ref 2 0), (5, .tr (.int .i64 j1.1)), (6, .tr (.int .i64 j1.2)), (7, .own 7), (8, .tr (.int .i64 (w64 (s5.1 + 1))))] : List (Nat × SV)) ([(2, .box [.tr (.int .i64 aL.At.X), .tr (.int .i64 aL.At.Y), .tr (.int .i64 aL.Length), .tr (.int .i64 aL.Priority)]), (7, .arr 53 2 j7.length (j7.map ePoint))] : List (Nat × SO)) (by kernel_rfl) (by kernel_rfl)).trans (Le.sub' ([(2, .ref 2 0), (5, .tr (.int .i64 j1.1)), (6, .tr (.int .i64 j1.2)), (7, .own 7), (8, .tr (.int .i64 (w64 (s5.1 + 1))))] : List (Nat × SV)) ([(2, .box [.tr (.int .i64 aL.At.X), .tr (.int .i64 aL.At.Y), .tr (.int .i64 aL.Length), .tr (.int .i64 aL.Priority)]), (7, .arr 53 2 j7.length (j7.map ePoint))] : List (Nat × SO)) (by kernel_rfl) (by kernel_rfl)))
      · replace h := cond_f hb h
        refine swp_exit ?_
        replace h := Option.some.inj h
        subst h
        exact nx_e (q_re (q_bh (q_j ((Le.sub' ([(7, .own 7)] : List (Nat × SV)) ([(7, .arr 53 2 s5.2.length (s5.2.map ePoint))] : List (Nat × SO)) (by kernel_rfl) (by kernel_rfl)).trans (Le.sub' ([(7, .own 7)] : List (Nat × SV)) ([(7, .arr 53 2 s5.2.length (s5.2.map ePoint))] : List (Nat × SO)) (by kernel_rfl) (by kernel_rfl))))))
    · refine swp_seq ?_
      refine swp_reg ?_
      refine SRun.chunk tbok 2 (σ' := ⟨62, [(4, .own 7), (61, .own 7), (7, .own 7)], [(7, .arr 53 2 j3.length (j3.map ePoint))]⟩) (by kernel_rfl) ?_
      refine SRun.nil ?_
      refine nx_n ?_
      refine swp_ret ?_
      replace h := Option.some.inj h
      subst h
      exact q_fr (fin1 (by kernel_rfl) (finO (d := 7) (holds_t (by kernel_rfl)) (by kernel_rfl) (flat_map ePoint_flat _) (by kernel_rfl)))
theorem ents67 : Ents Try.prog 67 := ents_of Try.func67 (by kernel_rfl) rfl
noncomputable def impl_CoveredBy (aList : (List Label)) (aIndex : Int) (aPosition : Int) : Option ((List Point) × Int) :=
  ((impl_labelCode aList aIndex).bind fun x1 => (((bif (x1 != 0) then some (.inr (([] : List Point), x1)) else ((impl_within aPosition 0 3).bind fun x4 => (bif (!x4) then some (.inr (([] : List Point), 2)) else some (.inl ()))))).bind (Sum.elim (fun (j2 : Unit) => ((at' aList aIndex).bind fun x5 => ((impl_Label_covered x5 aPosition).bind fun x6 => some (x6, 0)))) some)))
set_option maxRecDepth 100000 in
set_option maxHeartbeats 4000000 in
theorem impl_CoveredBy_run (aList : (List Label)) (aIndex : Int) (aPosition : Int) (r : (List Point) × Int) (h : impl_CoveredBy aList aIndex aPosition = some r) : SCall Try.prog 28 [.v (.tr (.sl aList.length (aList.map eLabel))), .v (.tr (.int .i64 aIndex)), .v (.tr (.int .i64 aPosition))] ⟨[.own 53 2 r.1.length (r.1.map ePoint), .v (.tr (.int .i64 r.2))], [], false⟩ := by
  refine scall_intro' (P := Try.prog) Try.func28 rfl [(.tmp 6), (.tmp 7)] rfl (ins := [.v (.tr (.sl aList.length (aList.map eLabel))), .v (.tr (.int .i64 aIndex)), .v (.tr (.int .i64 aPosition))]) (by kernel_rfl) (by kernel_rfl) rfl (fun r => ⟨[.own 53 2 r.1.length (r.1.map ePoint), .v (.tr (.int .i64 r.2))], [], false⟩) (r := r) ?_
  unfold impl_CoveredBy at h
  refine swp_seq ?_
  refine swp_reg ?_
  refine SRun.chunk tbok 2 (σ' := ⟨26, [(7, .tr (.int .i64 0)), (6, .own 6), (0, .tr (.sl aList.length (aList.map eLabel))), (1, .tr (.int .i64 aIndex)), (2, .tr (.int .i64 aPosition))], [(6, .arr 53 2 ([] : List Point).length (([] : List Point).map ePoint))]⟩) (by kernel_rfl) ?_
  refine SRun.nil ?_
  refine nx_n ?_
  refine swp_seq ?_
  refine swp_reg ?_
  refine SRun.chunk tbok 2 (σ' := ⟨26, [(10, .tr (.int .i64 aIndex)), (9, .tr (.sl aList.length (aList.map eLabel))), (7, .tr (.int .i64 0)), (6, .own 6), (0, .tr (.sl aList.length (aList.map eLabel))), (1, .tr (.int .i64 aIndex)), (2, .tr (.int .i64 aPosition))], [(6, .arr 53 2 ([] : List Point).length (([] : List Point).map ePoint))]⟩) (by kernel_rfl) ?_
  obtain ⟨x1, hx1, h⟩ := bind_some h
  refine SRun.lstep (lstep_call (f := 64) (caps := []) (xs := [.tr (.sl aList.length (aList.map eLabel)), .tr (.int .i64 aIndex)]) (ys := [.tr (.sl aList.length (aList.map eLabel)), .tr (.int .i64 aIndex)]) (res := ⟨[.v (.tr (.int .i64 x1))], [], false⟩) (x := .tr (.int .i64 x1)) (y := none) rfl (by kernel_rfl) (by kernel_rfl) (by kernel_rfl) (by kernel_rfl) (by kernel_rfl) ents64 (impl_labelCode_run aList aIndex _ hx1) rfl (by intro hc; cases hc) (by kernel_rfl)) (by kernel_rfl) ?_
  refine SRun.chunk tbok 1 (σ' := ⟨26, [(8, .tr (.int .i64 x1)), (11, .tr (.int .i64 x1)), (10, .tr (.int .i64 aIndex)), (9, .tr (.sl aList.length (aList.map eLabel))), (7, .tr (.int .i64 0)), (6, .own 6), (0, .tr (.sl aList.length (aList.map eLabel))), (1, .tr (.int .i64 aIndex)), (2, .tr (.int .i64 aPosition))], [(6, .arr 53 2 ([] : List Point).length (([] : List Point).map ePoint))]⟩) (by kernel_rfl) ?_
  refine SRun.nil ?_
  refine nx_n ?_
  refine swp_seq ?_
  refine swp_seqE (r := r) h (fun j2 => ⟨26, [(0, .tr (.sl aList.length (aList.map eLabel))), (1, .tr (.int .i64 aIndex)), (2, .tr (.int .i64 aPosition))], []⟩) (fun v3 h => ?_) (fun j2 h => ?_)
  · refine swp_blk (a := v3) ?_
    refine swp_seq ?_
    refine swp_reg ?_
    refine SRun.chunk tbok 3 (σ' := ⟨26, [(12, .tr (.bool (x1 != 0))), (14, .tr (.bool (x1 != 0))), (13, .tr (.int .i64 x1)), (8, .tr (.int .i64 x1)), (11, .tr (.int .i64 x1)), (10, .tr (.int .i64 aIndex)), (9, .tr (.sl aList.length (aList.map eLabel))), (7, .tr (.int .i64 0)), (6, .own 6), (0, .tr (.sl aList.length (aList.map eLabel))), (1, .tr (.int .i64 aIndex)), (2, .tr (.int .i64 aPosition))], [(6, .arr 53 2 ([] : List Point).length (([] : List Point).map ePoint))]⟩) (by kernel_rfl) ?_
    refine SRun.nil ?_
    refine nx_n ?_
    refine swp_cond (b := (x1 != 0)) (by kernel_rfl) (fun hb => ?_) (fun hb => ?_)
    · replace h := cond_t hb h
      refine swp_seq ?_
      refine swp_reg ?_
      refine SRun.chunk tbok 1 (σ' := ⟨26, [(15, .tr (.int .i64 x1)), (12, .tr (.bool (x1 != 0))), (14, .tr (.bool (x1 != 0))), (13, .tr (.int .i64 x1)), (8, .tr (.int .i64 x1)), (11, .tr (.int .i64 x1)), (10, .tr (.int .i64 aIndex)), (9, .tr (.sl aList.length (aList.map eLabel))), (7, .tr (.int .i64 0)), (6, .own 6), (0, .tr (.sl aList.length (aList.map eLabel))), (1, .tr (.int .i64 aIndex)), (2, .tr (.int .i64 aPosition))], [(6, .arr 53 2 ([] : List Point).length (([] : List Point).map ePoint))]⟩) (by kernel_rfl) ?_
      refine SRun.le (Le.ren' (d := 6) (e := 24) (by kernel_rfl) (by kernel_rfl) (by kernel_rfl)) ?_
      refine SRun.chunk tbok 2 (σ' := ⟨26, [(7, .tr (.int .i64 x1)), (6, .own 6), (15, .tr (.int .i64 x1)), (12, .tr (.bool (x1 != 0))), (14, .tr (.bool (x1 != 0))), (13, .tr (.int .i64 x1)), (8, .tr (.int .i64 x1)), (11, .tr (.int .i64 x1)), (10, .tr (.int .i64 aIndex)), (9, .tr (.sl aList.length (aList.map eLabel))), (0, .tr (.sl aList.length (aList.map eLabel))), (1, .tr (.int .i64 aIndex)), (2, .tr (.int .i64 aPosition))], [(6, .arr 53 2 ([] : List Point).length (([] : List Point).map ePoint)), (24, .arr 53 2 ([] : List Point).length (([] : List Point).map ePoint))]⟩) (by kernel_rfl) ?_
      refine SRun.nil ?_
      refine nx_n ?_
      refine swp_ret ?_
      replace h := Option.some.inj h
      subst h
      exact q_br (q_rr (q_fr (fin2 (by kernel_rfl) (finO (d := 6) (holds_t (by kernel_rfl)) (by kernel_rfl) (flat_map ePoint_flat _) (by kernel_rfl)) (finV rfl (by simp [SV.Flat, SV.Flat.FlatL, Tr.flat]) (holds_t (by kernel_rfl))))))
    · replace h := cond_f hb h
      refine swp_seq ?_
      refine swp_reg ?_
      refine SRun.chunk tbok 1 (σ' := ⟨26, [(17, .tr (.int .i64 aPosition)), (12, .tr (.bool (x1 != 0))), (14, .tr (.bool (x1 != 0))), (13, .tr (.int .i64 x1)), (8, .tr (.int .i64 x1)), (11, .tr (.int .i64 x1)), (10, .tr (.int .i64 aIndex)), (9, .tr (.sl aList.length (aList.map eLabel))), (7, .tr (.int .i64 0)), (6, .own 6), (0, .tr (.sl aList.length (aList.map eLabel))), (1, .tr (.int .i64 aIndex)), (2, .tr (.int .i64 aPosition))], [(6, .arr 53 2 ([] : List Point).length (([] : List Point).map ePoint))]⟩) (by kernel_rfl) ?_
      obtain ⟨x4, hx4, h⟩ := bind_some h
      refine SRun.lstep (lstep_call (f := 55) (caps := []) (xs := [.tr (.int .i64 aPosition), .tr (.int .i64 0), .tr (.int .i64 3)]) (ys := [.tr (.int .i64 aPosition), .tr (.int .i64 0), .tr (.int .i64 3)]) (res := ⟨[.v (.tr (.bool x4))], [], false⟩) (x := .tr (.bool x4)) (y := none) rfl (by kernel_rfl) (by kernel_rfl) (by kernel_rfl) (by kernel_rfl) (by kernel_rfl) ents55 (impl_within_run aPosition 0 3 _ hx4) rfl (by intro hc; cases hc) (by kernel_rfl)) (by kernel_rfl) ?_
      refine SRun.chunk tbok 2 (σ' := ⟨26, [(16, .tr (.bool (!x4))), (19, .tr (.bool (!x4))), (18, .tr (.bool x4)), (17, .tr (.int .i64 aPosition)), (12, .tr (.bool (x1 != 0))), (14, .tr (.bool (x1 != 0))), (13, .tr (.int .i64 x1)), (8, .tr (.int .i64 x1)), (11, .tr (.int .i64 x1)), (10, .tr (.int .i64 aIndex)), (9, .tr (.sl aList.length (aList.map eLabel))), (7, .tr (.int .i64 0)), (6, .own 6), (0, .tr (.sl aList.length (aList.map eLabel))), (1, .tr (.int .i64 aIndex)), (2, .tr (.int .i64 aPosition))], [(6, .arr 53 2 ([] : List Point).length (([] : List Point).map ePoint))]⟩) (by kernel_rfl) ?_
      refine SRun.nil ?_
      refine nx_n ?_
      refine swp_cond (b := (!x4)) (by kernel_rfl) (fun hb => ?_) (fun hb => ?_)
      · replace h := cond_t hb h
        refine swp_seq ?_
        refine swp_reg ?_
        refine SRun.le (Le.ren' (d := 6) (e := 24) (by kernel_rfl) (by kernel_rfl) (by kernel_rfl)) ?_
        refine SRun.chunk tbok 2 (σ' := ⟨26, [(7, .tr (.int .i64 2)), (6, .own 6), (16, .tr (.bool (!x4))), (19, .tr (.bool (!x4))), (18, .tr (.bool x4)), (17, .tr (.int .i64 aPosition)), (12, .tr (.bool (x1 != 0))), (14, .tr (.bool (x1 != 0))), (13, .tr (.int .i64 x1)), (8, .tr (.int .i64 x1)), (11, .tr (.int .i64 x1)), (10, .tr (.int .i64 aIndex)), (9, .tr (.sl aList.length (aList.map eLabel))), (0, .tr (.sl aList.length (aList.map eLabel))), (1, .tr (.int .i64 aIndex)), (2, .tr (.int .i64 aPosition))], [(6, .arr 53 2 ([] : List Point).length (([] : List Point).map ePoint)), (24, .arr 53 2 ([] : List Point).length (([] : List Point).map ePoint))]⟩) (by kernel_rfl) ?_
        refine SRun.nil ?_
        refine nx_n ?_
        refine swp_ret ?_
        replace h := Option.some.inj h
        subst h
        exact q_br (q_rr (q_fr (fin2 (by kernel_rfl) (finO (d := 6) (holds_t (by kernel_rfl)) (by kernel_rfl) (flat_map ePoint_flat _) (by kernel_rfl)) (finV rfl (by simp [SV.Flat, SV.Flat.FlatL, Tr.flat]) (holds_t (by kernel_rfl))))))
      · replace h := cond_f hb h
        refine swp_skip ?_
        replace h := Option.some.inj h
        subst h
        exact q_bn (q_l ((Le.sub' ([(0, .tr (.sl aList.length (aList.map eLabel))), (1, .tr (.int .i64 aIndex)), (2, .tr (.int .i64 aPosition))] : List (Nat × SV)) ([] : List (Nat × SO)) (by kernel_rfl) (by kernel_rfl)).trans (Le.sub' ([(0, .tr (.sl aList.length (aList.map eLabel))), (1, .tr (.int .i64 aIndex)), (2, .tr (.int .i64 aPosition))] : List (Nat × SV)) ([] : List (Nat × SO)) (by kernel_rfl) (by kernel_rfl))))
  · refine swp_seq ?_
    refine swp_reg ?_
    refine SRun.chunk tbok 2 (σ' := ⟨26, [(21, .tr (.int .i64 aIndex)), (20, .tr (.sl aList.length (aList.map eLabel))), (0, .tr (.sl aList.length (aList.map eLabel))), (1, .tr (.int .i64 aIndex)), (2, .tr (.int .i64 aPosition))], []⟩) (by kernel_rfl) ?_
    obtain ⟨x5, hx5, h⟩ := bind_some h
    refine SRun.lstep (t_index (L := aList) (f := eLabel) (ti := ti25) (tj := ti55) (e := 55) (k := .i64) tbok rfl (by kernel_rfl) (by kernel_rfl) (by kernel_rfl) (by kernel_rfl) (by kernel_rfl) (by kernel_rfl) (by kernel_rfl) hx5 (by kernel_rfl)) (by kernel_rfl) ?_
    refine SRun.chunk tbok 2 (σ' := ⟨26, [(24, .tr (.int .i64 aPosition)), (23, .agg [.tr (.int .i64 x5.At.X), .tr (.int .i64 x5.At.Y), .tr (.int .i64 x5.Length), .tr (.int .i64 x5.Priority)]), (22, .ptr ((eLabel x5).map .tr) 0), (21, .tr (.int .i64 aIndex)), (20, .tr (.sl aList.length (aList.map eLabel))), (0, .tr (.sl aList.length (aList.map eLabel))), (1, .tr (.int .i64 aIndex)), (2, .tr (.int .i64 aPosition))], []⟩) (by kernel_rfl) ?_
    obtain ⟨x6, hx6, h⟩ := bind_some h
    refine SRun.lstep (lstep_call (f := 67) (caps := []) (xs := [.agg [.tr (.int .i64 x5.At.X), .tr (.int .i64 x5.At.Y), .tr (.int .i64 x5.Length), .tr (.int .i64 x5.Priority)], .tr (.int .i64 aPosition)]) (ys := [.agg [.tr (.int .i64 x5.At.X), .tr (.int .i64 x5.At.Y), .tr (.int .i64 x5.Length), .tr (.int .i64 x5.Priority)], .tr (.int .i64 aPosition)]) (res := ⟨[.own 53 2 x6.length (x6.map ePoint)], [], false⟩) (x := .own 25) (y := some (.arr 53 2 x6.length (x6.map ePoint))) rfl (by kernel_rfl) (by kernel_rfl) (by kernel_rfl) (by kernel_rfl) (by kernel_rfl) ents67 (impl_Label_covered_run x5 aPosition _ hx6) rfl (by intro hc; cases hc) (by kernel_rfl)) (by kernel_rfl) ?_
    refine SRun.chunk tbok 2 (σ' := ⟨26, [(7, .tr (.int .i64 0)), (6, .own 25), (25, .own 25), (24, .tr (.int .i64 aPosition)), (23, .agg [.tr (.int .i64 x5.At.X), .tr (.int .i64 x5.At.Y), .tr (.int .i64 x5.Length), .tr (.int .i64 x5.Priority)]), (22, .ptr ((eLabel x5).map .tr) 0), (21, .tr (.int .i64 aIndex)), (20, .tr (.sl aList.length (aList.map eLabel))), (0, .tr (.sl aList.length (aList.map eLabel))), (1, .tr (.int .i64 aIndex)), (2, .tr (.int .i64 aPosition))], [(25, .arr 53 2 x6.length (x6.map ePoint))]⟩) (by kernel_rfl) ?_
    refine SRun.nil ?_
    refine nx_n ?_
    refine swp_ret ?_
    replace h := Option.some.inj h
    subst h
    exact q_fr (fin2 (by kernel_rfl) (finO (d := 25) (holds_t (by kernel_rfl)) (by kernel_rfl) (flat_map ePoint_flat _) (by kernel_rfl)) (finV rfl (by simp [SV.Flat, SV.Flat.FlatL, Tr.flat]) (holds_t (by kernel_rfl))))
theorem ents28 : Ents Try.prog 28 := ents_of Try.func28 (by kernel_rfl) rfl
noncomputable def spec_l33Code (aList : (List Label)) (aIndex : Int) : Option (Int) :=
  ((spec_AreLabels aList).bind fun x1 => (bif (!x1) then some 1 else ((spec_l01In aIndex 0 (w64 ((aList.length : Int) - 1))).bind fun x2 => (bif (!x2) then some 2 else some 0))))
set_option maxRecDepth 100000 in
set_option maxHeartbeats 4000000 in
theorem spec_l33Code_run (aList : (List Label)) (aIndex : Int) (r : Int) (h : spec_l33Code aList aIndex = some r) : SCall Try.prog 62 [.v (.tr (.sl aList.length (aList.map eLabel))), .v (.tr (.int .i64 aIndex))] ⟨[.v (.tr (.int .i64 r))], [], false⟩ := by
  refine scall_intro' (P := Try.prog) Try.func62 rfl [(.tmp 4)] rfl (ins := [.v (.tr (.sl aList.length (aList.map eLabel))), .v (.tr (.int .i64 aIndex))]) (by kernel_rfl) (by kernel_rfl) rfl (fun r => ⟨[.v (.tr (.int .i64 r))], [], false⟩) (r := r) ?_
  unfold spec_l33Code at h
  refine swp_seq ?_
  refine swp_reg ?_
  refine SRun.chunk tbok 1 (σ' := ⟨14, [(4, .tr (.int .i64 0)), (0, .tr (.sl aList.length (aList.map eLabel))), (1, .tr (.int .i64 aIndex))], []⟩) (by kernel_rfl) ?_
  refine SRun.nil ?_
  refine nx_n ?_
  refine swp_seq ?_
  refine swp_seq ?_
  refine swp_reg ?_
  refine SRun.chunk tbok 1 (σ' := ⟨14, [(5, .tr (.sl aList.length (aList.map eLabel))), (4, .tr (.int .i64 0)), (0, .tr (.sl aList.length (aList.map eLabel))), (1, .tr (.int .i64 aIndex))], []⟩) (by kernel_rfl) ?_
  obtain ⟨x1, hx1, h⟩ := bind_some h
  refine SRun.lstep (lstep_call (f := 14) (caps := []) (xs := [.tr (.sl aList.length (aList.map eLabel))]) (ys := [.tr (.sl aList.length (aList.map eLabel))]) (res := ⟨[.v (.tr (.bool x1))], [], false⟩) (x := .tr (.bool x1)) (y := none) rfl (by kernel_rfl) (by kernel_rfl) (by kernel_rfl) (by kernel_rfl) (by kernel_rfl) ents14 (spec_AreLabels_run aList _ hx1) rfl (by intro hc; cases hc) (by kernel_rfl)) (by kernel_rfl) ?_
  refine SRun.chunk tbok 1 (σ' := ⟨14, [(7, .tr (.bool (!x1))), (6, .tr (.bool x1)), (5, .tr (.sl aList.length (aList.map eLabel))), (4, .tr (.int .i64 0)), (0, .tr (.sl aList.length (aList.map eLabel))), (1, .tr (.int .i64 aIndex))], []⟩) (by kernel_rfl) ?_
  refine SRun.nil ?_
  refine nx_n ?_
  refine swp_cond (b := (!x1)) (by kernel_rfl) (fun hb => ?_) (fun hb => ?_)
  · replace h := cond_t hb h
    refine swp_seq ?_
    refine swp_reg ?_
    refine SRun.chunk tbok 1 (σ' := ⟨14, [(4, .tr (.int .i64 1)), (7, .tr (.bool (!x1))), (6, .tr (.bool x1)), (5, .tr (.sl aList.length (aList.map eLabel))), (0, .tr (.sl aList.length (aList.map eLabel))), (1, .tr (.int .i64 aIndex))], []⟩) (by kernel_rfl) ?_
    refine SRun.nil ?_
    refine nx_n ?_
    refine swp_ret ?_
    replace h := Option.some.inj h
    subst h
    exact nx_r (q_fr (fin1 (by kernel_rfl) (finV rfl (by simp [SV.Flat, SV.Flat.FlatL, Tr.flat]) (holds_t (by kernel_rfl)))))
  · replace h := cond_f hb h
    refine swp_skip ?_
    refine nx_n ?_
    refine swp_seq ?_
    refine swp_seq ?_
    refine swp_reg ?_
    refine SRun.chunk tbok 4 (σ' := ⟨14, [(11, .tr (.int .i64 (w64 ((aList.length : Int) - 1)))), (10, .tr (.int .i64 (aList.length : Int))), (9, .tr (.sl aList.length (aList.map eLabel))), (8, .tr (.int .i64 aIndex)), (7, .tr (.bool (!x1))), (6, .tr (.bool x1)), (5, .tr (.sl aList.length (aList.map eLabel))), (4, .tr (.int .i64 0)), (0, .tr (.sl aList.length (aList.map eLabel))), (1, .tr (.int .i64 aIndex))], []⟩) (by kernel_rfl) ?_
    obtain ⟨x2, hx2, h⟩ := bind_some h
    refine SRun.lstep (lstep_call (f := 52) (caps := []) (xs := [.tr (.int .i64 aIndex), .tr (.int .i64 0), .tr (.int .i64 (w64 ((aList.length : Int) - 1)))]) (ys := [.tr (.int .i64 aIndex), .tr (.int .i64 0), .tr (.int .i64 (w64 ((aList.length : Int) - 1)))]) (res := ⟨[.v (.tr (.bool x2))], [], false⟩) (x := .tr (.bool x2)) (y := none) rfl (by kernel_rfl) (by kernel_rfl) (by kernel_rfl) (by kernel_rfl) (by kernel_rfl) ents52 (spec_l01In_run aIndex 0 (w64 ((aList.length : Int) - 1)) _ hx2) rfl (by intro hc; cases hc) (by kernel_rfl)) (by kernel_rfl) ?_
    refine SRun.chunk tbok 1 (σ' := ⟨14, [(13, .tr (.bool (!x2))), (12, .tr (.bool x2)), (11, .tr (.int .i64 (w64 ((aList.length : Int) - 1)))), (10, .tr (.int .i64 (aList.length : Int))), (9, .tr (.sl aList.length (aList.map eLabel))), (8, .tr (.int .i64 aIndex)), (7, .tr (.bool (!x1))), (6, .tr (.bool x1)), (5, .tr (.sl aList.length (aList.map eLabel))), (4, .tr (.int .i64 0)), (0, .tr (.sl aList.length (aList.map eLabel))), (1, .tr (.int .i64 aIndex))], []⟩) (by kernel_rfl) ?_
    refine SRun.nil ?_
    refine nx_n ?_
    refine swp_cond (b := (!x2)) (by kernel_rfl) (fun hb => ?_) (fun hb => ?_)
    · replace h := cond_t hb h
      refine swp_seq ?_
      refine swp_reg ?_
      refine SRun.chunk tbok 1 (σ' := ⟨14, [(4, .tr (.int .i64 2)), (13, .tr (.bool (!x2))), (12, .tr (.bool x2)), (11, .tr (.int .i64 (w64 ((aList.length : Int) - 1)))), (10, .tr (.int .i64 (aList.length : Int))), (9, .tr (.sl aList.length (aList.map eLabel))), (8, .tr (.int .i64 aIndex)), (7, .tr (.bool (!x1))), (6, .tr (.bool x1)), (5, .tr (.sl aList.length (aList.map eLabel))), (0, .tr (.sl aList.length (aList.map eLabel))), (1, .tr (.int .i64 aIndex))], []⟩) (by kernel_rfl) ?_
      refine SRun.nil ?_
      refine nx_n ?_
      refine swp_ret ?_
      replace h := Option.some.inj h
      subst h
      exact nx_r (q_fr (fin1 (by kernel_rfl) (finV rfl (by simp [SV.Flat, SV.Flat.FlatL, Tr.flat]) (holds_t (by kernel_rfl)))))
    · replace h := cond_f hb h
      refine swp_skip ?_
      refine nx_n ?_
      refine swp_seq ?_
      refine swp_reg ?_
      refine SRun.chunk tbok 1 (σ' := ⟨14, [(4, .tr (.int .i64 0)), (13, .tr (.bool (!x2))), (12, .tr (.bool x2)), (11, .tr (.int .i64 (w64 ((aList.length : Int) - 1)))), (10, .tr (.int .i64 (aList.length : Int))), (9, .tr (.sl aList.length (aList.map eLabel))), (8, .tr (.int .i64 aIndex)), (7, .tr (.bool (!x1))), (6, .tr (.bool x1)), (5, .tr (.sl aList.length (aList.map eLabel))), (0, .tr (.sl aList.length (aList.map eLabel))), (1, .tr (.int .i64 aIndex))], []⟩) (by kernel_rfl) ?_
      refine SRun.nil ?_
      refine nx_n ?_
      refine swp_ret ?_
      replace h := Option.some.inj h
      subst h
      exact q_fr (fin1 (by kernel_rfl) (finV rfl (by simp [SV.Flat, SV.Flat.FlatL, Tr.flat]) (holds_t (by kernel_rfl))))
theorem ents62 : Ents Try.prog 62 := ents_of Try.func62 (by kernel_rfl) rfl
noncomputable def spec_l33Covers (aL : Label) (aPosition : Int) (aP : Point) : Option (Bool) :=
  (((bif ((aPosition == 1) || (aPosition == 2)) then some (w64 (0 - (w64 (aP.X - aL.At.X)))) else some (w64 (aP.X - aL.At.X)))).bind fun (j1 : Int) => (((bif (decide (aPosition > 1)) then some (w64 (0 - (w64 (aP.Y - aL.At.Y)))) else some (w64 (aP.Y - aL.At.Y)))).bind fun (j3 : Int) => (((bif (decide (aPosition < 4)) then (bif (j3 == 1) then ((spec_l01In j1 1 aL.Length).bind fun x5 => some x5) else some false) else some false)).bind fun (j6 : Bool) => some j6)))
set_option maxRecDepth 100000 in
set_option maxHeartbeats 4000000 in
theorem spec_l33Covers_run (aL : Label) (aPosition : Int) (aP : Point) (r : Bool) (h : spec_l33Covers aL aPosition aP = some r) : SCall Try.prog 90 [.v (.agg [.tr (.int .i64 aL.At.X), .tr (.int .i64 aL.At.Y), .tr (.int .i64 aL.Length), .tr (.int .i64 aL.Priority)]), .v (.tr (.int .i64 aPosition)), .v (.agg [.tr (.int .i64 aP.X), .tr (.int .i64 aP.Y)])] ⟨[.v (.tr (.bool r))], [], false⟩ := by
  refine scall_intro' (P := Try.prog) Try.func90 rfl [(.tmp 6)] rfl (ins := [.v (.agg [.tr (.int .i64 aL.At.X), .tr (.int .i64 aL.At.Y), .tr (.int .i64 aL.Length), .tr (.int .i64 aL.Priority)]), .v (.tr (.int .i64 aPosition)), .v (.agg [.tr (.int .i64 aP.X), .tr (.int .i64 aP.Y)])]) (by kernel_rfl) (by kernel_rfl) rfl (fun r => ⟨[.v (.tr (.bool r))], [], false⟩) (r := r) ?_
  unfold spec_l33Covers at h
  refine swp_seq ?_
  refine swp_reg ?_
  refine SRun.chunk tbok 3 (σ' := ⟨45, [(6, .tr (.bool false)), (5, .ref 5 0), (3, .ref 3 0), (0, .agg [.tr (.int .i64 aL.At.X), .tr (.int .i64 aL.At.Y), .tr (.int .i64 aL.Length), .tr (.int .i64 aL.Priority)]), (1, .tr (.int .i64 aPosition)), (2, .agg [.tr (.int .i64 aP.X), .tr (.int .i64 aP.Y)])], [(5, .box [.tr (.int .i64 aP.X), .tr (.int .i64 aP.Y)]), (3, .box [.tr (.int .i64 aL.At.X), .tr (.int .i64 aL.At.Y), .tr (.int .i64 aL.Length), .tr (.int .i64 aL.Priority)])]⟩) (by kernel_rfl) ?_
  refine SRun.nil ?_
  refine nx_n ?_
  refine swp_seq ?_
  refine swp_dr mixed ?_
  refine DGo.chunk' tbok 14 (σ' := ⟨45, [(8, .tr (.int .i64 (w64 (aP.Y - aL.At.Y)))), (7, .tr (.int .i64 (w64 (aP.X - aL.At.X)))), (20, .tr (.int .i64 (w64 (aP.Y - aL.At.Y)))), (19, .tr (.int .i64 aL.At.Y)), (18, .ref 3 1), (17, .ref 3 0), (16, .tr (.int .i64 aP.Y)), (15, .ref 5 1), (14, .tr (.int .i64 (w64 (aP.X - aL.At.X)))), (13, .tr (.int .i64 aL.At.X)), (12, .ref 3 0), (11, .ref 3 0), (10, .tr (.int .i64 aP.X)), (9, .ref 5 0), (6, .tr (.bool false)), (5, .ref 5 0), (3, .ref 3 0), (0, .agg [.tr (.int .i64 aL.At.X), .tr (.int .i64 aL.At.Y), .tr (.int .i64 aL.Length), .tr (.int .i64 aL.Priority)]), (1, .tr (.int .i64 aPosition)), (2, .agg [.tr (.int .i64 aP.X), .tr (.int .i64 aP.Y)])], [(5, .box [.tr (.int .i64 aP.X), .tr (.int .i64 aP.Y)]), (3, .box [.tr (.int .i64 aL.At.X), .tr (.int .i64 aL.At.Y), .tr (.int .i64 aL.Length), .tr (.int .i64 aL.Priority)])]⟩) (by kernel_rfl) ?_
  refine DGo.nil (by kernel_rfl) ?_
  refine nx_n ?_
  refine swp_seq ?_
  refine swp_seq ?_
  refine swp_regP ⟨45, [(1, .tr (.int .i64 aPosition)), (3, .ref 3 0), (7, .tr (.int .i64 (w64 (aP.X - aL.At.X)))), (8, .tr (.int .i64 (w64 (aP.Y - aL.At.Y)))), (26, .tr (.bool ((aPosition == 1) || (aPosition == 2))))], [(3, .box [.tr (.int .i64 aL.At.X), .tr (.int .i64 aL.At.Y), .tr (.int .i64 aL.Length), .tr (.int .i64 aL.Priority)])]⟩ ?_ ?_
  · refine SRun.chunk tbok 3 (σ' := ⟨45, [(23, .tr (.bool (aPosition == 1))), (22, .tr (.bool (aPosition == 1))), (21, .tr (.int .i64 aPosition)), (8, .tr (.int .i64 (w64 (aP.Y - aL.At.Y)))), (7, .tr (.int .i64 (w64 (aP.X - aL.At.X)))), (20, .tr (.int .i64 (w64 (aP.Y - aL.At.Y)))), (19, .tr (.int .i64 aL.At.Y)), (18, .ref 3 1), (17, .ref 3 0), (16, .tr (.int .i64 aP.Y)), (15, .ref 5 1), (14, .tr (.int .i64 (w64 (aP.X - aL.At.X)))), (13, .tr (.int .i64 aL.At.X)), (12, .ref 3 0), (11, .ref 3 0), (10, .tr (.int .i64 aP.X)), (9, .ref 5 0), (6, .tr (.bool false)), (5, .ref 5 0), (3, .ref 3 0), (0, .agg [.tr (.int .i64 aL.At.X), .tr (.int .i64 aL.At.Y), .tr (.int .i64 aL.Length), .tr (.int .i64 aL.Priority)]), (1, .tr (.int .i64 aPosition)), (2, .agg [.tr (.int .i64 aP.X), .tr (.int .i64 aP.Y)])], [(5, .box [.tr (.int .i64 aP.X), .tr (.int .i64 aP.Y)]), (3, .box [.tr (.int .i64 aL.At.X), .tr (.int .i64 aL.At.Y), .tr (.int .i64 aL.Length), .tr (.int .i64 aL.Priority)])]⟩) (by kernel_rfl) ?_
    generalize (aPosition == 1) = bb
    cases bb
    · refine SRun.chunk tbok 3 (σ' := ⟨45, [(26, .tr (.bool (aPosition == 2))), (25, .tr (.bool (aPosition == 2))), (24, .tr (.int .i64 aPosition)), (23, .tr (.bool false)), (22, .tr (.bool false)), (21, .tr (.int .i64 aPosition)), (8, .tr (.int .i64 (w64 (aP.Y - aL.At.Y)))), (7, .tr (.int .i64 (w64 (aP.X - aL.At.X)))), (20, .tr (.int .i64 (w64 (aP.Y - aL.At.Y)))), (19, .tr (.int .i64 aL.At.Y)), (18, .ref 3 1), (17, .ref 3 0), (16, .tr (.int .i64 aP.Y)), (15, .ref 5 1), (14, .tr (.int .i64 (w64 (aP.X - aL.At.X)))), (13, .tr (.int .i64 aL.At.X)), (12, .ref 3 0), (11, .ref 3 0), (10, .tr (.int .i64 aP.X)), (9, .ref 5 0), (6, .tr (.bool false)), (5, .ref 5 0), (3, .ref 3 0), (0, .agg [.tr (.int .i64 aL.At.X), .tr (.int .i64 aL.At.Y), .tr (.int .i64 aL.Length), .tr (.int .i64 aL.Priority)]), (1, .tr (.int .i64 aPosition)), (2, .agg [.tr (.int .i64 aP.X), .tr (.int .i64 aP.Y)])], [(5, .box [.tr (.int .i64 aP.X), .tr (.int .i64 aP.Y)]), (3, .box [.tr (.int .i64 aL.At.X), .tr (.int .i64 aL.At.Y), .tr (.int .i64 aL.Length), .tr (.int .i64 aL.Priority)])]⟩) (by kernel_rfl) ?_
      exact SRun.nil ((Le.sub' ([(1, .tr (.int .i64 aPosition)), (3, .ref 3 0), (7, .tr (.int .i64 (w64 (aP.X - aL.At.X)))), (8, .tr (.int .i64 (w64 (aP.Y - aL.At.Y)))), (26, .tr (.bool (aPosition == 2)))] : List (Nat × SV)) ([(3, .box [.tr (.int .i64 aL.At.X), .tr (.int .i64 aL.At.Y), .tr (.int .i64 aL.Length), .tr (.int .i64 aL.Priority)])] : List (Nat × SO)) (by kernel_rfl) (by kernel_rfl)).trans (Le.sub' ([(1, .tr (.int .i64 aPosition)), (3, .ref 3 0), (7, .tr (.int .i64 (w64 (aP.X - aL.At.X)))), (8, .tr (.int .i64 (w64 (aP.Y - aL.At.Y)))), (26, .tr (.bool (false || (aPosition == 2))))] : List (Nat × SV)) ([(3, .box [.tr (.int .i64 aL.At.X), .tr (.int .i64 aL.At.Y), .tr (.int .i64 aL.Length), .tr (.int .i64 aL.Priority)])] : List (Nat × SO)) (by kernel_rfl) (by kernel_rfl)))
    · refine SRun.chunk tbok 3 (σ' := ⟨45, [(26, .tr (.bool true)), (25, .tup []), (24, .tup []), (23, .tr (.bool true)), (22, .tr (.bool true)), (21, .tr (.int .i64 aPosition)), (8, .tr (.int .i64 (w64 (aP.Y - aL.At.Y)))), (7, .tr (.int .i64 (w64 (aP.X - aL.At.X)))), (20, .tr (.int .i64 (w64 (aP.Y - aL.At.Y)))), (19, .tr (.int .i64 aL.At.Y)), (18, .ref 3 1), (17, .ref 3 0), (16, .tr (.int .i64 aP.Y)), (15, .ref 5 1), (14, .tr (.int .i64 (w64 (aP.X - aL.At.X)))), (13, .tr (.int .i64 aL.At.X)), (12, .ref 3 0), (11, .ref 3 0), (10, .tr (.int .i64 aP.X)), (9, .ref 5 0), (6, .tr (.bool false)), (5, .ref 5 0), (3, .ref 3 0), (0, .agg [.tr (.int .i64 aL.At.X), .tr (.int .i64 aL.At.Y), .tr (.int .i64 aL.Length), .tr (.int .i64 aL.Priority)]), (1, .tr (.int .i64 aPosition)), (2, .agg [.tr (.int .i64 aP.X), .tr (.int .i64 aP.Y)])], [(5, .box [.tr (.int .i64 aP.X), .tr (.int .i64 aP.Y)]), (3, .box [.tr (.int .i64 aL.At.X), .tr (.int .i64 aL.At.Y), .tr (.int .i64 aL.Length), .tr (.int .i64 aL.Priority)])]⟩) (by kernel_rfl) ?_
      exact SRun.nil ((Le.sub' ([(1, .tr (.int .i64 aPosition)), (3, .ref 3 0), (7, .tr (.int .i64 (w64 (aP.X - aL.At.X)))), (8, .tr (.int .i64 (w64 (aP.Y - aL.At.Y)))), (26, .tr (.bool true))] : List (Nat × SV)) ([(3, .box [.tr (.int .i64 aL.At.X), .tr (.int .i64 aL.At.Y), .tr (.int .i64 aL.Length), .tr (.int .i64 aL.Priority)])] : List (Nat × SO)) (by kernel_rfl) (by kernel_rfl)).trans (Le.sub' ([(1, .tr (.int .i64 aPosition)), (3, .ref 3 0), (7, .tr (.int .i64 (w64 (aP.X - aL.At.X)))), (8, .tr (.int .i64 (w64 (aP.Y - aL.At.Y)))), (26, .tr (.bool (true || (aPosition == 2))))] : List (Nat × SV)) ([(3, .box [.tr (.int .i64 aL.At.X), .tr (.int .i64 aL.At.Y), .tr (.int .i64 aL.Length), .tr (.int .i64 aL.Priority)])] : List (Nat × SO)) (by kernel_rfl) (by kernel_rfl)))
  · refine swp_seqJ h (fun j1 => ⟨45, [(1, .tr (.int .i64 aPosition)), (3, .ref 3 0), (7, .tr (.int .i64 j1)), (8, .tr (.int .i64 (w64 (aP.Y - aL.At.Y))))], [(3, .box [.tr (.int .i64 aL.At.X), .tr (.int .i64 aL.At.Y), .tr (.int .i64 aL.Length), .tr (.int .i64 aL.Priority)])]⟩) (fun v2 h => ?_) (fun j1 h => ?_)
    · refine swp_cond (b := ((aPosition == 1) || (aPosition == 2))) (by kernel_rfl) (fun hb => ?_) (fun hb => ?_)
      · replace h := cond_t hb h
        refine swp_reg ?_
        refine SRun.chunk tbok 3 (σ' := ⟨45, [(7, .tr (.int .i64 (w64 (0 - (w64 (aP.X - aL.At.X)))))), (28, .tr (.int .i64 (w64 (0 - (w64 (aP.X - aL.At.X)))))), (27, .tr (.int .i64 (w64 (aP.X - aL.At.X)))), (1, .tr (.int .i64 aPosition)), (3, .ref 3 0), (8, .tr (.int .i64 (w64 (aP.Y - aL.At.Y)))), (26, .tr (.bool ((aPosition == 1) || (aPosition == 2))))], [(3, .box [.tr (.int .i64 aL.At.X), .tr (.int .i64 aL.At.Y), .tr (.int .i64 aL.Length), .tr (.int .i64 aL.Priority)])]⟩) (by kernel_rfl) ?_
        refine SRun.nil ?_
        replace h := Option.some.inj h
        subst h
        exact q_j ((Le.sub' ([(1, .tr (.int .i64 aPosition)), (3, .ref 3 0), (7, .tr (.int .i64 (w64 (0 - (w64 (aP.X - aL.At.X)))))), (8, .tr (.int .i64 (w64 (aP.Y - aL.At.Y))))] : List (Nat × SV)) ([(3, .box [.tr (.int .i64 aL.At.X), .tr (.int .i64 aL.At.Y), .tr (.int .i64 aL.Length), .tr (.int .i64 aL.Priority)])] : List (Nat × SO)) (by kernel_rfl) (by kernel_rfl)).trans (Le.sub' ([(1, .tr (.int .i64 aPosition)), (3, .ref 3 0), (7, .tr (.int .i64 (w64 (0 - (w64 (aP.X - aL.At.X)))))), (8, .tr (.int .i64 (w64 (aP.Y - aL.At.Y))))] : List (Nat × SV)) ([(3, .box [.tr (.int .i64 aL.At.X), .tr (.int .i64 aL.At.Y), .tr (.int .i64 aL.Length), .tr (.int .i64 aL.Priority)])] : List (Nat × SO)) (by kernel_rfl) (by kernel_rfl)))
      · replace h := cond_f hb h
        refine swp_skip ?_
        replace h := Option.some.inj h
        subst h
        exact q_j ((Le.sub' ([(1, .tr (.int .i64 aPosition)), (3, .ref 3 0), (7, .tr (.int .i64 (w64 (aP.X - aL.At.X)))), (8, .tr (.int .i64 (w64 (aP.Y - aL.At.Y))))] : List (Nat × SV)) ([(3, .box [.tr (.int .i64 aL.At.X), .tr (.int .i64 aL.At.Y), .tr (.int .i64 aL.Length), .tr (.int .i64 aL.Priority)])] : List (Nat × SO)) (by kernel_rfl) (by kernel_rfl)).trans (Le.sub' ([(1, .tr (.int .i64 aPosition)), (3, .ref 3 0), (7, .tr (.int .i64 (w64 (aP.X - aL.At.X)))), (8, .tr (.int .i64 (w64 (aP.Y - aL.At.Y))))] : List (Nat × SV)) ([(3, .box [.tr (.int .i64 aL.At.X), .tr (.int .i64 aL.At.Y), .tr (.int .i64 aL.Length), .tr (.int .i64 aL.Priority)])] : List (Nat × SO)) (by kernel_rfl) (by kernel_rfl)))
    · refine swp_seq ?_
      refine swp_seq ?_
      refine swp_reg ?_
      refine SRun.chunk tbok 2 (σ' := ⟨45, [(30, .tr (.bool (decide (aPosition > 1)))), (29, .tr (.int .i64 aPosition)), (1, .tr (.int .i64 aPosition)), (3, .ref 3 0), (7, .tr (.int .i64 j1)), (8, .tr (.int .i64 (w64 (aP.Y - aL.At.Y))))], [(3, .box [.tr (.int .i64 aL.At.X), .tr (.int .i64 aL.At.Y), .tr (.int .i64 aL.Length), .tr (.int .i64 aL.Priority)])]⟩) (by kernel_rfl) ?_
      refine SRun.nil ?_
      refine nx_n ?_
      refine swp_seqJ h (fun j3 => ⟨45, [(1, .tr (.int .i64 aPosition)), (3, .ref 3 0), (7, .tr (.int .i64 j1)), (8, .tr (.int .i64 j3))], [(3, .box [.tr (.int .i64 aL.At.X), .tr (.int .i64 aL.At.Y), .tr (.int .i64 aL.Length), .tr (.int .i64 aL.Priority)])]⟩) (fun v4 h => ?_) (fun j3 h => ?_)
      · refine swp_cond (b := (decide (aPosition > 1))) (by kernel_rfl) (fun hb => ?_) (fun hb => ?_)
        · replace h := cond_t hb h
          refine swp_reg ?_
          refine SRun.chunk tbok 3 (σ' := ⟨45, [(8, .tr (.int .i64 (w64 (0 - (w64 (aP.Y - aL.At.Y)))))), (32, .tr (.int .i64 (w64 (0 - (w64 (aP.Y - aL.At.Y)))))), (31, .tr (.int .i64 (w64 (aP.Y - aL.At.Y)))), (30, .tr (.bool (decide (aPosition > 1)))), (29, .tr (.int .i64 aPosition)), (1, .tr (.int .i64 aPosition)), (3, .ref 3 0), (7, .tr (.int .i64 j1))], [(3, .box [.tr (.int .i64 aL.At.X), .tr (.int .i64 aL.At.Y), .tr (.int .i64 aL.Length), .tr (.int .i64 aL.Priority)])]⟩) (by kernel_rfl) ?_
          refine SRun.nil ?_
          replace h := Option.some.inj h
          subst h
          exact q_j ((Le.sub' ([(1, .tr (.int .i64 aPosition)), (3, .ref 3 0), (7, .tr (.int .i64 j1)), (8, .tr (.int .i64 (w64 (0 - (w64 (aP.Y - aL.At.Y))))))] : List (Nat × SV)) ([(3, .box [.tr (.int .i64 aL.At.X), .tr (.int .i64 aL.At.Y), .tr (.int .i64 aL.Length), .tr (.int .i64 aL.Priority)])] : List (Nat × SO)) (by kernel_rfl) (by kernel_rfl)).trans (Le.sub' ([(1, .tr (.int .i64 aPosition)), (3, .ref 3 0), (7, .tr (.int .i64 j1)), (8, .tr (.int .i64 (w64 (0 - (w64 (aP.Y - aL.At.Y))))))] : List (Nat × SV)) ([(3, .box [.tr (.int .i64 aL.At.X), .tr (.int .i64 aL.At.Y), .tr (.int .i64 aL.Length), .tr (.int .i64 aL.Priority)])] : List (Nat × SO)) (by kernel_rfl) (by kernel_rfl)))
        · replace h := cond_f hb h
          refine swp_skip ?_
          replace h := Option.some.inj h
          subst h
          exact q_j ((Le.sub' ([(1, .tr (.int .i64 aPosition)), (3, .ref 3 0), (7, .tr (.int .i64 j1)), (8, .tr (.int .i64 (w64 (aP.Y - aL.At.Y))))] : List (Nat × SV)) ([(3, .box [.tr (.int .i64 aL.At.X), .tr (.int .i64 aL.At.Y), .tr (.int .i64 aL.Length), .tr (.int .i64 aL.Priority)])] : List (Nat × SO)) (by kernel_rfl) (by kernel_rfl)).trans (Le.sub' ([(1, .tr (.int .i64 aPosition)), (3, .ref 3 0), (7, .tr (.int .i64 j1)), (8, .tr (.int .i64 (w64 (aP.Y - aL.At.Y))))] : List (Nat × SV)) ([(3, .box [.tr (.int .i64 aL.At.X), .tr (.int .i64 aL.At.Y), .tr (.int .i64 aL.Length), .tr (.int .i64 aL.Priority)])] : List (Nat × SO)) (by kernel_rfl) (by kernel_rfl)))
      · refine swp_seq ?_
        refine swp_regJ h (fun j6 => ⟨45, [(6, .tr (.bool j6))], []⟩) (fun v7 h => ?_) (fun j6 h => ?_)
        · refine SRun.chunk tbok 3 (σ' := ⟨45, [(35, .tr (.bool (decide (aPosition < 4)))), (34, .tr (.bool (decide (aPosition < 4)))), (33, .tr (.int .i64 aPosition)), (1, .tr (.int .i64 aPosition)), (3, .ref 3 0), (7, .tr (.int .i64 j1)), (8, .tr (.int .i64 j3))], [(3, .box [.tr (.int .i64 aL.At.X), .tr (.int .i64 aL.At.Y), .tr (.int .i64 aL.Length), .tr (.int .i64 aL.Priority)])]⟩) (by kernel_rfl) ?_
          revert h
          generalize (decide (aPosition < 4)) = bb
          cases bb <;> intro h
          · replace h := cond_f rfl h
            refine SRun.chunk tbok 10 (σ' := ⟨45, [(6, .tr (.bool false)), (44, .tr (.bool false)), (43, .tup []), (42, .tup []), (41, .tup []), (40, .tup []), (39, .tr (.bool false)), (38, .tr (.bool false)), (37, .tup []), (36, .tup []), (35, .tr (.bool false)), (34, .tr (.bool false)), (33, .tr (.int .i64 aPosition)), (1, .tr (.int .i64 aPosition)), (3, .ref 3 0), (7, .tr (.int .i64 j1)), (8, .tr (.int .i64 j3))], [(3, .box [.tr (.int .i64 aL.At.X), .tr (.int .i64 aL.At.Y), .tr (.int .i64 aL.Length), .tr (.int .i64 aL.Priority)])]⟩) (by kernel_rfl) ?_
            refine SRun.nil ?_
            replace h := Option.some.inj h
            subst h
            exact (Le.sub' ([(6, .tr (.bool false))] : List (Nat × SV)) ([] : List (Nat × SO)) (by kernel_rfl) (by kernel_rfl)).trans (Le.sub' ([(6, .tr (.bool false))] : List (Nat × SV)) ([] : List (Nat × SO)) (by kernel_rfl) (by kernel_rfl))
          · replace h := cond_t rfl h
            refine SRun.chunk tbok 4 (σ' := ⟨45, [(39, .tr (.bool (j3 == 1))), (38, .tr (.bool (j3 == 1))), (37, .tr (.bool (j3 == 1))), (36, .tr (.int .i64 j3)), (35, .tr (.bool true)), (34, .tr (.bool true)), (33, .tr (.int .i64 aPosition)), (1, .tr (.int .i64 aPosition)), (3, .ref 3 0), (7, .tr (.int .i64 j1)), (8, .tr (.int .i64 j3))], [(3, .box [.tr (.int .i64 aL.At.X), .tr (.int .i64 aL.At.Y), .tr (.int .i64 aL.Length), .tr (.int .i64 aL.Priority)])]⟩) (by kernel_rfl) ?_
            revert h
            generalize (j3 == 1) = bb
            cases bb <;> intro h
            · replace h := cond_f rfl h
              refine SRun.chunk tbok 6 (σ' := ⟨45, [(6, .tr (.bool false)), (44, .tr (.bool false)), (43, .tup []), (42, .tup []), (41, .tup []), (40, .tup []), (39, .tr (.bool false)), (38, .tr (.bool false)), (37, .tr (.bool false)), (36, .tr (.int .i64 j3)), (35, .tr (.bool true)), (34, .tr (.bool true)), (33, .tr (.int .i64 aPosition)), (1, .tr (.int .i64 aPosition)), (3, .ref 3 0), (7, .tr (.int .i64 j1)), (8, .tr (.int .i64 j3))], [(3, .box [.tr (.int .i64 aL.At.X), .tr (.int .i64 aL.At.Y), .tr (.int .i64 aL.Length), .tr (.int .i64 aL.Priority)])]⟩) (by kernel_rfl) ?_
              refine SRun.nil ?_
              replace h := Option.some.inj h
              subst h
              exact (Le.sub' ([(6, .tr (.bool false))] : List (Nat × SV)) ([] : List (Nat × SO)) (by kernel_rfl) (by kernel_rfl)).trans (Le.sub' ([(6, .tr (.bool false))] : List (Nat × SV)) ([] : List (Nat × SO)) (by kernel_rfl) (by kernel_rfl))
            · replace h := cond_t rfl h
              refine SRun.chunk tbok 3 (σ' := ⟨45, [(42, .tr (.int .i64 aL.Length)), (41, .ref 3 2), (40, .tr (.int .i64 j1)), (39, .tr (.bool true)), (38, .tr (.bool true)), (37, .tr (.bool true)), (36, .tr (.int .i64 j3)), (35, .tr (.bool true)), (34, .tr (.bool true)), (33, .tr (.int .i64 aPosition)), (1, .tr (.int .i64 aPosition)), (3, .ref 3 0), (7, .tr (.int .i64 j1)), (8, .tr (.int .i64 j3))], [(3, .box [.tr (.int .i64 aL.At.X), .tr (.int .i64 aL.At.Y), .tr (.int .i64 aL.Length), .tr (.int .i64 aL.Priority)])]⟩) (by kernel_rfl) ?_
              obtain ⟨x5, hx5, h⟩ := bind_some h
              refine SRun.lstep (lstep_call (f := 52) (caps := []) (xs := [.tr (.int .i64 j1), .tr (.int .i64 1), .tr (.int .i64 aL.Length)]) (ys := [.tr (.int .i64 j1), .tr (.int .i64 1), .tr (.int .i64 aL.Length)]) (res := ⟨[.v (.tr (.bool x5))], [], false⟩) (x := .tr (.bool x5)) (y := none) rfl (by kernel_rfl) (by kernel_rfl) (by kernel_rfl) (by kernel_rfl) (by kernel_rfl) ents52 (spec_l01In_run j1 1 aL.Length _ hx5) rfl (by intro hc; cases hc) (by kernel_rfl)) (by kernel_rfl) ?_
              refine SRun.chunk tbok 2 (σ' := ⟨45, [(6, .tr (.bool x5)), (44, .tr (.bool x5)), (43, .tr (.bool x5)), (42, .tr (.int .i64 aL.Length)), (41, .ref 3 2), (40, .tr (.int .i64 j1)), (39, .tr (.bool true)), (38, .tr (.bool true)), (37, .tr (.bool true)), (36, .tr (.int .i64 j3)), (35, .tr (.bool true)), (34, .tr (.bool true)), (33, .tr (.int .i64 aPosition)), (1, .tr (.int .i64 aPosition)), (3, .ref 3 0), (7, .tr (.int .i64 j1)), (8, .tr (.int .i64 j3))], [(3, .box [.tr (.int .i64 aL.At.X), .tr (.int .i64 aL.At.Y), .tr (.int .i64 aL.Length), .tr (.int .i64 aL.Priority)])]⟩) (by kernel_rfl) ?_
              refine SRun.nil ?_
              replace h := Option.some.inj h
              subst h
              exact (Le.sub' ([(6, .tr (.bool x5))] : List (Nat × SV)) ([] : List (Nat × SO)) (by kernel_rfl) (by kernel_rfl)).trans (Le.sub' ([(6, .tr (.bool x5))] : List (Nat × SV)) ([] : List (Nat × SO)) (by kernel_rfl) (by kernel_rfl))
        · refine swp_ret ?_
          replace h := Option.some.inj h
          subst h
          exact q_fr (fin1 (by kernel_rfl) (finV rfl (by simp [SV.Flat, SV.Flat.FlatL, Tr.flat]) (holds_t (by kernel_rfl))))
theorem ents90 : Ents Try.prog 90 := ents_of Try.func90 (by kernel_rfl) rfl
noncomputable def spec_l33Points (aL : Label) (aPosition : Int) : Option ((List Point)) :=
  (((loop (fun (s3 : Int × (List Point)) => (bif (decide (s3.1 ≤ (w64 (aL.At.X + aL.Length)))) then (((loop (fun (s7 : Int × (List Point)) => (bif (decide (s7.1 ≤ (w64 (aL.At.Y + 1)))) then ((((spec_l33Covers aL aPosition (Point.mk s3.1 s7.1)).bind fun x11 => (bif x11 then ((app' s7.2 ([(Point.mk s3.1 s7.1)] : List Point)).bind fun x12 => some x12) else some s7.2))).bind fun (j9 : (List Point)) => some (.inl ((w64 (s7.1 + 1)), j9))) else some (.inr s7.2))) ((w64 (aL.At.Y - 1)), s3.2))).bind fun (j5 : (List Point)) => some (.inl ((w64 (s3.1 + 1)), j5))) else some (.inr s3.2))) ((w64 (aL.At.X - aL.Length)), ([] : List Point)))).bind fun (j1 : (List Point)) => some j1)
set_option maxRecDepth 100000 in
set_option maxHeartbeats 4000000 in
theorem spec_l33Points_run (aL : Label) (aPosition : Int) (r : (List Point)) (h : spec_l33Points aL aPosition = some r) : SCall Try.prog 66 [.v (.agg [.tr (.int .i64 aL.At.X), .tr (.int .i64 aL.At.Y), .tr (.int .i64 aL.Length), .tr (.int .i64 aL.Priority)]), .v (.tr (.int .i64 aPosition))] ⟨[.own 53 2 r.length (r.map ePoint)], [], false⟩ := by
  refine scall_intro' (P := Try.prog) Try.func66 rfl [(.tmp 4)] rfl (ins := [.v (.agg [.tr (.int .i64 aL.At.X), .tr (.int .i64 aL.At.Y), .tr (.int .i64 aL.Length), .tr (.int .i64 aL.Priority)]), .v (.tr (.int .i64 aPosition))]) (by kernel_rfl) (by kernel_rfl) rfl (fun r => ⟨[.own 53 2 r.length (r.map ePoint)], [], false⟩) (r := r) ?_
  unfold spec_l33Points at h
  refine swp_seq ?_
  refine swp_reg ?_
  refine SRun.chunk tbok 2 (σ' := ⟨50, [(4, .own 4), (2, .ref 2 0), (0, .agg [.tr (.int .i64 aL.At.X), .tr (.int .i64 aL.At.Y), .tr (.int .i64 aL.Length), .tr (.int .i64 aL.Priority)]), (1, .tr (.int .i64 aPosition))], [(4, .arr 53 2 ([] : List Point).length (([] : List Point).map ePoint)), (2, .box [.tr (.int .i64 aL.At.X), .tr (.int .i64 aL.At.Y), .tr (.int .i64 aL.Length), .tr (.int .i64 aL.Priority)])]⟩) (by kernel_rfl) ?_
  refine SRun.nil ?_
  refine nx_n ?_
  refine swp_seq ?_
  refine swp_reg ?_
  refine SRun.chunk tbok 2 (σ' := ⟨50, [(5, .own 9), (9, .own 9), (4, .own 4), (2, .ref 2 0), (0, .agg [.tr (.int .i64 aL.At.X), .tr (.int .i64 aL.At.Y), .tr (.int .i64 aL.Length), .tr (.int .i64 aL.Priority)]), (1, .tr (.int .i64 aPosition))], [(9, .arr 53 2 ([] : List Point).length (([] : List Point).map ePoint)), (4, .arr 53 2 ([] : List Point).length (([] : List Point).map ePoint)), (2, .box [.tr (.int .i64 aL.At.X), .tr (.int .i64 aL.At.Y), .tr (.int .i64 aL.Length), .tr (.int .i64 aL.Priority)])]⟩) (by kernel_rfl) ?_
  refine SRun.nil ?_
  refine nx_n ?_
  refine swp_seq ?_
  refine swp_seq ?_
  refine swp_reg ?_
  refine SRun.chunk tbok 7 (σ' := ⟨50, [(6, .tr (.int .i64 (w64 (aL.At.X - aL.Length)))), (15, .tr (.int .i64 (w64 (aL.At.X - aL.Length)))), (14, .tr (.int .i64 aL.Length)), (13, .ref 2 2), (12, .tr (.int .i64 aL.At.X)), (11, .ref 2 0), (10, .ref 2 0), (5, .own 9), (9, .own 9), (4, .own 4), (2, .ref 2 0), (0, .agg [.tr (.int .i64 aL.At.X), .tr (.int .i64 aL.At.Y), .tr (.int .i64 aL.Length), .tr (.int .i64 aL.Priority)]), (1, .tr (.int .i64 aPosition))], [(9, .arr 53 2 ([] : List Point).length (([] : List Point).map ePoint)), (4, .arr 53 2 ([] : List Point).length (([] : List Point).map ePoint)), (2, .box [.tr (.int .i64 aL.At.X), .tr (.int .i64 aL.At.Y), .tr (.int .i64 aL.Length), .tr (.int .i64 aL.Priority)])]⟩) (by kernel_rfl) ?_
  refine SRun.nil ?_
  refine nx_n ?_
  refine swp_seqJ h (fun j1 => ⟨50, [(5, .own 5)], [(5, .arr 53 2 j1.length (j1.map ePoint))]⟩) (fun v2 h => ?_) (fun j1 h => ?_)
  · refine swp_blk (a := v2) ?_
    refine swp_lpL (r := v2) (s := ((w64 (aL.At.X - aL.Length)), ([] : List Point))) _ (fun s3 => ⟨50, [(1, .tr (.int .i64 aPosition)), (2, .ref 2 0), (5, .own 5), (6, .tr (.int .i64 s3.1))], [(2, .box [.tr (.int .i64 aL.At.X), .tr (.int .i64 aL.At.Y), .tr (.int .i64 aL.Length), .tr (.int .i64 aL.Priority)]), (5, .arr 53 2 s3.2.length (s3.2.map ePoint))]⟩) _ ((Le.sub' ([(1, .tr (.int .i64 aPosition)), (2, .ref 2 0), (5, .own 9), (6, .tr (.int .i64 (w64 (aL.At.X - aL.Length))))] : List (Nat × SV)) ([(2, .box [.tr (.int .i64 aL.At.X), .tr (.int .i64 aL.At.Y), .tr (.int .i64 aL.Length), .tr (.int .i64 aL.Priority)]), (9, .arr 53 2 ([] : List Point).length (([] : List Point).map ePoint))] : List (Nat × SO)) (by kernel_rfl) (by kernel_rfl)).trans ((Le.ren' (d := 9) (e := 5) (by kernel_rfl) (by kernel_rfl) (by kernel_rfl)).trans (Le.sub' ([(1, .tr (.int .i64 aPosition)), (2, .ref 2 0), (5, .own 5), (6, .tr (.int .i64 (w64 (aL.At.X - aL.Length))))] : List (Nat × SV)) ([(2, .box [.tr (.int .i64 aL.At.X), .tr (.int .i64 aL.At.Y), .tr (.int .i64 aL.Length), .tr (.int .i64 aL.Priority)]), (5, .arr 53 2 ([] : List Point).length (([] : List Point).map ePoint))] : List (Nat × SO)) (by kernel_rfl) (by kernel_rfl)))) h (fun s3 v4 h => ?_)
    refine swp_seq ?_
    refine swp_seq ?_
    refine swp_reg ?_
    refine SRun.chunk tbok 8 (σ' := ⟨50, [(23, .tr (.bool (decide (s3.1 ≤ (w64 (aL.At.X + aL.Length)))))), (22, .tr (.int .i64 (w64 (aL.At.X + aL.Length)))), (21, .tr (.int .i64 aL.Length)), (20, .ref 2 2), (19, .tr (.int .i64 aL.At.X)), (18, .ref 2 0), (17, .ref 2 0), (16, .tr (.int .i64 s3.1)), (1, .tr (.int .i64 aPosition)), (2, .ref 2 0), (5, .own 5), (6, .tr (.int .i64 s3.1))], [(2, .box [.tr (.int .i64 aL.At.X), .tr (.int .i64 aL.At.Y), .tr (.int .i64 aL.Length), .tr (.int .i64 aL.Priority)]), (5, .arr 53 2 s3.2.length (s3.2.map ePoint))]⟩) (by kernel_rfl) ?_
    refine SRun.nil ?_
    refine nx_n ?_
    refine swp_cond (b := (decide (s3.1 ≤ (w64 (aL.At.X + aL.Length))))) (by kernel_rfl) (fun hb => ?_) (fun hb => ?_)
    · replace h := cond_t hb h
      refine swp_skip ?_
      refine nx_n ?_
      refine swp_seq ?_
      refine swp_seqJ h (fun j5 => ⟨50, [(1, .tr (.int .i64 aPosition)), (2, .ref 2 0), (5, .own 5), (6, .tr (.int .i64 s3.1))], [(2, .box [.tr (.int .i64 aL.At.X), .tr (.int .i64 aL.At.Y), .tr (.int .i64 aL.Length), .tr (.int .i64 aL.Priority)]), (5, .arr 53 2 j5.length (j5.map ePoint))]⟩) (fun v6 h => ?_) (fun j5 h => ?_)
      · refine swp_blk (a := v6) ?_
        refine swp_seq ?_
        refine swp_reg ?_
        refine SRun.chunk tbok 5 (σ' := ⟨50, [(7, .tr (.int .i64 (w64 (aL.At.Y - 1)))), (29, .tr (.int .i64 (w64 (aL.At.Y - 1)))), (28, .tr (.int .i64 aL.At.Y)), (27, .ref 2 1), (26, .ref 2 0), (23, .tr (.bool (decide (s3.1 ≤ (w64 (aL.At.X + aL.Length)))))), (22, .tr (.int .i64 (w64 (aL.At.X + aL.Length)))), (21, .tr (.int .i64 aL.Length)), (20, .ref 2 2), (19, .tr (.int .i64 aL.At.X)), (18, .ref 2 0), (17, .ref 2 0), (16, .tr (.int .i64 s3.1)), (1, .tr (.int .i64 aPosition)), (2, .ref 2 0), (5, .own 5), (6, .tr (.int .i64 s3.1))], [(2, .box [.tr (.int .i64 aL.At.X), .tr (.int .i64 aL.At.Y), .tr (.int .i64 aL.Length), .tr (.int .i64 aL.Priority)]), (5, .arr 53 2 s3.2.length (s3.2.map ePoint))]⟩) (by kernel_rfl) ?_
        refine SRun.nil ?_
        refine nx_n ?_
        refine swp_blk (a := v6) ?_
        refine swp_lpL (r := v6) (s := ((w64 (aL.At.Y - 1)), s3.2)) _ (fun s7 => ⟨50, [(1, .tr (.int .i64 aPosition)), (2, .ref 2 0), (5, .own 5), (6, .tr (.int .i64 s3.1)), (7, .tr (.int .i64 s7.1))], [(2, .box [.tr (.int .i64 aL.At.X), .tr (.int .i64 aL.At.Y), .tr (.int .i64 aL.Length), .tr (.int .i64 aL.Priority)]), (5, .arr 53 2 s7.2.length (s7.2.map ePoint))]⟩) _ ((Le.sub' ([(1, .tr (.int .i64 aPosition)), (2, .ref 2 0), (5, .own 5), (6, .tr (.int .i64 s3.1)), (7, .tr (.int .i64 (w64 (aL.At.Y - 1))))] : List (Nat × SV)) ([(2, .box [.tr (.int .i64 aL.At.X), .tr (.int .i64 aL.At.Y), .tr (.int .i64 aL.Length), .tr (.int .i64 aL.Priority)]), (5, .arr 53 2 s3.2.length (s3.2.map ePoint))] : List (Nat × SO)) (by kernel_rfl) (by kernel_rfl)).trans (Le.sub' ([(1, .tr (.int .i64 aPosition)), (2, .ref 2 0), (5, .own 5), (6, .tr (.int .i64 s3.1)), (7, .tr (.int .i64 (w64 (aL.At.Y - 1))))] : List (Nat × SV)) ([(2, .box [.tr (.int .i64 aL.At.X), .tr (.int .i64 aL.At.Y), .tr (.int .i64 aL.Length), .tr (.int .i64 aL.Priority)]), (5, .arr 53 2 s3.2.length (s3.2.map ePoint))] : List (Nat × SO)) (by kernel_rfl) (by kernel_rfl))) h (fun s7 v8 h => ?_)
        refine swp_seq ?_
        refine swp_seq ?_
        refine swp_reg ?_
        refine SRun.chunk tbok 6 (σ' := ⟨50, [(35, .tr (.bool (decide (s7.1 ≤ (w64 (aL.At.Y + 1)))))), (34, .tr (.int .i64 (w64 (aL.At.Y + 1)))), (33, .tr (.int .i64 aL.At.Y)), (32, .ref 2 1), (31, .ref 2 0), (30, .tr (.int .i64 s7.1)), (1, .tr (.int .i64 aPosition)), (2, .ref 2 0), (5, .own 5), (6, .tr (.int .i64 s3.1)), (7, .tr (.int .i64 s7.1))], [(2, .box [.tr (.int .i64 aL.At.X), .tr (.int .i64 aL.At.Y), .tr (.int .i64 aL.Length), .tr (.int .i64 aL.Priority)]), (5, .arr 53 2 s7.2.length (s7.2.map ePoint))]⟩) (by kernel_rfl) ?_
        refine SRun.nil ?_
        refine nx_n ?_
        refine swp_cond (b := (decide (s7.1 ≤ (w64 (aL.At.Y + 1))))) (by kernel_rfl) (fun hb => ?_) (fun hb => ?_)
        · replace h := cond_t hb h
          refine swp_skip ?_
          refine nx_n ?_
          refine swp_seq ?_
          refine swp_seqJ h (fun j9 => ⟨50, [(1, .tr (.int .i64 aPosition)), (2, .ref 2 0), (5, .own 5), (6, .tr (.int .i64 s3.1)), (7, .tr (.int .i64 s7.1))], [(2, .box [.tr (.int .i64 aL.At.X), .tr (.int .i64 aL.At.Y), .tr (.int .i64 aL.Length), .tr (.int .i64 aL.Priority)]), (5, .arr 53 2 j9.length (j9.map ePoint))]⟩) (fun v10 h => ?_) (fun j9 h => ?_)
          · refine swp_blk (a := v10) ?_
            refine swp_seq ?_
            refine swp_reg ?_
            refine SRun.chunk tbok 2 (σ' := ⟨50, [(39, .tr (.int .i64 s7.1)), (38, .tr (.int .i64 s3.1)), (35, .tr (.bool (decide (s7.1 ≤ (w64 (aL.At.Y + 1)))))), (34, .tr (.int .i64 (w64 (aL.At.Y + 1)))), (33, .tr (.int .i64 aL.At.Y)), (32, .ref 2 1), (31, .ref 2 0), (30, .tr (.int .i64 s7.1)), (1, .tr (.int .i64 aPosition)), (2, .ref 2 0), (5, .own 5), (6, .tr (.int .i64 s3.1)), (7, .tr (.int .i64 s7.1))], [(2, .box [.tr (.int .i64 aL.At.X), .tr (.int .i64 aL.At.Y), .tr (.int .i64 aL.Length), .tr (.int .i64 aL.Priority)]), (5, .arr 53 2 s7.2.length (s7.2.map ePoint))]⟩) (by kernel_rfl) ?_
            refine SRun.lstep (lstep_build (v := .agg [.tr (.int .i64 s3.1), .tr (.int .i64 s7.1)]) tbok rfl (by kernel_rfl) (by kernel_rfl) (by kernel_rfl)) (by kernel_rfl) ?_
            refine SRun.chunk tbok 1 (σ' := ⟨50, [(8, .ref 8 0), (40, .agg [.tr (.int .i64 s3.1), .tr (.int .i64 s7.1)]), (39, .tr (.int .i64 s7.1)), (38, .tr (.int .i64 s3.1)), (35, .tr (.bool (decide (s7.1 ≤ (w64 (aL.At.Y + 1)))))), (34, .tr (.int .i64 (w64 (aL.At.Y + 1)))), (33, .tr (.int .i64 aL.At.Y)), (32, .ref 2 1), (31, .ref 2 0), (30, .tr (.int .i64 s7.1)), (1, .tr (.int .i64 aPosition)), (2, .ref 2 0), (5, .own 5), (6, .tr (.int .i64 s3.1)), (7, .tr (.int .i64 s7.1))], [(8, .box [.tr (.int .i64 0), .tr (.int .i64 0)]), (2, .box [.tr (.int .i64 aL.At.X), .tr (.int .i64 aL.At.Y), .tr (.int .i64 aL.Length), .tr (.int .i64 aL.Priority)]), (5, .arr 53 2 s7.2.length (s7.2.map ePoint))]⟩) (by kernel_rfl) ?_
            refine SRun.estep (estep_store' (d := 8) (k := 0) (ti := ti53) (cs := [.tr (.int .i64 0), .tr (.int .i64 0)]) (vs := [.tr (.int .i64 s3.1), .tr (.int .i64 s7.1)]) (v := .agg [.tr (.int .i64 s3.1), .tr (.int .i64 s7.1)]) tbok rfl rfl (by kernel_rfl) (by kernel_rfl) (by kernel_rfl) (by kernel_rfl) (by kernel_rfl) (by kernel_rfl) (by kernel_rfl) (by kernel_rfl) (by kernel_rfl)) ?_
            refine SRun.nil ?_
            refine nx_n ?_
            refine swp_seq ?_
            refine swp_reg ?_
            refine SRun.chunk tbok 3 (σ' := ⟨50, [(43, .agg [.tr (.int .i64 s3.1), .tr (.int .i64 s7.1)]), (42, .tr (.int .i64 aPosition)), (41, .agg [.tr (.int .i64 aL.At.X), .tr (.int .i64 aL.At.Y), .tr (.int .i64 aL.Length), .tr (.int .i64 aL.Priority)]), (8, .ref 8 0), (40, .agg [.tr (.int .i64 s3.1), .tr (.int .i64 s7.1)]), (39, .tr (.int .i64 s7.1)), (38, .tr (.int .i64 s3.1)), (35, .tr (.bool (decide (s7.1 ≤ (w64 (aL.At.Y + 1)))))), (34, .tr (.int .i64 (w64 (aL.At.Y + 1)))), (33, .tr (.int .i64 aL.At.Y)), (32, .ref 2 1), (31, .ref 2 0), (30, .tr (.int .i64 s7.1)), (1, .tr (.int .i64 aPosition)), (2, .ref 2 0), (5, .own 5), (6, .tr (.int .i64 s3.1)), (7, .tr (.int .i64 s7.1))], [(8, .box [.tr (.int .i64 s3.1), .tr (.int .i64 s7.1)]), (2, .box [.tr (.int .i64 aL.At.X), .tr (.int .i64 aL.At.Y), .tr (.int .i64 aL.Length), .tr (.int .i64 aL.Priority)]), (5, .arr 53 2 s7.2.length (s7.2.map ePoint))]⟩) (by kernel_rfl) ?_
            obtain ⟨x11, hx11, h⟩ := bind_some h
            refine SRun.lstep (lstep_call (f := 90) (caps := []) (xs := [.agg [.tr (.int .i64 aL.At.X), .tr (.int .i64 aL.At.Y), .tr (.int .i64 aL.Length), .tr (.int .i64 aL.Priority)], .tr (.int .i64 aPosition), .agg [.tr (.int .i64 s3.1), .tr (.int .i64 s7.1)]]) (ys := [.agg [.tr (.int .i64 aL.At.X), .tr (.int .i64 aL.At.Y), .tr (.int .i64 aL.Length), .tr (.int .i64 aL.Priority)], .tr (.int .i64 aPosition), .agg [.tr (.int .i64 s3.1), .tr (.int .i64 s7.1)]]) (res := ⟨[.v (.tr (.bool x11))], [], false⟩) (x := .tr (.bool x11)) (y := none) rfl (by kernel_rfl) (by kernel_rfl) (by kernel_rfl) (by kernel_rfl) (by kernel_rfl) ents90 (spec_l33Covers_run aL aPosition (Point.mk s3.1 s7.1) _ hx11) rfl (by intro hc; cases hc) (by kernel_rfl)) (by kernel_rfl) ?_
            refine SRun.nil ?_
            refine nx_n ?_
            refine swp_cond (b := x11) (by kernel_rfl) (fun hb => ?_) (fun hb => ?_)
            · replace h := cond_t hb h
              refine swp_reg ?_
              refine SRun.chunk tbok 3 (σ' := ⟨50, [(47, .own 47), (46, .agg [.tr (.int .i64 s3.1), .tr (.int .i64 s7.1)]), (45, .own 5), (44, .tr (.bool x11)), (43, .agg [.tr (.int .i64 s3.1), .tr (.int .i64 s7.1)]), (42, .tr (.int .i64 aPosition)), (41, .agg [.tr (.int .i64 aL.At.X), .tr (.int .i64 aL.At.Y), .tr (.int .i64 aL.Length), .tr (.int .i64 aL.Priority)]), (8, .ref 8 0), (40, .agg [.tr (.int .i64 s3.1), .tr (.int .i64 s7.1)]), (39, .tr (.int .i64 s7.1)), (38, .tr (.int .i64 s3.1)), (35, .tr (.bool (decide (s7.1 ≤ (w64 (aL.At.Y + 1)))))), (34, .tr (.int .i64 (w64 (aL.At.Y + 1)))), (33, .tr (.int .i64 aL.At.Y)), (32, .ref 2 1), (31, .ref 2 0), (30, .tr (.int .i64 s7.1)), (1, .tr (.int .i64 aPosition)), (2, .ref 2 0), (5, .own 5), (6, .tr (.int .i64 s3.1)), (7, .tr (.int .i64 s7.1))], [(47, .arr 53 2 ([(Point.mk s3.1 s7.1)] : List Point).length (([(Point.mk s3.1 s7.1)] : List Point).map ePoint)), (8, .box [.tr (.int .i64 s3.1), .tr (.int .i64 s7.1)]), (2, .box [.tr (.int .i64 aL.At.X), .tr (.int .i64 aL.At.Y), .tr (.int .i64 aL.Length), .tr (.int .i64 aL.Priority)]), (5, .arr 53 2 s7.2.length (s7.2.map ePoint))]⟩) (by kernel_rfl) ?_
              obtain ⟨x12, hx12, h⟩ := bind_some h
              refine SRun.estep (t_append (f := ePoint) (t := 40) (ti := ti40) (tj := ti53) (zs := [.int .i64 0, .int .i64 0]) (e := 53) (m := 2) (d := 5) (xv := .own 47) hx12 tbok rfl rfl rfl rfl (by kernel_rfl) (by kernel_rfl) (by kernel_rfl) (by kernel_rfl) (by kernel_rfl) (by kernel_rfl) (by kernel_rfl) (by kernel_rfl) (by kernel_rfl) (by kernel_rfl) (by kernel_rfl) (by kernel_rfl) (by kernel_rfl) (by kernel_rfl) (src_o (e := 53) (by kernel_rfl)) (by kernel_rfl)) ?_
              refine SRun.chunk tbok 1 (σ' := ⟨50, [(5, .own 48), (48, .own 48), (47, .own 47), (46, .agg [.tr (.int .i64 s3.1), .tr (.int .i64 s7.1)]), (44, .tr (.bool x11)), (43, .agg [.tr (.int .i64 s3.1), .tr (.int .i64 s7.1)]), (42, .tr (.int .i64 aPosition)), (41, .agg [.tr (.int .i64 aL.At.X), .tr (.int .i64 aL.At.Y), .tr (.int .i64 aL.Length), .tr (.int .i64 aL.Priority)]), (8, .ref 8 0), (40, .agg [.tr (.int .i64 s3.1), .tr (.int .i64 s7.1)]), (39, .tr (.int .i64 s7.1)), (38, .tr (.int .i64 s3.1)), (35, .tr (.bool (decide (s7.1 ≤ (w64 (aL.At.Y + 1)))))), (34, .tr (.int .i64 (w64 (aL.At.Y + 1)))), (33, .tr (.int .i64 aL.At.Y)), (32, .ref 2 1), (31, .ref 2 0), (30, .tr (.int .i64 s7.1)), (1, .tr (.int .i64 aPosition)), (2, .ref 2 0), (6, .tr (.int .i64 s3.1)), (7, .tr (.int .i64 s7.1))], [(48, .arr 53 2 x12.length (x12.map ePoint)), (47, .arr 53 2 ([(Point.mk s3.1 s7.1)] : List Point).length (([(Point.mk s3.1 s7.1)] : List Point).map ePoint)), (8, .box [.tr (.int .i64 s3.1), .tr (.int .i64 s7.1)]), (2, .box [.tr (.int .i64 aL.At.X), .tr (.int .i64 aL.At.Y), .tr (.int .i64 aL.Length), .tr (.int .i64 aL.Priority)])]⟩) (by kernel_rfl) ?_
              refine SRun.nil ?_
              replace h := Option.some.inj h
              subst h
              exact q_bn (q_j ((Le.sub' ([(1, .tr (.int .i64 aPosition)), (2, .ref 2 0), (5, .own 48), (6, .tr (.int .i64 s3.1)), (7, .tr (.int .i64 s7.1))] : List (Nat × SV)) ([(2, .box [.tr (.int .i64 aL.At.X), .tr (.int .i64 aL.At.Y), .tr (.int .i64 aL.Length), .tr (.int .i64 aL.Priority)]), (48, .arr 53 2 x12.length (x12.map ePoint))] : List (Nat × SO)) (by kernel_rfl) (by kernel_rfl)).trans ((Le.ren' (d := 48) (e := 5) (by kernel_rfl) (by kernel_rfl) (by kernel_rfl)).trans (Le.sub' ([(1, .tr (.int .i64 aPosition)), (2, .ref 2 0), (5, .own 5), (6, .tr (.int .i64 s3.1)), (7, .tr (.int .i64 s7.1))] : List (Nat × SV)) ([(2, .box [.tr (.int .i64 aL.At.X), .tr (.int .i64 aL.At.Y), .tr (.int .i64 aL.Length), .tr (.int .i64 aL.Priority)]), (5, .arr 53 2 x12.length (x12.map ePoint))] : List (Nat × SO)) (by kernel_rfl) (by kernel_rfl)))))
            · replace h := cond_f hb h
              refine swp_skip ?_
              replace h := Option.some.inj h
              subst h
              exact q_bn (q_j ((Le.sub' ([(1, .tr (.int .i64 aPosition)), (2, .ref 2 0), (5, .own 5), (6, .tr (.int .i64 s3.1)), (7, .tr (.int .i64 s7.1))] : List (Nat × SV)) ([(2, .box [.tr (.int .i64 aL.At.X), .tr (.int .i64 aL.At.Y), .tr (.int .i64 aL.Length), .tr (.int .i64 aL.Priority)]), (5, .arr 53 2 s7.2.length (s7.2.map ePoint))] : List (Nat × SO)) (by kernel_rfl) (by kernel_rfl)).trans (Le.sub' ([(1, .tr (.int .i64 aPosition)), (2, .ref 2 0), (5, .own 5), (6, .tr (.int .i64 s3.1)), (7, .tr (.int .i64 s7.1))] : List (Nat × SV)) ([(2, .box [.tr (.int .i64 aL.At.X), .tr (.int .i64 aL.At.Y), .tr (.int .i64 aL.Length), .tr (.int .i64 aL.Priority)]), (5, .arr 53 2 s7.2.length (s7.2.map ePoint))] : List (Nat × SO)) (by kernel_rfl) (by kernel_rfl))))
          · refine swp_reg ?_
            refine SRun.chunk tbok 3 (σ' := ⟨50, [(7, .tr (.int .i64 (w64 (s7.1 + 1)))), (37, .tr (.int .i64 (w64 (s7.1 + 1)))), (36, .tr (.int .i64 s7.1)), (1, .tr (.int .i64 aPosition)), (2, .ref 2 0), (5, .own 5), (6, .tr (.int .i64 s3.1))], [(2, .box [.tr (.int .i64 aL.At.X), .tr (.int .i64 aL.At.Y), .tr (.int .i64 aL.Length), .tr (.int .i64 aL.Priority)]), (5, .arr 53 2 j9.length (j9.map ePoint))]⟩) (by kernel_rfl) ?_
            refine SRun.nil ?_
            replace h := Option.some.inj h
            subst h
            exact q_l ((Le.sub' ([(1, .tr (.int .i64 aPosition)), (2, .ref 2 0), (5, .own 5), (6, .tr (.int .i64 s3.1)), (7, .tr (.int .i64 (w64 (s7.1 + 1))))] : List (Nat × SV)) ([(2, .box [.tr (.int .i64 aL.At.X), .tr (.int .i64 aL.At.Y), .tr (.int .i64 aL.Length), .tr (.int .i64 aL.Priority)]), (5, .arr 53 2 j9.length (j9.map ePoint))] : List (Nat × SO)) (by kernel_rfl) (by kernel_rfl)).trans (Le.sub' ([(1, .tr (.int .i64 aPosition)), (2, .ref 2 0), (5, .own 5), (6, .tr (.int .i64 s3.1)), (7, .tr (.int .i64 (w64 (s7.1 + 1))))] : List (Nat × SV)) ([(2, .box [.tr (.int .i64 aL.At.X), .tr (.int .i64 aL.At.Y), .tr (.int .i64 aL.Length), .tr (.int .i64 aL.Priority)]), (5, .arr 53 2 j9.length (j9.map ePoint))] : List (Nat × SO)) (by kernel_rfl) (by kernel_rfl)))
        · replace h := cond_f hb h
          refine swp_exit ?_
          replace h := Option.some.inj h
          subst h
          exact nx_e (q_re (q_bh (q_bn (q_j ((Le.sub' ([(1, .tr (.int .i64 aPosition)), (2, .ref 2 0), (5, .own 5), (6, .tr (.int .i64 s3.1))] : List (Nat × SV)) ([(2, .box [.tr (.int .i64 aL.At.X), .tr (.int .i64 aL.At.Y), .tr (.int .i64 aL.Length), .tr (.int .i64 aL.Priority)]), (5, .arr 53 2 s7.2.length (s7.2.map ePoint))] : List (Nat × SO)) (by kernel_rfl) (by kernel_rfl)).trans (Le.sub' ([(1, .tr (.int .i64 aPosition)), (2, .ref 2 0), (5, .own 5), (6, .tr (.int .i64 s3.1))] : List (Nat × SV)) ([(2, .box [.tr (.int .i64 aL.At.X), .tr (.int .i64 aL.At.Y), .tr (.int .i64 aL.Length), .tr (.int .i64 aL.Priority)]), (5, .arr 53 2 s7.2.length (s7.2.map ePoint))] : List (Nat × SO)) (by kernel_rfl) (by kernel_rfl)))))))
      · refine swp_reg ?_
        refine SRun.chunk tbok 3 (σ' := ⟨50, [(6, .tr (.int .i64 (w64 (s3.1 + 1)))), (25, .tr (.int .i64 (w64 (s3.1 + 1)))), (24, .tr (.int .i64 s3.1)), (1, .tr (.int .i64 aPosition)), (2, .ref 2 0), (5, .own 5)], [(2, .box [.tr (.int .i64 aL.At.X), .tr (.int .i64 aL.At.Y), .tr (.int .i64 aL.Length), .tr (.int .i64 aL.Priority)]), (5, .arr 53 2 j5.length (j5.map ePoint))]⟩) (by kernel_rfl) ?_
        refine SRun.nil ?_
        replace h := Option.some.inj h
        subst h
        exact q_l ((Le.sub' ([(1, .tr (.int .i64 aPosition)), (2, .ref 2 0), (5, .own 5), (6, .tr (.int .i64 (w64 (s3.1 + 1))))] : List (Nat × SV)) ([(2, .box [.tr (.int .i64 aL.At.X), .tr (.int .i64 aL.At.Y), .tr (.int .i64 aL.Length), .tr (.int .i64 aL.Priority)]), (5, .arr 53 2 j5.length (j5.map ePoint))] : List (Nat × SO)) (by kernel_rfl) (by kernel_rfl)).trans (Le.sub' ([(1, .tr (.int .i64 aPosition)), (2, .ref 2 0), (5, .own 5), (6, .tr (.int .i64 (w64 (s3.1 + 1))))] : List (Nat × SV)) ([(2, .box [.tr (.int .i64 aL.At.X), .tr (.int .i64 aL.At.Y), .tr (.int .i64 aL.Length), .tr (.int .i64 aL.Priority)]), (5, .arr 53 2 j5.length (j5.map ePoint))] : List (Nat × SO)) (by kernel_rfl) (by kernel_rfl)))
    · replace h := cond_f hb h
      refine swp_exit ?_
      replace h := Option.some.inj h
      subst h
      exact nx_e (q_re (q_bh (q_j ((Le.sub' ([(5, .own 5)] : List (Nat × SV)) ([(5, .arr 53 2 s3.2.length (s3.2.map ePoint))] : List (Nat × SO)) (by kernel_rfl) (by kernel_rfl)).trans (Le.sub' ([(5, .own 5)] : List (Nat × SV)) ([(5, .arr 53 2 s3.2.length (s3.2.map ePoint))] : List (Nat × SO)) (by kernel_rfl) (by kernel_rfl))))))
  · refine swp_seq ?_
    refine swp_reg ?_
    refine SRun.chunk tbok 2 (σ' := ⟨50, [(4, .own 5), (49, .own 5), (5, .own 5)], [(5, .arr 53 2 j1.length (j1.map ePoint))]⟩) (by kernel_rfl) ?_
    refine SRun.nil ?_
    refine nx_n ?_
    refine swp_ret ?_
    replace h := Option.some.inj h
    subst h
    exact q_fr (fin1 (by kernel_rfl) (finO (d := 5) (holds_t (by kernel_rfl)) (by kernel_rfl) (flat_map ePoint_flat _) (by kernel_rfl)))
theorem ents66 : Ents Try.prog 66 := ents_of Try.func66 (by kernel_rfl) rfl
noncomputable def spec_CoveredBy (aList : (List Label)) (aIndex : Int) (aPosition : Int) : Option ((List Point) × Int) :=
  ((spec_l33Code aList aIndex).bind fun x1 => (((bif (x1 == 0) then ((spec_l01In aPosition 0 3).bind fun x2 => some (!x2)) else some false)).bind fun (j3 : Bool) => (((bif j3 then some 2 else some x1)).bind fun (j5 : Int) => (bif (j5 != 0) then some (([] : List Point), j5) else ((at' aList aIndex).bind fun x7 => ((spec_l33Points x7 aPosition).bind fun x8 => some (x8, 0)))))))
set_option maxRecDepth 100000 in
set_option maxHeartbeats 4000000 in
theorem spec_CoveredBy_run (aList : (List Label)) (aIndex : Int) (aPosition : Int) (r : (List Point) × Int) (h : spec_CoveredBy aList aIndex aPosition = some r) : SCall Try.prog 27 [.v (.tr (.sl aList.length (aList.map eLabel))), .v (.tr (.int .i64 aIndex)), .v (.tr (.int .i64 aPosition))] ⟨[.own 53 2 r.1.length (r.1.map ePoint), .v (.tr (.int .i64 r.2))], [], false⟩ := by
  refine scall_intro' (P := Try.prog) Try.func27 rfl [(.tmp 6), (.tmp 7)] rfl (ins := [.v (.tr (.sl aList.length (aList.map eLabel))), .v (.tr (.int .i64 aIndex)), .v (.tr (.int .i64 aPosition))]) (by kernel_rfl) (by kernel_rfl) rfl (fun r => ⟨[.own 53 2 r.1.length (r.1.map ePoint), .v (.tr (.int .i64 r.2))], [], false⟩) (r := r) ?_
  unfold spec_CoveredBy at h
  refine swp_seq ?_
  refine swp_reg ?_
  refine SRun.chunk tbok 2 (σ' := ⟨28, [(7, .tr (.int .i64 0)), (6, .own 6), (0, .tr (.sl aList.length (aList.map eLabel))), (1, .tr (.int .i64 aIndex)), (2, .tr (.int .i64 aPosition))], [(6, .arr 53 2 ([] : List Point).length (([] : List Point).map ePoint))]⟩) (by kernel_rfl) ?_
  refine SRun.nil ?_
  refine nx_n ?_
  refine swp_seq ?_
  refine swp_reg ?_
  refine SRun.chunk tbok 2 (σ' := ⟨28, [(10, .tr (.int .i64 aIndex)), (9, .tr (.sl aList.length (aList.map eLabel))), (7, .tr (.int .i64 0)), (6, .own 6), (0, .tr (.sl aList.length (aList.map eLabel))), (1, .tr (.int .i64 aIndex)), (2, .tr (.int .i64 aPosition))], [(6, .arr 53 2 ([] : List Point).length (([] : List Point).map ePoint))]⟩) (by kernel_rfl) ?_
  obtain ⟨x1, hx1, h⟩ := bind_some h
  refine SRun.lstep (lstep_call (f := 62) (caps := []) (xs := [.tr (.sl aList.length (aList.map eLabel)), .tr (.int .i64 aIndex)]) (ys := [.tr (.sl aList.length (aList.map eLabel)), .tr (.int .i64 aIndex)]) (res := ⟨[.v (.tr (.int .i64 x1))], [], false⟩) (x := .tr (.int .i64 x1)) (y := none) rfl (by kernel_rfl) (by kernel_rfl) (by kernel_rfl) (by kernel_rfl) (by kernel_rfl) ents62 (spec_l33Code_run aList aIndex _ hx1) rfl (by intro hc; cases hc) (by kernel_rfl)) (by kernel_rfl) ?_
  refine SRun.chunk tbok 1 (σ' := ⟨28, [(8, .tr (.int .i64 x1)), (11, .tr (.int .i64 x1)), (10, .tr (.int .i64 aIndex)), (9, .tr (.sl aList.length (aList.map eLabel))), (7, .tr (.int .i64 0)), (6, .own 6), (0, .tr (.sl aList.length (aList.map eLabel))), (1, .tr (.int .i64 aIndex)), (2, .tr (.int .i64 aPosition))], [(6, .arr 53 2 ([] : List Point).length (([] : List Point).map ePoint))]⟩) (by kernel_rfl) ?_
  refine SRun.nil ?_
  refine nx_n ?_
  refine swp_seq ?_
  refine swp_seq ?_
  refine swp_regJ h (fun j3 => ⟨28, [(0, .tr (.sl aList.length (aList.map eLabel))), (1, .tr (.int .i64 aIndex)), (2, .tr (.int .i64 aPosition)), (8, .tr (.int .i64 x1)), (18, .tr (.bool j3))], []⟩) (fun v4 h => ?_) (fun j3 h => ?_)
  · refine SRun.chunk tbok 3 (σ' := ⟨28, [(14, .tr (.bool (x1 == 0))), (13, .tr (.bool (x1 == 0))), (12, .tr (.int .i64 x1)), (8, .tr (.int .i64 x1)), (11, .tr (.int .i64 x1)), (10, .tr (.int .i64 aIndex)), (9, .tr (.sl aList.length (aList.map eLabel))), (7, .tr (.int .i64 0)), (6, .own 6), (0, .tr (.sl aList.length (aList.map eLabel))), (1, .tr (.int .i64 aIndex)), (2, .tr (.int .i64 aPosition))], [(6, .arr 53 2 ([] : List Point).length (([] : List Point).map ePoint))]⟩) (by kernel_rfl) ?_
    revert h
    generalize (x1 == 0) = bb
    cases bb <;> intro h
    · replace h := cond_f rfl h
      refine SRun.chunk tbok 4 (σ' := ⟨28, [(18, .tr (.bool false)), (17, .tup []), (16, .tup []), (15, .tup []), (14, .tr (.bool false)), (13, .tr (.bool false)), (12, .tr (.int .i64 x1)), (8, .tr (.int .i64 x1)), (11, .tr (.int .i64 x1)), (10, .tr (.int .i64 aIndex)), (9, .tr (.sl aList.length (aList.map eLabel))), (7, .tr (.int .i64 0)), (6, .own 6), (0, .tr (.sl aList.length (aList.map eLabel))), (1, .tr (.int .i64 aIndex)), (2, .tr (.int .i64 aPosition))], [(6, .arr 53 2 ([] : List Point).length (([] : List Point).map ePoint))]⟩) (by kernel_rfl) ?_
      refine SRun.nil ?_
      replace h := Option.some.inj h
      subst h
      exact (Le.sub' ([(0, .tr (.sl aList.length (aList.map eLabel))), (1, .tr (.int .i64 aIndex)), (2, .tr (.int .i64 aPosition)), (8, .tr (.int .i64 x1)), (18, .tr (.bool false))] : List (Nat × SV)) ([] : List (Nat × SO)) (by kernel_rfl) (by kernel_rfl)).trans (Le.sub' ([(0, .tr (.sl aList.length (aList.map eLabel))), (1, .tr (.int .i64 aIndex)), (2, .tr (.int .i64 aPosition)), (8, .tr (.int .i64 x1)), (18, .tr (.bool false))] : List (Nat × SV)) ([] : List (Nat × SO)) (by kernel_rfl) (by kernel_rfl))
    · replace h := cond_t rfl h
      refine SRun.chunk tbok 1 (σ' := ⟨28, [(15, .tr (.int .i64 aPosition)), (14, .tr (.bool true)), (13, .tr (.bool true)), (12, .tr (.int .i64 x1)), (8, .tr (.int .i64 x1)), (11, .tr (.int .i64 x1)), (10, .tr (.int .i64 aIndex)), (9, .tr (.sl aList.length (aList.map eLabel))), (7, .tr (.int .i64 0)), (6, .own 6), (0, .tr (.sl aList.length (aList.map eLabel))), (1, .tr (.int .i64 aIndex)), (2, .tr (.int .i64 aPosition))], [(6, .arr 53 2 ([] : List Point).length (([] : List Point).map ePoint))]⟩) (by kernel_rfl) ?_
      obtain ⟨x2, hx2, h⟩ := bind_some h
      refine SRun.lstep (lstep_call (f := 52) (caps := []) (xs := [.tr (.int .i64 aPosition), .tr (.int .i64 0), .tr (.int .i64 3)]) (ys := [.tr (.int .i64 aPosition), .tr (.int .i64 0), .tr (.int .i64 3)]) (res := ⟨[.v (.tr (.bool x2))], [], false⟩) (x := .tr (.bool x2)) (y := none) rfl (by kernel_rfl) (by kernel_rfl) (by kernel_rfl) (by kernel_rfl) (by kernel_rfl) ents52 (spec_l01In_run aPosition 0 3 _ hx2) rfl (by intro hc; cases hc) (by kernel_rfl)) (by kernel_rfl) ?_
      refine SRun.chunk tbok 2 (σ' := ⟨28, [(18, .tr (.bool (!x2))), (17, .tr (.bool (!x2))), (16, .tr (.bool x2)), (15, .tr (.int .i64 aPosition)), (14, .tr (.bool true)), (13, .tr (.bool true)), (12, .tr (.int .i64 x1)), (8, .tr (.int .i64 x1)), (11, .tr (.int .i64 x1)), (10, .tr (.int .i64 aIndex)), (9, .tr (.sl aList.length (aList.map eLabel))), (7, .tr (.int .i64 0)), (6, .own 6), (0, .tr (.sl aList.length (aList.map eLabel))), (1, .tr (.int .i64 aIndex)), (2, .tr (.int .i64 aPosition))], [(6, .arr 53 2 ([] : List Point).length (([] : List Point).map ePoint))]⟩) (by kernel_rfl) ?_
      refine SRun.nil ?_
      replace h := Option.some.inj h
      subst h
      exact (Le.sub' ([(0, .tr (.sl aList.length (aList.map eLabel))), (1, .tr (.int .i64 aIndex)), (2, .tr (.int .i64 aPosition)), (8, .tr (.int .i64 x1)), (18, .tr (.bool (!x2)))] : List (Nat × SV)) ([] : List (Nat × SO)) (by kernel_rfl) (by kernel_rfl)).trans (Le.sub' ([(0, .tr (.sl aList.length (aList.map eLabel))), (1, .tr (.int .i64 aIndex)), (2, .tr (.int .i64 aPosition)), (8, .tr (.int .i64 x1)), (18, .tr (.bool (!x2)))] : List (Nat × SV)) ([] : List (Nat × SO)) (by kernel_rfl) (by kernel_rfl))
  · refine swp_seqJ h (fun j5 => ⟨28, [(0, .tr (.sl aList.length (aList.map eLabel))), (1, .tr (.int .i64 aIndex)), (2, .tr (.int .i64 aPosition)), (8, .tr (.int .i64 j5))], []⟩) (fun v6 h => ?_) (fun j5 h => ?_)
    · refine swp_cond (b := j3) (by kernel_rfl) (fun hb => ?_) (fun hb => ?_)
      · replace h := cond_t hb h
        refine swp_reg ?_
        refine SRun.chunk tbok 1 (σ' := ⟨28, [(8, .tr (.int .i64 2)), (0, .tr (.sl aList.length (aList.map eLabel))), (1, .tr (.int .i64 aIndex)), (2, .tr (.int .i64 aPosition)), (18, .tr (.bool j3))], []⟩) (by kernel_rfl) ?_
        refine SRun.nil ?_
        replace h := Option.some.inj h
        subst h
        exact q_j ((Le.sub' ([(0, .tr (.sl aList.length (aList.map eLabel))), (1, .tr (.int .i64 aIndex)), (2, .tr (.int .i64 aPosition)), (8, .tr (.int .i64 2))] : List (Nat × SV)) ([] : List (Nat × SO)) (by kernel_rfl) (by kernel_rfl)).trans (Le.sub' ([(0, .tr (.sl aList.length (aList.map eLabel))), (1, .tr (.int .i64 aIndex)), (2, .tr (.int .i64 aPosition)), (8, .tr (.int .i64 2))] : List (Nat × SV)) ([] : List (Nat × SO)) (by kernel_rfl) (by kernel_rfl)))
      · replace h := cond_f hb h
        refine swp_skip ?_
        replace h := Option.some.inj h
        subst h
        exact q_j ((Le.sub' ([(0, .tr (.sl aList.length (aList.map eLabel))), (1, .tr (.int .i64 aIndex)), (2, .tr (.int .i64 aPosition)), (8, .tr (.int .i64 x1))] : List (Nat × SV)) ([] : List (Nat × SO)) (by kernel_rfl) (by kernel_rfl)).trans (Le.sub' ([(0, .tr (.sl aList.length (aList.map eLabel))), (1, .tr (.int .i64 aIndex)), (2, .tr (.int .i64 aPosition)), (8, .tr (.int .i64 x1))] : List (Nat × SV)) ([] : List (Nat × SO)) (by kernel_rfl) (by kernel_rfl)))
    · refine swp_seq ?_
      refine swp_seq ?_
      refine swp_reg ?_
      refine SRun.chunk tbok 2 (σ' := ⟨28, [(20, .tr (.bool (j5 != 0))), (19, .tr (.int .i64 j5)), (0, .tr (.sl aList.length (aList.map eLabel))), (1, .tr (.int .i64 aIndex)), (2, .tr (.int .i64 aPosition)), (8, .tr (.int .i64 j5))], []⟩) (by kernel_rfl) ?_
      refine SRun.nil ?_
      refine nx_n ?_
      refine swp_cond (b := (j5 != 0)) (by kernel_rfl) (fun hb => ?_) (fun hb => ?_)
      · replace h := cond_t hb h
        refine swp_seq ?_
        refine swp_reg ?_
        refine SRun.chunk tbok 3 (σ' := ⟨28, [(7, .tr (.int .i64 j5)), (6, .own 6), (21, .tr (.int .i64 j5)), (20, .tr (.bool (j5 != 0))), (19, .tr (.int .i64 j5)), (0, .tr (.sl aList.length (aList.map eLabel))), (1, .tr (.int .i64 aIndex)), (2, .tr (.int .i64 aPosition)), (8, .tr (.int .i64 j5))], [(6, .arr 53 2 ([] : List Point).length (([] : List Point).map ePoint))]⟩) (by kernel_rfl) ?_
        refine SRun.nil ?_
        refine nx_n ?_
        refine swp_ret ?_
        replace h := Option.some.inj h
        subst h
        exact nx_r (q_fr (fin2 (by kernel_rfl) (finO (d := 6) (holds_t (by kernel_rfl)) (by kernel_rfl) (flat_map ePoint_flat _) (by kernel_rfl)) (finV rfl (by simp [SV.Flat, SV.Flat.FlatL, Tr.flat]) (holds_t (by kernel_rfl)))))
      · replace h := cond_f hb h
        refine swp_skip ?_
        refine nx_n ?_
        refine swp_seq ?_
        refine swp_reg ?_
        refine SRun.chunk tbok 2 (σ' := ⟨28, [(23, .tr (.int .i64 aIndex)), (22, .tr (.sl aList.length (aList.map eLabel))), (20, .tr (.bool (j5 != 0))), (19, .tr (.int .i64 j5)), (0, .tr (.sl aList.length (aList.map eLabel))), (1, .tr (.int .i64 aIndex)), (2, .tr (.int .i64 aPosition)), (8, .tr (.int .i64 j5))], []⟩) (by kernel_rfl) ?_
        obtain ⟨x7, hx7, h⟩ := bind_some h
        refine SRun.lstep (t_index (L := aList) (f := eLabel) (ti := ti25) (tj := ti55) (e := 55) (k := .i64) tbok rfl (by kernel_rfl) (by kernel_rfl) (by kernel_rfl) (by kernel_rfl) (by kernel_rfl) (by kernel_rfl) (by kernel_rfl) hx7 (by kernel_rfl)) (by kernel_rfl) ?_
        refine SRun.chunk tbok 2 (σ' := ⟨28, [(26, .tr (.int .i64 aPosition)), (25, .agg [.tr (.int .i64 x7.At.X), .tr (.int .i64 x7.At.Y), .tr (.int .i64 x7.Length), .tr (.int .i64 x7.Priority)]), (24, .ptr ((eLabel x7).map .tr) 0), (23, .tr (.int .i64 aIndex)), (22, .tr (.sl aList.length (aList.map eLabel))), (20, .tr (.bool (j5 != 0))), (19, .tr (.int .i64 j5)), (0, .tr (.sl aList.length (aList.map eLabel))), (1, .tr (.int .i64 aIndex)), (2, .tr (.int .i64 aPosition)), (8, .tr (.int .i64 j5))], []⟩) (by kernel_rfl) ?_
        obtain ⟨x8, hx8, h⟩ := bind_some h
        refine SRun.lstep (lstep_call (f := 66) (caps := []) (xs := [.agg [.tr (.int .i64 x7.At.X), .tr (.int .i64 x7.At.Y), .tr (.int .i64 x7.Length), .tr (.int .i64 x7.Priority)], .tr (.int .i64 aPosition)]) (ys := [.agg [.tr (.int .i64 x7.At.X), .tr (.int .i64 x7.At.Y), .tr (.int .i64 x7.Length), .tr (.int .i64 x7.Priority)], .tr (.int .i64 aPosition)]) (res := ⟨[.own 53 2 x8.length (x8.map ePoint)], [], false⟩) (x := .own 27) (y := some (.arr 53 2 x8.length (x8.map ePoint))) rfl (by kernel_rfl) (by kernel_rfl) (by kernel_rfl) (by kernel_rfl) (by kernel_rfl) ents66 (spec_l33Points_run x7 aPosition _ hx8) rfl (by intro hc; cases hc) (by kernel_rfl)) (by kernel_rfl) ?_
        refine SRun.chunk tbok 2 (σ' := ⟨28, [(7, .tr (.int .i64 0)), (6, .own 27), (27, .own 27), (26, .tr (.int .i64 aPosition)), (25, .agg [.tr (.int .i64 x7.At.X), .tr (.int .i64 x7.At.Y), .tr (.int .i64 x7.Length), .tr (.int .i64 x7.Priority)]), (24, .ptr ((eLabel x7).map .tr) 0), (23, .tr (.int .i64 aIndex)), (22, .tr (.sl aList.length (aList.map eLabel))), (20, .tr (.bool (j5 != 0))), (19, .tr (.int .i64 j5)), (0, .tr (.sl aList.length (aList.map eLabel))), (1, .tr (.int .i64 aIndex)), (2, .tr (.int .i64 aPosition)), (8, .tr (.int .i64 j5))], [(27, .arr 53 2 x8.length (x8.map ePoint))]⟩) (by kernel_rfl) ?_
        refine SRun.nil ?_
        refine nx_n ?_
        refine swp_ret ?_
        replace h := Option.some.inj h
        subst h
        exact q_fr (fin2 (by kernel_rfl) (finO (d := 27) (holds_t (by kernel_rfl)) (by kernel_rfl) (flat_map ePoint_flat _) (by kernel_rfl)) (finV rfl (by simp [SV.Flat, SV.Flat.FlatL, Tr.flat]) (holds_t (by kernel_rfl))))
theorem ents27 : Ents Try.prog 27 := ents_of Try.func27 (by kernel_rfl) rfl
noncomputable def spec_DrawAllowedPositions (aCode : (List Int)) : Option ((List Label) × Int) :=
  ((spec_DrawCoveredBy aCode).bind fun x1 => some (x1.1, x1.2.1))
set_option maxRecDepth 100000 in
set_option maxHeartbeats 4000000 in
theorem spec_DrawAllowedPositions_run (aCode : (List Int)) (r : (List Label) × Int) (h : spec_DrawAllowedPositions aCode = some r) : SCall Try.prog 34 [.v (.tr (.sl aCode.length (aCode.map (eI .u8))))] ⟨[.own 55 4 r.1.length (r.1.map eLabel), .v (.tr (.int .i64 r.2))], [], false⟩ := by
  refine scall_intro' (P := Try.prog) Try.func34 rfl [(.tmp 2), (.tmp 3)] rfl (ins := [.v (.tr (.sl aCode.length (aCode.map (eI .u8))))]) (by kernel_rfl) (by kernel_rfl) rfl (fun r => ⟨[.own 55 4 r.1.length (r.1.map eLabel), .v (.tr (.int .i64 r.2))], [], false⟩) (r := r) ?_
  unfold spec_DrawAllowedPositions at h
  refine swp_seq ?_
  refine swp_reg ?_
  refine SRun.chunk tbok 2 (σ' := ⟨15, [(3, .tr (.int .i64 0)), (2, .own 2), (0, .tr (.sl aCode.length (aCode.map (eI .u8))))], [(2, .arr 55 4 ([] : List Label).length (([] : List Label).map eLabel))]⟩) (by kernel_rfl) ?_
  refine SRun.nil ?_
  refine nx_n ?_
  refine swp_seq ?_
  refine swp_reg ?_
  refine SRun.chunk tbok 1 (σ' := ⟨15, [(8, .tr (.sl aCode.length (aCode.map (eI .u8)))), (3, .tr (.int .i64 0)), (2, .own 2), (0, .tr (.sl aCode.length (aCode.map (eI .u8))))], [(2, .arr 55 4 ([] : List Label).length (([] : List Label).map eLabel))]⟩) (by kernel_rfl) ?_
  obtain ⟨x1, hx1, h⟩ := bind_some h
  refine SRun.lstep (lstep_call (f := 33) (caps := []) (xs := [.tr (.sl aCode.length (aCode.map (eI .u8)))]) (ys := [.tr (.sl aCode.length (aCode.map (eI .u8)))]) (res := ⟨[.own 55 4 x1.1.length (x1.1.map eLabel), .v (.tr (.int .i64 x1.2.1)), .v (.tr (.int .i64 x1.2.2))], [], false⟩) (x := .tup [.own 9, .tr (.int .i64 x1.2.1), .tr (.int .i64 x1.2.2)]) (y := some (.arr 55 4 x1.1.length (x1.1.map eLabel))) rfl (by kernel_rfl) (by kernel_rfl) (by kernel_rfl) (by kernel_rfl) (by kernel_rfl) ents33 (spec_DrawCoveredBy_run aCode _ hx1) rfl (by intro hc; cases hc) (by kernel_rfl)) (by kernel_rfl) ?_
  refine SRun.chunk tbok 7 (σ' := ⟨15, [(6, .tr (.int .i64 x1.2.2)), (5, .tr (.int .i64 x1.2.1)), (4, .own 9), (12, .tr (.int .i64 x1.2.2)), (11, .tr (.int .i64 x1.2.1)), (10, .own 9), (7, .tup [.own 9, .tr (.int .i64 x1.2.1), .tr (.int .i64 x1.2.2)]), (9, .tup [.own 9, .tr (.int .i64 x1.2.1), .tr (.int .i64 x1.2.2)]), (8, .tr (.sl aCode.length (aCode.map (eI .u8)))), (3, .tr (.int .i64 0)), (2, .own 2), (0, .tr (.sl aCode.length (aCode.map (eI .u8))))], [(9, .arr 55 4 x1.1.length (x1.1.map eLabel)), (2, .arr 55 4 ([] : List Label).length (([] : List Label).map eLabel))]⟩) (by kernel_rfl) ?_
  refine SRun.nil ?_
  refine nx_n ?_
  refine swp_seq ?_
  refine swp_reg ?_
  refine SRun.chunk tbok 4 (σ' := ⟨15, [(3, .tr (.int .i64 x1.2.1)), (2, .own 9), (14, .tr (.int .i64 x1.2.1)), (13, .own 9), (6, .tr (.int .i64 x1.2.2)), (5, .tr (.int .i64 x1.2.1)), (4, .own 9), (12, .tr (.int .i64 x1.2.2)), (11, .tr (.int .i64 x1.2.1)), (10, .own 9), (7, .tup [.own 9, .tr (.int .i64 x1.2.1), .tr (.int .i64 x1.2.2)]), (9, .tup [.own 9, .tr (.int .i64 x1.2.1), .tr (.int .i64 x1.2.2)]), (8, .tr (.sl aCode.length (aCode.map (eI .u8)))), (0, .tr (.sl aCode.length (aCode.map (eI .u8))))], [(9, .arr 55 4 x1.1.length (x1.1.map eLabel)), (2, .arr 55 4 ([] : List Label).length (([] : List Label).map eLabel))]⟩) (by kernel_rfl) ?_
  refine SRun.nil ?_
  refine nx_n ?_
  refine swp_ret ?_
  replace h := Option.some.inj h
  subst h
  exact q_fr (fin2 (by kernel_rfl) (finO (d := 9) (holds_t (by kernel_rfl)) (by kernel_rfl) (flat_map eLabel_flat _) (by kernel_rfl)) (finV rfl (by simp [SV.Flat, SV.Flat.FlatL, Tr.flat]) (holds_t (by kernel_rfl))))
theorem ents34 : Ents Try.prog 34 := ents_of Try.func34 (by kernel_rfl) rfl
noncomputable def impl_isAllowed_1 (aP : Point) (c0 : (List Label)) : Option (Bool) :=
  ((impl_isAt c0 aP).bind fun x1 => some x1)
set_option maxRecDepth 100000 in
set_option maxHeartbeats 4000000 in
theorem impl_isAllowed_1_run (aP : Point) (c0 : (List Label)) (r : Bool) (h : impl_isAllowed_1 aP c0 = some r) : SCall Try.prog 93 [.v (.agg [.tr (.int .i64 aP.X), .tr (.int .i64 aP.Y)]), .v (.ptr [.tr (.sl c0.length (c0.map eLabel))] 0)] ⟨[.v (.tr (.bool r))], [], false⟩ := by
  refine scall_intro' (P := Try.prog) Try.func93 rfl [(.tmp 3)] rfl (ins := [.v (.agg [.tr (.int .i64 aP.X), .tr (.int .i64 aP.Y)]), .v (.ptr [.tr (.sl c0.length (c0.map eLabel))] 0)]) (by kernel_rfl) (by kernel_rfl) rfl (fun r => ⟨[.v (.tr (.bool r))], [], false⟩) (r := r) ?_
  unfold impl_isAllowed_1 at h
  refine swp_seq ?_
  refine swp_reg ?_
  refine SRun.chunk tbok 2 (σ' := ⟨7, [(3, .tr (.bool false)), (2, .ref 2 0), (0, .agg [.tr (.int .i64 aP.X), .tr (.int .i64 aP.Y)]), (1, .ptr [.tr (.sl c0.length (c0.map eLabel))] 0)], [(2, .box [.tr (.int .i64 aP.X), .tr (.int .i64 aP.Y)])]⟩) (by kernel_rfl) ?_
  refine SRun.nil ?_
  refine nx_n ?_
  refine swp_seq ?_
  refine swp_reg ?_
  refine SRun.chunk tbok 2 (σ' := ⟨7, [(5, .agg [.tr (.int .i64 aP.X), .tr (.int .i64 aP.Y)]), (4, .tr (.sl c0.length (c0.map eLabel))), (3, .tr (.bool false)), (2, .ref 2 0), (0, .agg [.tr (.int .i64 aP.X), .tr (.int .i64 aP.Y)]), (1, .ptr [.tr (.sl c0.length (c0.map eLabel))] 0)], [(2, .box [.tr (.int .i64 aP.X), .tr (.int .i64 aP.Y)])]⟩) (by kernel_rfl) ?_
  obtain ⟨x1, hx1, h⟩ := bind_some h
  refine SRun.lstep (lstep_call (f := 56) (caps := []) (xs := [.tr (.sl c0.length (c0.map eLabel)), .agg [.tr (.int .i64 aP.X), .tr (.int .i64 aP.Y)]]) (ys := [.tr (.sl c0.length (c0.map eLabel)), .agg [.tr (.int .i64 aP.X), .tr (.int .i64 aP.Y)]]) (res := ⟨[.v (.tr (.bool x1))], [], false⟩) (x := .tr (.bool x1)) (y := none) rfl (by kernel_rfl) (by kernel_rfl) (by kernel_rfl) (by kernel_rfl) (by kernel_rfl) ents56 (impl_isAt_run c0 aP _ hx1) rfl (by intro hc; cases hc) (by kernel_rfl)) (by kernel_rfl) ?_
  refine SRun.chunk tbok 1 (σ' := ⟨7, [(3, .tr (.bool x1)), (6, .tr (.bool x1)), (5, .agg [.tr (.int .i64 aP.X), .tr (.int .i64 aP.Y)]), (4, .tr (.sl c0.length (c0.map eLabel))), (2, .ref 2 0), (0, .agg [.tr (.int .i64 aP.X), .tr (.int .i64 aP.Y)]), (1, .ptr [.tr (.sl c0.length (c0.map eLabel))] 0)], [(2, .box [.tr (.int .i64 aP.X), .tr (.int .i64 aP.Y)])]⟩) (by kernel_rfl) ?_
  refine SRun.nil ?_
  refine nx_n ?_
  refine swp_ret ?_
  replace h := Option.some.inj h
  subst h
  exact q_fr (fin1 (by kernel_rfl) (finV rfl (by simp [SV.Flat, SV.Flat.FlatL, Tr.flat]) (holds_t (by kernel_rfl))))
theorem ents93 : Ents Try.prog 93 := ents_of Try.func93 (by kernel_rfl) rfl
noncomputable def slices_IndexFunc_Point_impl_isAllowed_1 (aS : (List Point)) (aF0 : (List Label)) : Option (Int) :=
  (((loop (fun (s3 : Int) => (bif (decide (s3 < (aS.length : Int))) then ((((at' aS s3).bind fun x7 => ((impl_isAllowed_1 x7 aF0).bind fun x8 => (bif x8 then some (.inr (.inr (.inr s3))) else some (.inl ()))))).bind (Sum.elim (fun (j5 : Unit) => some (.inl (w64 (s3 + 1)))) some)) else some (.inr (.inl ())))) 0)).bind (Sum.elim (fun (j1 : Unit) => some (-1)) some))
set_option maxRecDepth 100000 in
set_option maxHeartbeats 4000000 in
theorem slices_IndexFunc_Point_impl_isAllowed_1_run (aS : (List Point)) (aF0 : (List Label)) (r : Int) (h : slices_IndexFunc_Point_impl_isAllowed_1 aS aF0 = some r) : SCall Try.prog 102 [.v (.tr (.sl aS.length (aS.map ePoint))), .v (.clo 93 [.ptr [.tr (.sl aF0.length (aF0.map eLabel))] 0])] ⟨[.v (.tr (.int .i64 r))], [], false⟩ := by
  refine scall_intro' (P := Try.prog) Try.func102 rfl [(.tmp 4)] rfl (ins := [.v (.tr (.sl aS.length (aS.map ePoint))), .v (.clo 93 [.ptr [.tr (.sl aF0.length (aF0.map eLabel))] 0])]) (by kernel_rfl) (by kernel_rfl) rfl (fun r => ⟨[.v (.tr (.int .i64 r))], [], false⟩) (r := r) ?_
  unfold slices_IndexFunc_Point_impl_isAllowed_1 at h
  refine swp_seq ?_
  refine swp_reg ?_
  refine SRun.chunk tbok 1 (σ' := ⟨19, [(4, .tr (.int .i64 0)), (0, .tr (.sl aS.length (aS.map ePoint))), (1, .clo 93 [.ptr [.tr (.sl aF0.length (aF0.map eLabel))] 0])], []⟩) (by kernel_rfl) ?_
  refine SRun.nil ?_
  refine nx_n ?_
  refine swp_seq ?_
  refine swp_seq ?_
  refine swp_reg ?_
  refine SRun.chunk tbok 3 (σ' := ⟨19, [(8, .tr (.int .i64 0)), (7, .tr (.int .i64 (aS.length : Int))), (6, .tr (.sl aS.length (aS.map ePoint))), (4, .tr (.int .i64 0)), (0, .tr (.sl aS.length (aS.map ePoint))), (1, .clo 93 [.ptr [.tr (.sl aF0.length (aF0.map eLabel))] 0])], []⟩) (by kernel_rfl) ?_
  refine SRun.nil ?_
  refine nx_n ?_
  refine swp_seqE (r := r) h (fun j1 => ⟨19, [], []⟩) (fun v2 h => ?_) (fun j1 h => ?_)
  · refine swp_blk (a := v2) ?_
    refine swp_lpL (r := v2) (s := 0) _ (fun s3 => ⟨19, [(0, .tr (.sl aS.length (aS.map ePoint))), (1, .clo 93 [.ptr [.tr (.sl aF0.length (aF0.map eLabel))] 0]), (7, .tr (.int .i64 (aS.length : Int))), (8, .tr (.int .i64 s3))], []⟩) _ ((Le.sub' ([(0, .tr (.sl aS.length (aS.map ePoint))), (1, .clo 93 [.ptr [.tr (.sl aF0.length (aF0.map eLabel))] 0]), (7, .tr (.int .i64 (aS.length : Int))), (8, .tr (.int .i64 0))] : List (Nat × SV)) ([] : List (Nat × SO)) (by kernel_rfl) (by kernel_rfl)).trans (Le.sub' ([(0, .tr (.sl aS.length (aS.map ePoint))), (1, .clo 93 [.ptr [.tr (.sl aF0.length (aF0.map eLabel))] 0]), (7, .tr (.int .i64 (aS.length : Int))), (8, .tr (.int .i64 0))] : List (Nat × SV)) ([] : List (Nat × SO)) (by kernel_rfl) (by kernel_rfl))) h (fun s3 v4 h => ?_)
    refine swp_seq ?_
    refine swp_reg ?_
    refine SRun.chunk tbok 1 (σ' := ⟨19, [(9, .tr (.bool (decide (s3 < (aS.length : Int))))), (0, .tr (.sl aS.length (aS.map ePoint))), (1, .clo 93 [.ptr [.tr (.sl aF0.length (aF0.map eLabel))] 0]), (7, .tr (.int .i64 (aS.length : Int))), (8, .tr (.int .i64 s3))], []⟩) (by kernel_rfl) ?_
    refine SRun.nil ?_
    refine nx_n ?_
    refine swp_seq ?_
    refine swp_cond (b := (decide (s3 < (aS.length : Int)))) (by kernel_rfl) (fun hb => ?_) (fun hb => ?_)
    · replace h := cond_t hb h
      refine swp_skip ?_
      refine nx_n ?_
      refine swp_seq ?_
      refine swp_seqE (r := v4) h (fun j5 => ⟨19, [(0, .tr (.sl aS.length (aS.map ePoint))), (1, .clo 93 [.ptr [.tr (.sl aF0.length (aF0.map eLabel))] 0]), (7, .tr (.int .i64 (aS.length : Int))), (8, .tr (.int .i64 s3))], []⟩) (fun v6 h => ?_) (fun j5 h => ?_)
      · refine swp_blk (a := v6) ?_
        refine swp_seq ?_
        refine swp_reg ?_
        refine SRun.chunk tbok 2 (σ' := ⟨19, [(5, .tr (.int .i64 s3)), (10, .tr (.int .i64 s3)), (9, .tr (.bool (decide (s3 < (aS.length : Int))))), (0, .tr (.sl aS.length (aS.map ePoint))), (1, .clo 93 [.ptr [.tr (.sl aF0.length (aF0.map eLabel))] 0]), (7, .tr (.int .i64 (aS.length : Int))), (8, .tr (.int .i64 s3))], []⟩) (by kernel_rfl) ?_
        refine SRun.nil ?_
        refine nx_n ?_
        refine swp_seq ?_
        refine swp_reg ?_
        refine SRun.chunk tbok 3 (σ' := ⟨19, [(13, .tr (.int .i64 s3)), (12, .tr (.sl aS.length (aS.map ePoint))), (11, .clo 93 [.ptr [.tr (.sl aF0.length (aF0.map eLabel))] 0]), (5, .tr (.int .i64 s3)), (10, .tr (.int .i64 s3)), (9, .tr (.bool (decide (s3 < (aS.length : Int))))), (0, .tr (.sl aS.length (aS.map ePoint))), (1, .clo 93 [.ptr [.tr (.sl aF0.length (aF0.map eLabel))] 0]), (7, .tr (.int .i64 (aS.length : Int))), (8, .tr (.int .i64 s3))], []⟩) (by kernel_rfl) ?_
        obtain ⟨x7, hx7, h⟩ := bind_some h
        refine SRun.lstep (t_index (L := aS) (f := ePoint) (ti := ti40) (tj := ti53) (e := 53) (k := .i64) tbok rfl (by kernel_rfl) (by kernel_rfl) (by kernel_rfl) (by kernel_rfl) (by kernel_rfl) (by kernel_rfl) (by kernel_rfl) hx7 (by kernel_rfl)) (by kernel_rfl) ?_
        refine SRun.chunk tbok 1 (σ' := ⟨19, [(15, .agg [.tr (.int .i64 x7.X), .tr (.int .i64 x7.Y)]), (14, .ptr ((ePoint x7).map .tr) 0), (13, .tr (.int .i64 s3)), (12, .tr (.sl aS.length (aS.map ePoint))), (11, .clo 93 [.ptr [.tr (.sl aF0.length (aF0.map eLabel))] 0]), (5, .tr (.int .i64 s3)), (10, .tr (.int .i64 s3)), (9, .tr (.bool (decide (s3 < (aS.length : Int))))), (0, .tr (.sl aS.length (aS.map ePoint))), (1, .clo 93 [.ptr [.tr (.sl aF0.length (aF0.map eLabel))] 0]), (7, .tr (.int .i64 (aS.length : Int))), (8, .tr (.int .i64 s3))], []⟩) (by kernel_rfl) ?_
        obtain ⟨x8, hx8, h⟩ := bind_some h
        refine SRun.lstep (lstep_call (f := 93) (caps := [.ptr [.tr (.sl aF0.length (aF0.map eLabel))] 0]) (xs := [.agg [.tr (.int .i64 x7.X), .tr (.int .i64 x7.Y)]]) (ys := [.agg [.tr (.int .i64 x7.X), .tr (.int .i64 x7.Y)], .ptr [.tr (.sl aF0.length (aF0.map eLabel))] 0]) (res := ⟨[.v (.tr (.bool x8))], [], false⟩) (x := .tr (.bool x8)) (y := none) rfl (by kernel_rfl) (by kernel_rfl) (by kernel_rfl) (by kernel_rfl) (by kernel_rfl) ents93 (impl_isAllowed_1_run x7 aF0 _ hx8) rfl (by intro hc; cases hc) (by kernel_rfl)) (by kernel_rfl) ?_
        refine SRun.nil ?_
        refine nx_n ?_
        refine swp_cond (b := x8) (by kernel_rfl) (fun hb => ?_) (fun hb => ?_)
        · replace h := cond_t hb h
          refine swp_seq ?_
          refine swp_reg ?_
          refine SRun.chunk tbok 2 (σ' := ⟨19, [(4, .tr (.int .i64 s3)), (17, .tr (.int .i64 s3)), (16, .tr (.bool x8)), (15, .agg [.tr (.int .i64 x7.X), .tr (.int .i64 x7.Y)]), (14, .ptr ((ePoint x7).map .tr) 0), (13, .tr (.int .i64 s3)), (12, .tr (.sl aS.length (aS.map ePoint))), (11, .clo 93 [.ptr [.tr (.sl aF0.length (aF0.map eLabel))] 0]), (5, .tr (.int .i64 s3)), (10, .tr (.int .i64 s3)), (9, .tr (.bool (decide (s3 < (aS.length : Int))))), (0, .tr (.sl aS.length (aS.map ePoint))), (1, .clo 93 [.ptr [.tr (.sl aF0.length (aF0.map eLabel))] 0]), (7, .tr (.int .i64 (aS.length : Int))), (8, .tr (.int .i64 s3))], []⟩) (by kernel_rfl) ?_
          refine SRun.nil ?_
          refine nx_n ?_
          refine swp_ret ?_
          replace h := Option.some.inj h
          subst h
          exact q_br (q_rr (q_rr (q_br (q_rr (q_fr (fin1 (by kernel_rfl) (finV rfl (by simp [SV.Flat, SV.Flat.FlatL, Tr.flat]) (holds_t (by kernel_rfl)))))))))
        · replace h := cond_f hb h
          refine swp_skip ?_
          replace h := Option.some.inj h
          subst h
          exact q_bn (q_l ((Le.sub' ([(0, .tr (.sl aS.length (aS.map ePoint))), (1, .clo 93 [.ptr [.tr (.sl aF0.length (aF0.map eLabel))] 0]), (7, .tr (.int .i64 (aS.length : Int))), (8, .tr (.int .i64 s3))] : List (Nat × SV)) ([] : List (Nat × SO)) (by kernel_rfl) (by kernel_rfl)).trans (Le.sub' ([(0, .tr (.sl aS.length (aS.map ePoint))), (1, .clo 93 [.ptr [.tr (.sl aF0.length (aF0.map eLabel))] 0]), (7, .tr (.int .i64 (aS.length : Int))), (8, .tr (.int .i64 s3))] : List (Nat × SV)) ([] : List (Nat × SO)) (by kernel_rfl) (by kernel_rfl))))
      · refine swp_reg ?_
        refine SRun.chunk tbok 2 (σ' := ⟨19, [(8, .tr (.int .i64 (w64 (s3 + 1)))), (18, .tr (.int .i64 (w64 (s3 + 1)))), (0, .tr (.sl aS.length (aS.map ePoint))), (1, .clo 93 [.ptr [.tr (.sl aF0.length (aF0.map eLabel))] 0]), (7, .tr (.int .i64 (aS.length : Int)))], []⟩) (by kernel_rfl) ?_
        refine SRun.nil ?_
        replace h := Option.some.inj h
        subst h
        exact q_l ((Le.sub' ([(0, .tr (.sl aS.length (aS.map ePoint))), (1, .clo 93 [.ptr [.tr (.sl aF0.length (aF0.map eLabel))] 0]), (7, .tr (.int .i64 (aS.length : Int))), (8, .tr (.int .i64 (w64 (s3 + 1))))] : List (Nat × SV)) ([] : List (Nat × SO)) (by kernel_rfl) (by kernel_rfl)).trans (Le.sub' ([(0, .tr (.sl aS.length (aS.map ePoint))), (1, .clo 93 [.ptr [.tr (.sl aF0.length (aF0.map eLabel))] 0]), (7, .tr (.int .i64 (aS.length : Int))), (8, .tr (.int .i64 (w64 (s3 + 1))))] : List (Nat × SV)) ([] : List (Nat × SO)) (by kernel_rfl) (by kernel_rfl)))
    · replace h := cond_f hb h
      refine swp_exit ?_
      replace h := Option.some.inj h
      subst h
      exact nx_e (q_re (q_bh (q_l ((Le.sub' ([] : List (Nat × SV)) ([] : List (Nat × SO)) (by kernel_rfl) (by kernel_rfl)).trans (Le.sub' ([] : List (Nat × SV)) ([] : List (Nat × SO)) (by kernel_rfl) (by kernel_rfl))))))
  · refine swp_seq ?_
    refine swp_reg ?_
    refine SRun.chunk tbok 1 (σ' := ⟨19, [(4, .tr (.int .i64 (-1)))], []⟩) (by kernel_rfl) ?_
    refine SRun.nil ?_
    refine nx_n ?_
    refine swp_ret ?_
    replace h := Option.some.inj h
    subst h
    exact q_fr (fin1 (by kernel_rfl) (finV rfl (by simp [SV.Flat, SV.Flat.FlatL, Tr.flat]) (holds_t (by kernel_rfl))))
theorem ents102 : Ents Try.prog 102 := ents_of Try.func102 (by kernel_rfl) rfl
noncomputable def slices_ContainsFunc_Point_impl_isAllowed_1 (aS : (List Point)) (aF0 : (List Label)) : Option (Bool) :=
  ((slices_IndexFunc_Point_impl_isAllowed_1 aS aF0).bind fun x1 => some (decide (x1 ≥ 0)))
set_option maxRecDepth 100000 in
set_option maxHeartbeats 4000000 in
theorem slices_ContainsFunc_Point_impl_isAllowed_1_run (aS : (List Point)) (aF0 : (List Label)) (r : Bool) (h : slices_ContainsFunc_Point_impl_isAllowed_1 aS aF0 = some r) : SCall Try.prog 92 [.v (.tr (.sl aS.length (aS.map ePoint))), .v (.clo 93 [.ptr [.tr (.sl aF0.length (aF0.map eLabel))] 0])] ⟨[.v (.tr (.bool r))], [], false⟩ := by
  refine scall_intro' (P := Try.prog) Try.func92 rfl [(.tmp 4)] rfl (ins := [.v (.tr (.sl aS.length (aS.map ePoint))), .v (.clo 93 [.ptr [.tr (.sl aF0.length (aF0.map eLabel))] 0])]) (by kernel_rfl) (by kernel_rfl) rfl (fun r => ⟨[.v (.tr (.bool r))], [], false⟩) (r := r) ?_
  unfold slices_ContainsFunc_Point_impl_isAllowed_1 at h
  refine swp_seq ?_
  refine swp_reg ?_
  refine SRun.chunk tbok 1 (σ' := ⟨9, [(4, .tr (.bool false)), (0, .tr (.sl aS.length (aS.map ePoint))), (1, .clo 93 [.ptr [.tr (.sl aF0.length (aF0.map eLabel))] 0])], []⟩) (by kernel_rfl) ?_
  refine SRun.nil ?_
  refine nx_n ?_
  refine swp_seq ?_
  refine swp_reg ?_
  refine SRun.chunk tbok 2 (σ' := ⟨9, [(6, .clo 93 [.ptr [.tr (.sl aF0.length (aF0.map eLabel))] 0]), (5, .tr (.sl aS.length (aS.map ePoint))), (4, .tr (.bool false)), (0, .tr (.sl aS.length (aS.map ePoint))), (1, .clo 93 [.ptr [.tr (.sl aF0.length (aF0.map eLabel))] 0])], []⟩) (by kernel_rfl) ?_
  obtain ⟨x1, hx1, h⟩ := bind_some h
  refine SRun.lstep (lstep_call (f := 102) (caps := []) (xs := [.tr (.sl aS.length (aS.map ePoint)), .clo 93 [.ptr [.tr (.sl aF0.length (aF0.map eLabel))] 0]]) (ys := [.tr (.sl aS.length (aS.map ePoint)), .clo 93 [.ptr [.tr (.sl aF0.length (aF0.map eLabel))] 0]]) (res := ⟨[.v (.tr (.int .i64 x1))], [], false⟩) (x := .tr (.int .i64 x1)) (y := none) rfl (by kernel_rfl) (by kernel_rfl) (by kernel_rfl) (by kernel_rfl) (by kernel_rfl) ents102 (slices_IndexFunc_Point_impl_isAllowed_1_run aS aF0 _ hx1) rfl (by intro hc; cases hc) (by kernel_rfl)) (by kernel_rfl) ?_
  refine SRun.chunk tbok 2 (σ' := ⟨9, [(4, .tr (.bool (decide (x1 ≥ 0)))), (8, .tr (.bool (decide (x1 ≥ 0)))), (7, .tr (.int .i64 x1)), (6, .clo 93 [.ptr [.tr (.sl aF0.length (aF0.map eLabel))] 0]), (5, .tr (.sl aS.length (aS.map ePoint))), (0, .tr (.sl aS.length (aS.map ePoint))), (1, .clo 93 [.ptr [.tr (.sl aF0.length (aF0.map eLabel))] 0])], []⟩) (by kernel_rfl) ?_
  refine SRun.nil ?_
  refine nx_n ?_
  refine swp_ret ?_
  replace h := Option.some.inj h
  subst h
  exact q_fr (fin1 (by kernel_rfl) (finV rfl (by simp [SV.Flat, SV.Flat.FlatL, Tr.flat]) (holds_t (by kernel_rfl))))
theorem ents92 : Ents Try.prog 92 := ents_of Try.func92 (by kernel_rfl) rfl
noncomputable def impl_isAllowed (aList : (List Label)) (aL : Label) (aPosition : Int) : Option (Bool) :=
  ((impl_Label_covered aL aPosition).bind fun x1 => ((slices_ContainsFunc_Point_impl_isAllowed_1 x1 aList).bind fun x2 => some (!x2)))
set_option maxRecDepth 100000 in
set_option maxHeartbeats 4000000 in
theorem impl_isAllowed_run (aList : (List Label)) (aL : Label) (aPosition : Int) (r : Bool) (h : impl_isAllowed aList aL aPosition = some r) : SCall Try.prog 65 [.v (.tr (.sl aList.length (aList.map eLabel))), .v (.agg [.tr (.int .i64 aL.At.X), .tr (.int .i64 aL.At.Y), .tr (.int .i64 aL.Length), .tr (.int .i64 aL.Priority)]), .v (.tr (.int .i64 aPosition))] ⟨[.v (.tr (.bool r))], [], false⟩ := by
  refine scall_intro' (P := Try.prog) Try.func65 rfl [(.tmp 6)] rfl (ins := [.v (.tr (.sl aList.length (aList.map eLabel))), .v (.agg [.tr (.int .i64 aL.At.X), .tr (.int .i64 aL.At.Y), .tr (.int .i64 aL.Length), .tr (.int .i64 aL.Priority)]), .v (.tr (.int .i64 aPosition))]) (by kernel_rfl) (by kernel_rfl) rfl (fun r => ⟨[.v (.tr (.bool r))], [], false⟩) (r := r) ?_
  unfold impl_isAllowed at h
  refine swp_seq ?_
  refine swp_reg ?_
  refine SRun.chunk tbok 3 (σ' := ⟨13, [(6, .tr (.bool false)), (4, .ref 4 0), (3, .ref 3 0), (0, .tr (.sl aList.length (aList.map eLabel))), (1, .agg [.tr (.int .i64 aL.At.X), .tr (.int .i64 aL.At.Y), .tr (.int .i64 aL.Length), .tr (.int .i64 aL.Priority)]), (2, .tr (.int .i64 aPosition))], [(4, .box [.tr (.int .i64 aL.At.X), .tr (.int .i64 aL.At.Y), .tr (.int .i64 aL.Length), .tr (.int .i64 aL.Priority)]), (3, .box [.tr (.sl aList.length (aList.map eLabel))])]⟩) (by kernel_rfl) ?_
  refine SRun.nil ?_
  refine nx_n ?_
  refine swp_seq ?_
  refine swp_reg ?_
  refine SRun.chunk tbok 2 (σ' := ⟨13, [(8, .tr (.int .i64 aPosition)), (7, .agg [.tr (.int .i64 aL.At.X), .tr (.int .i64 aL.At.Y), .tr (.int .i64 aL.Length), .tr (.int .i64 aL.Priority)]), (6, .tr (.bool false)), (4, .ref 4 0), (3, .ref 3 0), (0, .tr (.sl aList.length (aList.map eLabel))), (1, .agg [.tr (.int .i64 aL.At.X), .tr (.int .i64 aL.At.Y), .tr (.int .i64 aL.Length), .tr (.int .i64 aL.Priority)]), (2, .tr (.int .i64 aPosition))], [(4, .box [.tr (.int .i64 aL.At.X), .tr (.int .i64 aL.At.Y), .tr (.int .i64 aL.Length), .tr (.int .i64 aL.Priority)]), (3, .box [.tr (.sl aList.length (aList.map eLabel))])]⟩) (by kernel_rfl) ?_
  obtain ⟨x1, hx1, h⟩ := bind_some h
  refine SRun.lstep (lstep_call (f := 67) (caps := []) (xs := [.agg [.tr (.int .i64 aL.At.X), .tr (.int .i64 aL.At.Y), .tr (.int .i64 aL.Length), .tr (.int .i64 aL.Priority)], .tr (.int .i64 aPosition)]) (ys := [.agg [.tr (.int .i64 aL.At.X), .tr (.int .i64 aL.At.Y), .tr (.int .i64 aL.Length), .tr (.int .i64 aL.Priority)], .tr (.int .i64 aPosition)]) (res := ⟨[.own 53 2 x1.length (x1.map ePoint)], [], false⟩) (x := .own 9) (y := some (.arr 53 2 x1.length (x1.map ePoint))) rfl (by kernel_rfl) (by kernel_rfl) (by kernel_rfl) (by kernel_rfl) (by kernel_rfl) ents67 (impl_Label_covered_run aL aPosition _ hx1) rfl (by intro hc; cases hc) (by kernel_rfl)) (by kernel_rfl) ?_
  refine SRun.chunk tbok 1 (σ' := ⟨13, [(10, .clo 93 [.ref 3 0]), (9, .own 9), (8, .tr (.int .i64 aPosition)), (7, .agg [.tr (.int .i64 aL.At.X), .tr (.int .i64 aL.At.Y), .tr (.int .i64 aL.Length), .tr (.int .i64 aL.Priority)]), (6, .tr (.bool false)), (4, .ref 4 0), (3, .ref 3 0), (0, .tr (.sl aList.length (aList.map eLabel))), (1, .agg [.tr (.int .i64 aL.At.X), .tr (.int .i64 aL.At.Y), .tr (.int .i64 aL.Length), .tr (.int .i64 aL.Priority)]), (2, .tr (.int .i64 aPosition))], [(9, .arr 53 2 x1.length (x1.map ePoint)), (4, .box [.tr (.int .i64 aL.At.X), .tr (.int .i64 aL.At.Y), .tr (.int .i64 aL.Length), .tr (.int .i64 aL.Priority)]), (3, .box [.tr (.sl aList.length (aList.map eLabel))])]⟩) (by kernel_rfl) ?_
  obtain ⟨x2, hx2, h⟩ := bind_some h
  refine SRun.lstep (lstep_call (f := 92) (caps := []) (xs := [.own 9, .clo 93 [.ref 3 0]]) (ys := [.tr (.sl x1.length (x1.map ePoint)), .clo 93 [.ptr [.tr (.sl aList.length (aList.map eLabel))] 0]]) (res := ⟨[.v (.tr (.bool x2))], [], false⟩) (x := .tr (.bool x2)) (y := none) rfl (by kernel_rfl) (by kernel_rfl) (by kernel_rfl) (by kernel_rfl) (by kernel_rfl) ents92 (slices_ContainsFunc_Point_impl_isAllowed_1_run x1 aList _ hx2) rfl (by intro hc; cases hc) (by kernel_rfl)) (by kernel_rfl) ?_
  refine SRun.chunk tbok 2 (σ' := ⟨13, [(6, .tr (.bool (!x2))), (12, .tr (.bool (!x2))), (11, .tr (.bool x2)), (10, .clo 93 [.ref 3 0]), (9, .own 9), (8, .tr (.int .i64 aPosition)), (7, .agg [.tr (.int .i64 aL.At.X), .tr (.int .i64 aL.At.Y), .tr (.int .i64 aL.Length), .tr (.int .i64 aL.Priority)]), (4, .ref 4 0), (3, .ref 3 0), (0, .tr (.sl aList.length (aList.map eLabel))), (1, .agg [.tr (.int .i64 aL.At.X), .tr (.int .i64 aL.At.Y), .tr (.int .i64 aL.Length), .tr (.int .i64 aL.Priority)]), (2, .tr (.int .i64 aPosition))], [(9, .arr 53 2 x1.length (x1.map ePoint)), (4, .box [.tr (.int .i64 aL.At.X), .tr (.int .i64 aL.At.Y), .tr (.int .i64 aL.Length), .tr (.int .i64 aL.Priority)]), (3, .box [.tr (.sl aList.length (aList.map eLabel))])]⟩) (by kernel_rfl) ?_
  refine SRun.nil ?_
  refine nx_n ?_
  refine swp_ret ?_
  replace h := Option.some.inj h
  subst h
  exact q_fr (fin1 (by kernel_rfl) (finV rfl (by simp [SV.Flat, SV.Flat.FlatL, Tr.flat]) (holds_t (by kernel_rfl))))
theorem ents65 : Ents Try.prog 65 := ents_of Try.func65 (by kernel_rfl) rfl
noncomputable def impl_AllowedPositions (aList : (List Label)) (aIndex : Int) : Option ((List Int) × Int) :=
  ((impl_labelCode aList aIndex).bind fun x1 => (bif (x1 != 0) then some (([] : List Int), x1) else (((loop (fun (s4 : Int × (List Int)) => (bif (decide (s4.1 < 4)) then ((((at' aList aIndex).bind fun x8 => ((impl_isAllowed aList x8 s4.1).bind fun x9 => (bif x9 then ((app' s4.2 ([s4.1] : List Int)).bind fun x10 => some x10) else some s4.2)))).bind fun (j6 : (List Int)) => some (.inl ((w64 (s4.1 + 1)), j6))) else some (.inr s4.2))) (0, ([] : List Int)))).bind fun (j2 : (List Int)) => some (j2, 0))))
set_option maxRecDepth 100000 in
set_option maxHeartbeats 4000000 in
theorem impl_AllowedPositions_run (aList : (List Label)) (aIndex : Int) (r : (List Int) × Int) (h : impl_AllowedPositions aList aIndex = some r) : SCall Try.prog 23 [.v (.tr (.sl aList.length (aList.map eLabel))), .v (.tr (.int .i64 aIndex))] ⟨[.own 2 1 r.1.length (r.1.map (eI .i64)), .v (.tr (.int .i64 r.2))], [], false⟩ := by
  refine scall_intro' (P := Try.prog) Try.func23 rfl [(.tmp 4), (.tmp 5)] rfl (ins := [.v (.tr (.sl aList.length (aList.map eLabel))), .v (.tr (.int .i64 aIndex))]) (by kernel_rfl) (by kernel_rfl) rfl (fun r => ⟨[.own 2 1 r.1.length (r.1.map (eI .i64)), .v (.tr (.int .i64 r.2))], [], false⟩) (r := r) ?_
  unfold impl_AllowedPositions at h
  refine swp_seq ?_
  refine swp_reg ?_
  refine SRun.chunk tbok 2 (σ' := ⟨31, [(5, .tr (.int .i64 0)), (4, .own 4), (0, .tr (.sl aList.length (aList.map eLabel))), (1, .tr (.int .i64 aIndex))], [(4, .arr 2 1 ([] : List Int).length (([] : List Int).map (eI .i64)))]⟩) (by kernel_rfl) ?_
  refine SRun.nil ?_
  refine nx_n ?_
  refine swp_seq ?_
  refine swp_seq ?_
  refine swp_reg ?_
  refine SRun.chunk tbok 2 (σ' := ⟨31, [(10, .tr (.int .i64 aIndex)), (9, .tr (.sl aList.length (aList.map eLabel))), (5, .tr (.int .i64 0)), (4, .own 4), (0, .tr (.sl aList.length (aList.map eLabel))), (1, .tr (.int .i64 aIndex))], [(4, .arr 2 1 ([] : List Int).length (([] : List Int).map (eI .i64)))]⟩) (by kernel_rfl) ?_
  obtain ⟨x1, hx1, h⟩ := bind_some h
  refine SRun.lstep (lstep_call (f := 64) (caps := []) (xs := [.tr (.sl aList.length (aList.map eLabel)), .tr (.int .i64 aIndex)]) (ys := [.tr (.sl aList.length (aList.map eLabel)), .tr (.int .i64 aIndex)]) (res := ⟨[.v (.tr (.int .i64 x1))], [], false⟩) (x := .tr (.int .i64 x1)) (y := none) rfl (by kernel_rfl) (by kernel_rfl) (by kernel_rfl) (by kernel_rfl) (by kernel_rfl) ents64 (impl_labelCode_run aList aIndex _ hx1) rfl (by intro hc; cases hc) (by kernel_rfl)) (by kernel_rfl) ?_
  refine SRun.chunk tbok 1 (σ' := ⟨31, [(6, .tr (.int .i64 x1)), (11, .tr (.int .i64 x1)), (10, .tr (.int .i64 aIndex)), (9, .tr (.sl aList.length (aList.map eLabel))), (5, .tr (.int .i64 0)), (4, .own 4), (0, .tr (.sl aList.length (aList.map eLabel))), (1, .tr (.int .i64 aIndex))], [(4, .arr 2 1 ([] : List Int).length (([] : List Int).map (eI .i64)))]⟩) (by kernel_rfl) ?_
  refine SRun.nil ?_
  refine nx_n ?_
  refine swp_seq ?_
  refine swp_reg ?_
  refine SRun.chunk tbok 2 (σ' := ⟨31, [(13, .tr (.bool (x1 != 0))), (12, .tr (.int .i64 x1)), (6, .tr (.int .i64 x1)), (11, .tr (.int .i64 x1)), (10, .tr (.int .i64 aIndex)), (9, .tr (.sl aList.length (aList.map eLabel))), (5, .tr (.int .i64 0)), (4, .own 4), (0, .tr (.sl aList.length (aList.map eLabel))), (1, .tr (.int .i64 aIndex))], [(4, .arr 2 1 ([] : List Int).length (([] : List Int).map (eI .i64)))]⟩) (by kernel_rfl) ?_
  refine SRun.nil ?_
  refine nx_n ?_
  refine swp_cond (b := (x1 != 0)) (by kernel_rfl) (fun hb => ?_) (fun hb => ?_)
  · replace h := cond_t hb h
    refine swp_seq ?_
    refine swp_reg ?_
    refine SRun.chunk tbok 1 (σ' := ⟨31, [(14, .tr (.int .i64 x1)), (13, .tr (.bool (x1 != 0))), (12, .tr (.int .i64 x1)), (6, .tr (.int .i64 x1)), (11, .tr (.int .i64 x1)), (10, .tr (.int .i64 aIndex)), (9, .tr (.sl aList.length (aList.map eLabel))), (5, .tr (.int .i64 0)), (4, .own 4), (0, .tr (.sl aList.length (aList.map eLabel))), (1, .tr (.int .i64 aIndex))], [(4, .arr 2 1 ([] : List Int).length (([] : List Int).map (eI .i64)))]⟩) (by kernel_rfl) ?_
    refine SRun.le (Le.ren' (d := 4) (e := 30) (by kernel_rfl) (by kernel_rfl) (by kernel_rfl)) ?_
    refine SRun.chunk tbok 2 (σ' := ⟨31, [(5, .tr (.int .i64 x1)), (4, .own 4), (14, .tr (.int .i64 x1)), (13, .tr (.bool (x1 != 0))), (12, .tr (.int .i64 x1)), (6, .tr (.int .i64 x1)), (11, .tr (.int .i64 x1)), (10, .tr (.int .i64 aIndex)), (9, .tr (.sl aList.length (aList.map eLabel))), (0, .tr (.sl aList.length (aList.map eLabel))), (1, .tr (.int .i64 aIndex))], [(4, .arr 2 1 ([] : List Int).length (([] : List Int).map (eI .i64))), (30, .arr 2 1 ([] : List Int).length (([] : List Int).map (eI .i64)))]⟩) (by kernel_rfl) ?_
    refine SRun.nil ?_
    refine nx_n ?_
    refine swp_ret ?_
    replace h := Option.some.inj h
    subst h
    exact nx_r (q_fr (fin2 (by kernel_rfl) (finO (d := 4) (holds_t (by kernel_rfl)) (by kernel_rfl) (flat_map (eI_flat .i64) _) (by kernel_rfl)) (finV rfl (by simp [SV.Flat, SV.Flat.FlatL, Tr.flat]) (holds_t (by kernel_rfl)))))
  · replace h := cond_f hb h
    refine swp_skip ?_
    refine nx_n ?_
    refine swp_seq ?_
    refine swp_reg ?_
    refine SRun.chunk tbok 1 (σ' := ⟨31, [(7, .own 7), (13, .tr (.bool (x1 != 0))), (12, .tr (.int .i64 x1)), (6, .tr (.int .i64 x1)), (11, .tr (.int .i64 x1)), (10, .tr (.int .i64 aIndex)), (9, .tr (.sl aList.length (aList.map eLabel))), (5, .tr (.int .i64 0)), (4, .own 4), (0, .tr (.sl aList.length (aList.map eLabel))), (1, .tr (.int .i64 aIndex))], [(7, .arr 2 1 ([] : List Int).length (([] : List Int).map (eI .i64))), (4, .arr 2 1 ([] : List Int).length (([] : List Int).map (eI .i64)))]⟩) (by kernel_rfl) ?_
    refine SRun.nil ?_
    refine nx_n ?_
    refine swp_seq ?_
    refine swp_seq ?_
    refine swp_reg ?_
    refine SRun.chunk tbok 1 (σ' := ⟨31, [(15, .tr (.int .i64 0)), (7, .own 7), (13, .tr (.bool (x1 != 0))), (12, .tr (.int .i64 x1)), (6, .tr (.int .i64 x1)), (11, .tr (.int .i64 x1)), (10, .tr (.int .i64 aIndex)), (9, .tr (.sl aList.length (aList.map eLabel))), (5, .tr (.int .i64 0)), (4, .own 4), (0, .tr (.sl aList.length (aList.map eLabel))), (1, .tr (.int .i64 aIndex))], [(7, .arr 2 1 ([] : List Int).length (([] : List Int).map (eI .i64))), (4, .arr 2 1 ([] : List Int).length (([] : List Int).map (eI .i64)))]⟩) (by kernel_rfl) ?_
    refine SRun.nil ?_
    refine nx_n ?_
    refine swp_seqJ h (fun j2 => ⟨31, [(7, .own 7)], [(7, .arr 2 1 j2.length (j2.map (eI .i64)))]⟩) (fun v3 h => ?_) (fun j2 h => ?_)
    · refine swp_blk (a := v3) ?_
      refine swp_lpL (r := v3) (s := (0, ([] : List Int))) _ (fun s4 => ⟨31, [(0, .tr (.sl aList.length (aList.map eLabel))), (1, .tr (.int .i64 aIndex)), (7, .own 7), (15, .tr (.int .i64 s4.1))], [(7, .arr 2 1 s4.2.length (s4.2.map (eI .i64)))]⟩) _ ((Le.sub' ([(0, .tr (.sl aList.length (aList.map eLabel))), (1, .tr (.int .i64 aIndex)), (7, .own 7), (15, .tr (.int .i64 0))] : List (Nat × SV)) ([(7, .arr 2 1 ([] : List Int).length (([] : List Int).map (eI .i64)))] : List (Nat × SO)) (by kernel_rfl) (by kernel_rfl)).trans (Le.sub' ([(0, .tr (.sl aList.length (aList.map eLabel))), (1, .tr (.int .i64 aIndex)), (7, .own 7), (15, .tr (.int .i64 0))] : List (Nat × SV)) ([(7, .arr 2 1 ([] : List Int).length (([] : List Int).map (eI .i64)))] : List (Nat × SO)) (by kernel_rfl) (by kernel_rfl))) h (fun s4 v5 h => ?_)
      refine swp_seq ?_
      refine swp_reg ?_
      refine SRun.chunk tbok 1 (σ' := ⟨31, [(16, .tr (.bool (decide (s4.1 < 4)))), (0, .tr (.sl aList.length (aList.map eLabel))), (1, .tr (.int .i64 aIndex)), (7, .own 7), (15, .tr (.int .i64 s4.1))], [(7, .arr 2 1 s4.2.length (s4.2.map (eI .i64)))]⟩) (by kernel_rfl) ?_
      refine SRun.nil ?_
      refine nx_n ?_
      refine swp_seq ?_
      refine swp_cond (b := (decide (s4.1 < 4))) (by kernel_rfl) (fun hb => ?_) (fun hb => ?_)
      · replace h := cond_t hb h
        refine swp_skip ?_
        refine nx_n ?_
        refine swp_seq ?_
        refine swp_seqJ h (fun j6 => ⟨31, [(0, .tr (.sl aList.length (aList.map eLabel))), (1, .tr (.int .i64 aIndex)), (7, .own 7), (15, .tr (.int .i64 s4.1))], [(7, .arr 2 1 j6.length (j6.map (eI .i64)))]⟩) (fun v7 h => ?_) (fun j6 h => ?_)
        · refine swp_blk (a := v7) ?_
          refine swp_seq ?_
          refine swp_reg ?_
          refine SRun.chunk tbok 2 (σ' := ⟨31, [(8, .tr (.int .i64 s4.1)), (17, .tr (.int .i64 s4.1)), (16, .tr (.bool (decide (s4.1 < 4)))), (0, .tr (.sl aList.length (aList.map eLabel))), (1, .tr (.int .i64 aIndex)), (7, .own 7), (15, .tr (.int .i64 s4.1))], [(7, .arr 2 1 s4.2.length (s4.2.map (eI .i64)))]⟩) (by kernel_rfl) ?_
          refine SRun.nil ?_
          refine nx_n ?_
          refine swp_seq ?_
          refine swp_reg ?_
          refine SRun.chunk tbok 3 (σ' := ⟨31, [(20, .tr (.int .i64 aIndex)), (19, .tr (.sl aList.length (aList.map eLabel))), (18, .tr (.sl aList.length (aList.map eLabel))), (8, .tr (.int .i64 s4.1)), (17, .tr (.int .i64 s4.1)), (16, .tr (.bool (decide (s4.1 < 4)))), (0, .tr (.sl aList.length (aList.map eLabel))), (1, .tr (.int .i64 aIndex)), (7, .own 7), (15, .tr (.int .i64 s4.1))], [(7, .arr 2 1 s4.2.length (s4.2.map (eI .i64)))]⟩) (by kernel_rfl) ?_
          obtain ⟨x8, hx8, h⟩ := bind_some h
          refine SRun.lstep (t_index (L := aList) (f := eLabel) (ti := ti25) (tj := ti55) (e := 55) (k := .i64) tbok rfl (by kernel_rfl) (by kernel_rfl) (by kernel_rfl) (by kernel_rfl) (by kernel_rfl) (by kernel_rfl) (by kernel_rfl) hx8 (by kernel_rfl)) (by kernel_rfl) ?_
          refine SRun.chunk tbok 2 (σ' := ⟨31, [(23, .tr (.int .i64 s4.1)), (22, .agg [.tr (.int .i64 x8.At.X), .tr (.int .i64 x8.At.Y), .tr (.int .i64 x8.Length), .tr (.int .i64 x8.Priority)]), (21, .ptr ((eLabel x8).map .tr) 0), (20, .tr (.int .i64 aIndex)), (19, .tr (.sl aList.length (aList.map eLabel))), (18, .tr (.sl aList.length (aList.map eLabel))), (8, .tr (.int .i64 s4.1)), (17, .tr (.int .i64 s4.1)), (16, .tr (.bool (decide (s4.1 < 4)))), (0, .tr (.sl aList.length (aList.map eLabel))), (1, .tr (.int .i64 aIndex)), (7, .own 7), (15, .tr (.int .i64 s4.1))], [(7, .arr 2 1 s4.2.length (s4.2.map (eI .i64)))]⟩) (by kernel_rfl) ?_
          obtain ⟨x9, hx9, h⟩ := bind_some h
          refine SRun.lstep (lstep_call (f := 65) (caps := []) (xs := [.tr (.sl aList.length (aList.map eLabel)), .agg [.tr (.int .i64 x8.At.X), .tr (.int .i64 x8.At.Y), .tr (.int .i64 x8.Length), .tr (.int .i64 x8.Priority)], .tr (.int .i64 s4.1)]) (ys := [.tr (.sl aList.length (aList.map eLabel)), .agg [.tr (.int .i64 x8.At.X), .tr (.int .i64 x8.At.Y), .tr (.int .i64 x8.Length), .tr (.int .i64 x8.Priority)], .tr (.int .i64 s4.1)]) (res := ⟨[.v (.tr (.bool x9))], [], false⟩) (x := .tr (.bool x9)) (y := none) rfl (by kernel_rfl) (by kernel_rfl) (by kernel_rfl) (by kernel_rfl) (by kernel_rfl) ents65 (impl_isAllowed_run aList x8 s4.1 _ hx9) rfl (by intro hc; cases hc) (by kernel_rfl)) (by kernel_rfl) ?_
          refine SRun.nil ?_
          refine nx_n ?_
          refine swp_cond (b := x9) (by kernel_rfl) (fun hb => ?_) (fun hb => ?_)
          · replace h := cond_t hb h
            refine swp_reg ?_
            refine SRun.chunk tbok 3 (σ' := ⟨31, [(27, .own 27), (26, .tr (.int .i64 s4.1)), (25, .own 7), (24, .tr (.bool x9)), (23, .tr (.int .i64 s4.1)), (22, .agg [.tr (.int .i64 x8.At.X), .tr (.int .i64 x8.At.Y), .tr (.int .i64 x8.Length), .tr (.int .i64 x8.Priority)]), (21, .ptr ((eLabel x8).map .tr) 0), (20, .tr (.int .i64 aIndex)), (19, .tr (.sl aList.length (aList.map eLabel))), (18, .tr (.sl aList.length (aList.map eLabel))), (8, .tr (.int .i64 s4.1)), (17, .tr (.int .i64 s4.1)), (16, .tr (.bool (decide (s4.1 < 4)))), (0, .tr (.sl aList.length (aList.map eLabel))), (1, .tr (.int .i64 aIndex)), (7, .own 7), (15, .tr (.int .i64 s4.1))], [(27, .arr 2 1 ([s4.1] : List Int).length (([s4.1] : List Int).map (eI .i64))), (7, .arr 2 1 s4.2.length (s4.2.map (eI .i64)))]⟩) (by kernel_rfl) ?_
            obtain ⟨x10, hx10, h⟩ := bind_some h
            refine SRun.estep (t_append (f := (eI .i64)) (t := 29) (ti := ti29) (tj := ti2) (zs := [.int .i64 0]) (e := 2) (m := 1) (d := 7) (xv := .own 27) hx10 tbok rfl rfl rfl rfl (by kernel_rfl) (by kernel_rfl) (by kernel_rfl) (by kernel_rfl) (by kernel_rfl) (by kernel_rfl) (by kernel_rfl) (by kernel_rfl) (by kernel_rfl) (by kernel_rfl) (by kernel_rfl) (by kernel_rfl) (by kernel_rfl) (by kernel_rfl) (src_o (e := 2) (by kernel_rfl)) (by kernel_rfl)) ?_
            refine SRun.chunk tbok 1 (σ' := ⟨31, [(7, .own 28), (28, .own 28), (27, .own 27), (26, .tr (.int .i64 s4.1)), (24, .tr (.bool x9)), (23, .tr (.int .i64 s4.1)), (22, .agg [.tr (.int .i64 x8.At.X), .tr (.int .i64 x8.At.Y), .tr (.int .i64 x8.Length), .tr (.int .i64 x8.Priority)]), (21, .ptr ((eLabel x8).map .tr) 0), (20, .tr (.int .i64 aIndex)), (19, .tr (.sl aList.length (aList.map eLabel))), (18, .tr (.sl aList.length (aList.map eLabel))), (8, .tr (.int .i64 s4.1)), (17, .tr (.int .i64 s4.1)), (16, .tr (.bool (decide (s4.1 < 4)))), (0, .tr (.sl aList.length (aList.map eLabel))), (1, .tr (.int .i64 aIndex)), (15, .tr (.int .i64 s4.1))], [(28, .arr 2 1 x10.length (x10.map (eI .i64))), (27, .arr 2 1 ([s4.1] : List Int).length (([s4.1] : List Int).map (eI .i64)))]⟩) (by kernel_rfl) ?_
            refine SRun.nil ?_
            replace h := Option.some.inj h
            subst h
            exact q_bn (q_j ((Le.sub' ([(0, .tr (.sl aList.length (aList.map eLabel))), (1, .tr (.int .i64 aIndex)), (7, .own 28), (15, .tr (.int .i64 s4.1))] : List (Nat × SV)) ([(28, .arr 2 1 x10.length (x10.map (eI .i64)))] : List (Nat × SO)) (by kernel_rfl) (by kernel_rfl)).trans ((Le.ren' (d := 28) (e := 7) (by kernel_rfl) (by kernel_rfl) (by kernel_rfl)).trans (Le.sub' ([(0, .tr (.sl aList.length (aList.map eLabel))), (1, .tr (.int .i64 aIndex)), (7, .own 7), (15, .tr (.int .i64 s4.1))] : List (Nat × SV)) ([(7, .arr 2 1 x10.length (x10.map (eI .i64)))] : List (Nat × SO)) (by kernel_rfl) (by kernel_rfl)))))
          · replace h := cond_f hb h
            refine swp_skip ?_
            replace h := Option.some.inj h
            subst h
            exact q_bn (q_j ((Le.sub' ([(0, .tr (.sl aList.length (aList.map eLabel))), (1, .tr (.int .i64 aIndex)), (7, .own 7), (15, .tr (.int .i64 s4.1))] : List (Nat × SV)) ([(7, .arr 2 1 s4.2.length (s4.2.map (eI .i64)))] : List (Nat × SO)) (by kernel_rfl) (by kernel_rfl)).trans (Le.sub' ([(0, .tr (.sl aList.length (aList.map eLabel))), (1, .tr (.int .i64 aIndex)), (7, .own 7), (15, .tr (.int .i64 s4.1))] : List (Nat × SV)) ([(7, .arr 2 1 s4.2.length (s4.2.map (eI .i64)))] : List (Nat × SO)) (by kernel_rfl) (by kernel_rfl))))
        · refine swp_reg ?_
          refine SRun.chunk tbok 2 (σ' := ⟨31, [(15, .tr (.int .i64 (w64 (s4.1 + 1)))), (29, .tr (.int .i64 (w64 (s4.1 + 1)))), (0, .tr (.sl aList.length (aList.map eLabel))), (1, .tr (.int .i64 aIndex)), (7, .own 7)], [(7, .arr 2 1 j6.length (j6.map (eI .i64)))]⟩) (by kernel_rfl) ?_
          refine SRun.nil ?_
          replace h := Option.some.inj h
          subst h
          exact q_l ((Le.sub' ([(0, .tr (.sl aList.length (aList.map eLabel))), (1, .tr (.int .i64 aIndex)), (7, .own 7), (15, .tr (.int .i64 (w64 (s4.1 + 1))))] : List (Nat × SV)) ([(7, .arr 2 1 j6.length (j6.map (eI .i64)))] : List (Nat × SO)) (by kernel_rfl) (by kernel_rfl)).trans (Le.sub' ([(0, .tr (.sl aList.length (aList.map eLabel))), (1, .tr (.int .i64 aIndex)), (7, .own 7), (15, .tr (.int .i64 (w64 (s4.1 + 1))))] : List (Nat × SV)) ([(7, .arr 2 1 j6.length (j6.map (eI .i64)))] : List (Nat × SO)) (by kernel_rfl) (by kernel_rfl)))
      · replace h := cond_f hb h
        refine swp_exit ?_
        replace h := Option.some.inj h
        subst h
        exact nx_e (q_re (q_bh (q_j ((Le.sub' ([(7, .own 7)] : List (Nat × SV)) ([(7, .arr 2 1 s4.2.length (s4.2.map (eI .i64)))] : List (Nat × SO)) (by kernel_rfl) (by kernel_rfl)).trans (Le.sub' ([(7, .own 7)] : List (Nat × SV)) ([(7, .arr 2 1 s4.2.length (s4.2.map (eI .i64)))] : List (Nat × SO)) (by kernel_rfl) (by kernel_rfl))))))
    · refine swp_seq ?_
      refine swp_reg ?_
      refine SRun.chunk tbok 3 (σ' := ⟨31, [(5, .tr (.int .i64 0)), (4, .own 7), (30, .own 7), (7, .own 7)], [(7, .arr 2 1 j2.length (j2.map (eI .i64)))]⟩) (by kernel_rfl) ?_
      refine SRun.nil ?_
      refine nx_n ?_
      refine swp_ret ?_
      replace h := Option.some.inj h
      subst h
      exact q_fr (fin2 (by kernel_rfl) (finO (d := 7) (holds_t (by kernel_rfl)) (by kernel_rfl) (flat_map (eI_flat .i64) _) (by kernel_rfl)) (finV rfl (by simp [SV.Flat, SV.Flat.FlatL, Tr.flat]) (holds_t (by kernel_rfl))))
theorem ents23 : Ents Try.prog 23 := ents_of Try.func23 (by kernel_rfl) rfl
noncomputable def spec_l33Allowed (aList : (List Label)) (aL : Label) (aPosition : Int) : Option (Bool) :=
  (((loop (fun (s3 : Int) => (bif (decide (s3 < (aList.length : Int))) then ((((at' aList s3).bind fun x7 => ((spec_l33Covers aL aPosition x7.At).bind fun x8 => (bif x8 then some (.inr (.inr (.inr false))) else some (.inl ()))))).bind (Sum.elim (fun (j5 : Unit) => some (.inl (w64 (s3 + 1)))) some)) else some (.inr (.inl ())))) 0)).bind (Sum.elim (fun (j1 : Unit) => some true) some))
set_option maxRecDepth 100000 in
set_option maxHeartbeats 4000000 in
theorem spec_l33Allowed_run (aList : (List Label)) (aL : Label) (aPosition : Int) (r : Bool) (h : spec_l33Allowed aList aL aPosition = some r) : SCall Try.prog 63 [.v (.tr (.sl aList.length (aList.map eLabel))), .v (.agg [.tr (.int .i64 aL.At.X), .tr (.int .i64 aL.At.Y), .tr (.int .i64 aL.Length), .tr (.int .i64 aL.Priority)]), .v (.tr (.int .i64 aPosition))] ⟨[.v (.tr (.bool r))], [], false⟩ := by
  refine scall_intro' (P := Try.prog) Try.func63 rfl [(.tmp 6)] rfl (ins := [.v (.tr (.sl aList.length (aList.map eLabel))), .v (.agg [.tr (.int .i64 aL.At.X), .tr (.int .i64 aL.At.Y), .tr (.int .i64 aL.Length), .tr (.int .i64 aL.Priority)]), .v (.tr (.int .i64 aPosition))]) (by kernel_rfl) (by kernel_rfl) rfl (fun r => ⟨[.v (.tr (.bool r))], [], false⟩) (r := r) ?_
  unfold spec_l33Allowed at h
  refine swp_seq ?_
  refine swp_reg ?_
  refine SRun.chunk tbok 2 (σ' := ⟨22, [(6, .tr (.bool false)), (4, .ref 4 0), (0, .tr (.sl aList.length (aList.map eLabel))), (1, .agg [.tr (.int .i64 aL.At.X), .tr (.int .i64 aL.At.Y), .tr (.int .i64 aL.Length), .tr (.int .i64 aL.Priority)]), (2, .tr (.int .i64 aPosition))], [(4, .box [.tr (.int .i64 aL.At.X), .tr (.int .i64 aL.At.Y), .tr (.int .i64 aL.Length), .tr (.int .i64 aL.Priority)])]⟩) (by kernel_rfl) ?_
  refine SRun.nil ?_
  refine nx_n ?_
  refine swp_seq ?_
  refine swp_seq ?_
  refine swp_reg ?_
  refine SRun.chunk tbok 1 (σ' := ⟨22, [(7, .tr (.int .i64 0)), (6, .tr (.bool false)), (4, .ref 4 0), (0, .tr (.sl aList.length (aList.map eLabel))), (1, .agg [.tr (.int .i64 aL.At.X), .tr (.int .i64 aL.At.Y), .tr (.int .i64 aL.Length), .tr (.int .i64 aL.Priority)]), (2, .tr (.int .i64 aPosition))], [(4, .box [.tr (.int .i64 aL.At.X), .tr (.int .i64 aL.At.Y), .tr (.int .i64 aL.Length), .tr (.int .i64 aL.Priority)])]⟩) (by kernel_rfl) ?_
  refine SRun.nil ?_
  refine nx_n ?_
  refine swp_seqE (r := r) h (fun j1 => ⟨22, [], []⟩) (fun v2 h => ?_) (fun j1 h => ?_)
  · refine swp_blk (a := v2) ?_
    refine swp_lpL (r := v2) (s := 0) _ (fun s3 => ⟨22, [(0, .tr (.sl aList.length (aList.map eLabel))), (2, .tr (.int .i64 aPosition)), (4, .ref 4 0), (7, .tr (.int .i64 s3))], [(4, .box [.tr (.int .i64 aL.At.X), .tr (.int .i64 aL.At.Y), .tr (.int .i64 aL.Length), .tr (.int .i64 aL.Priority)])]⟩) _ ((Le.sub' ([(0, .tr (.sl aList.length (aList.map eLabel))), (2, .tr (.int .i64 aPosition)), (4, .ref 4 0), (7, .tr (.int .i64 0))] : List (Nat × SV)) ([(4, .box [.tr (.int .i64 aL.At.X), .tr (.int .i64 aL.At.Y), .tr (.int .i64 aL.Length), .tr (.int .i64 aL.Priority)])] : List (Nat × SO)) (by kernel_rfl) (by kernel_rfl)).trans (Le.sub' ([(0, .tr (.sl aList.length (aList.map eLabel))), (2, .tr (.int .i64 aPosition)), (4, .ref 4 0), (7, .tr (.int .i64 0))] : List (Nat × SV)) ([(4, .box [.tr (.int .i64 aL.At.X), .tr (.int .i64 aL.At.Y), .tr (.int .i64 aL.Length), .tr (.int .i64 aL.Priority)])] : List (Nat × SO)) (by kernel_rfl) (by kernel_rfl))) h (fun s3 v4 h => ?_)
    refine swp_seq ?_
    refine swp_seq ?_
    refine swp_reg ?_
    refine SRun.chunk tbok 4 (σ' := ⟨22, [(11, .tr (.bool (decide (s3 < (aList.length : Int))))), (10, .tr (.int .i64 (aList.length : Int))), (9, .tr (.sl aList.length (aList.map eLabel))), (8, .tr (.int .i64 s3)), (0, .tr (.sl aList.length (aList.map eLabel))), (2, .tr (.int .i64 aPosition)), (4, .ref 4 0), (7, .tr (.int .i64 s3))], [(4, .box [.tr (.int .i64 aL.At.X), .tr (.int .i64 aL.At.Y), .tr (.int .i64 aL.Length), .tr (.int .i64 aL.Priority)])]⟩) (by kernel_rfl) ?_
    refine SRun.nil ?_
    refine nx_n ?_
    refine swp_cond (b := (decide (s3 < (aList.length : Int)))) (by kernel_rfl) (fun hb => ?_) (fun hb => ?_)
    · replace h := cond_t hb h
      refine swp_skip ?_
      refine nx_n ?_
      refine swp_seq ?_
      refine swp_seqE (r := v4) h (fun j5 => ⟨22, [(0, .tr (.sl aList.length (aList.map eLabel))), (2, .tr (.int .i64 aPosition)), (4, .ref 4 0), (7, .tr (.int .i64 s3))], [(4, .box [.tr (.int .i64 aL.At.X), .tr (.int .i64 aL.At.Y), .tr (.int .i64 aL.Length), .tr (.int .i64 aL.Priority)])]⟩) (fun v6 h => ?_) (fun j5 h => ?_)
      · refine swp_blk (a := v6) ?_
        refine swp_seq ?_
        refine swp_dr mixed ?_
        refine DGo.chunk' tbok 4 (σ' := ⟨22, [(17, .tr (.int .i64 s3)), (16, .tr (.sl aList.length (aList.map eLabel))), (15, .tr (.int .i64 aPosition)), (14, .agg [.tr (.int .i64 aL.At.X), .tr (.int .i64 aL.At.Y), .tr (.int .i64 aL.Length), .tr (.int .i64 aL.Priority)]), (11, .tr (.bool (decide (s3 < (aList.length : Int))))), (10, .tr (.int .i64 (aList.length : Int))), (9, .tr (.sl aList.length (aList.map eLabel))), (8, .tr (.int .i64 s3)), (0, .tr (.sl aList.length (aList.map eLabel))), (2, .tr (.int .i64 aPosition)), (4, .ref 4 0), (7, .tr (.int .i64 s3))], [(4, .box [.tr (.int .i64 aL.At.X), .tr (.int .i64 aL.At.Y), .tr (.int .i64 aL.Length), .tr (.int .i64 aL.Priority)])]⟩) (by kernel_rfl) ?_
        obtain ⟨x7, hx7, h⟩ := bind_some h
        refine DGo.step (t_index (L := aList) (f := eLabel) (ti := ti25) (tj := ti55) (e := 55) (k := .i64) tbok rfl (by kernel_rfl) (by kernel_rfl) (by kernel_rfl) (by kernel_rfl) (by kernel_rfl) (by kernel_rfl) (by kernel_rfl) hx7 (by kernel_rfl)) ?_
        refine DGo.chunk' tbok 2 (σ' := ⟨22, [(20, .agg [.tr (.int .i64 x7.At.X), .tr (.int .i64 x7.At.Y)]), (19, .ptr ((eLabel x7).map .tr) 0), (18, .ptr ((eLabel x7).map .tr) 0), (17, .tr (.int .i64 s3)), (16, .tr (.sl aList.length (aList.map eLabel))), (15, .tr (.int .i64 aPosition)), (14, .agg [.tr (.int .i64 aL.At.X), .tr (.int .i64 aL.At.Y), .tr (.int .i64 aL.Length), .tr (.int .i64 aL.Priority)]), (11, .tr (.bool (decide (s3 < (aList.length : Int))))), (10, .tr (.int .i64 (aList.length : Int))), (9, .tr (.sl aList.length (aList.map eLabel))), (8, .tr (.int .i64 s3)), (0, .tr (.sl aList.length (aList.map eLabel))), (2, .tr (.int .i64 aPosition)), (4, .ref 4 0), (7, .tr (.int .i64 s3))], [(4, .box [.tr (.int .i64 aL.At.X), .tr (.int .i64 aL.At.Y), .tr (.int .i64 aL.Length), .tr (.int .i64 aL.Priority)])]⟩) (by kernel_rfl) ?_
        obtain ⟨x8, hx8, h⟩ := bind_some h
        refine DGo.step (lstep_call (f := 90) (caps := []) (xs := [.agg [.tr (.int .i64 aL.At.X), .tr (.int .i64 aL.At.Y), .tr (.int .i64 aL.Length), .tr (.int .i64 aL.Priority)], .tr (.int .i64 aPosition), .agg [.tr (.int .i64 x7.At.X), .tr (.int .i64 x7.At.Y)]]) (ys := [.agg [.tr (.int .i64 aL.At.X), .tr (.int .i64 aL.At.Y), .tr (.int .i64 aL.Length), .tr (.int .i64 aL.Priority)], .tr (.int .i64 aPosition), .agg [.tr (.int .i64 x7.At.X), .tr (.int .i64 x7.At.Y)]]) (res := ⟨[.v (.tr (.bool x8))], [], false⟩) (x := .tr (.bool x8)) (y := none) rfl (by kernel_rfl) (by kernel_rfl) (by kernel_rfl) (by kernel_rfl) (by kernel_rfl) ents90 (spec_l33Covers_run aL aPosition x7.At _ hx8) rfl (by intro hc; cases hc) (by kernel_rfl)) ?_
        refine DGo.nil (by kernel_rfl) ?_
        refine nx_n ?_
        refine swp_cond (b := x8) (by kernel_rfl) (fun hb => ?_) (fun hb => ?_)
        · replace h := cond_t hb h
          refine swp_seq ?_
          refine swp_reg ?_
          refine SRun.chunk tbok 1 (σ' := ⟨22, [(6, .tr (.bool false)), (21, .tr (.bool x8)), (20, .agg [.tr (.int .i64 x7.At.X), .tr (.int .i64 x7.At.Y)]), (19, .ptr ((eLabel x7).map .tr) 0), (18, .ptr ((eLabel x7).map .tr) 0), (17, .tr (.int .i64 s3)), (16, .tr (.sl aList.length (aList.map eLabel))), (15, .tr (.int .i64 aPosition)), (14, .agg [.tr (.int .i64 aL.At.X), .tr (.int .i64 aL.At.Y), .tr (.int .i64 aL.Length), .tr (.int .i64 aL.Priority)]), (11, .tr (.bool (decide (s3 < (aList.length : Int))))), (10, .tr (.int .i64 (aList.length : Int))), (9, .tr (.sl aList.length (aList.map eLabel))), (8, .tr (.int .i64 s3)), (0, .tr (.sl aList.length (aList.map eLabel))), (2, .tr (.int .i64 aPosition)), (4, .ref 4 0), (7, .tr (.int .i64 s3))], [(4, .box [.tr (.int .i64 aL.At.X), .tr (.int .i64 aL.At.Y), .tr (.int .i64 aL.Length), .tr (.int .i64 aL.Priority)])]⟩) (by kernel_rfl) ?_
          refine SRun.nil ?_
          refine nx_n ?_
          refine swp_ret ?_
          replace h := Option.some.inj h
          subst h
          exact q_br (q_rr (q_rr (q_br (q_rr (q_fr (fin1 (by kernel_rfl) (finV rfl (by simp [SV.Flat, SV.Flat.FlatL, Tr.flat]) (holds_t (by kernel_rfl)))))))))
        · replace h := cond_f hb h
          refine swp_skip ?_
          replace h := Option.some.inj h
          subst h
          exact q_bn (q_l ((Le.sub' ([(0, .tr (.sl aList.length (aList.map eLabel))), (2, .tr (.int .i64 aPosition)), (4, .ref 4 0), (7, .tr (.int .i64 s3))] : List (Nat × SV)) ([(4, .box [.tr (.int .i64 aL.At.X), .tr (.int .i64 aL.At.Y), .tr (.int .i64 aL.Length), .tr (.int .i64 aL.Priority)])] : List (Nat × SO)) (by kernel_rfl) (by kernel_rfl)).trans (Le.sub' ([(0, .tr (.sl aList.length (aList.map eLabel))), (2, .tr (.int .i64 aPosition)), (4, .ref 4 0), (7, .tr (.int .i64 s3))] : List (Nat × SV)) ([(4, .box [.tr (.int .i64 aL.At.X), .tr (.int .i64 aL.At.Y), .tr (.int .i64 aL.Length), .tr (.int .i64 aL.Priority)])] : List (Nat × SO)) (by kernel_rfl) (by kernel_rfl))))
      · refine swp_reg ?_
        refine SRun.chunk tbok 3 (σ' := ⟨22, [(7, .tr (.int .i64 (w64 (s3 + 1)))), (13, .tr (.int .i64 (w64 (s3 + 1)))), (12, .tr (.int .i64 s3)), (0, .tr (.sl aList.length (aList.map eLabel))), (2, .tr (.int .i64 aPosition)), (4, .ref 4 0)], [(4, .box [.tr (.int .i64 aL.At.X), .tr (.int .i64 aL.At.Y), .tr (.int .i64 aL.Length), .tr (.int .i64 aL.Priority)])]⟩) (by kernel_rfl) ?_
        refine SRun.nil ?_
        replace h := Option.some.inj h
        subst h
        exact q_l ((Le.sub' ([(0, .tr (.sl aList.length (aList.map eLabel))), (2, .tr (.int .i64 aPosition)), (4, .ref 4 0), (7, .tr (.int .i64 (w64 (s3 + 1))))] : List (Nat × SV)) ([(4, .box [.tr (.int .i64 aL.At.X), .tr (.int .i64 aL.At.Y), .tr (.int .i64 aL.Length), .tr (.int .i64 aL.Priority)])] : List (Nat × SO)) (by kernel_rfl) (by kernel_rfl)).trans (Le.sub' ([(0, .tr (.sl aList.length (aList.map eLabel))), (2, .tr (.int .i64 aPosition)), (4, .ref 4 0), (7, .tr (.int .i64 (w64 (s3 + 1))))] : List (Nat × SV)) ([(4, .box [.tr (.int .i64 aL.At.X), .tr (.int .i64 aL.At.Y), .tr (.int .i64 aL.Length), .tr (.int .i64 aL.Priority)])] : List (Nat × SO)) (by kernel_rfl) (by kernel_rfl)))
    · replace h := cond_f hb h
      refine swp_exit ?_
      replace h := Option.some.inj h
      subst h
      exact nx_e (q_re (q_bh (q_l ((Le.sub' ([] : List (Nat × SV)) ([] : List (Nat × SO)) (by kernel_rfl) (by kernel_rfl)).trans (Le.sub' ([] : List (Nat × SV)) ([] : List (Nat × SO)) (by kernel_rfl) (by kernel_rfl))))))
  · refine swp_seq ?_
    refine swp_reg ?_
    refine SRun.chunk tbok 1 (σ' := ⟨22, [(6, .tr (.bool true))], []⟩) (by kernel_rfl) ?_
    refine SRun.nil ?_
    refine nx_n ?_
    refine swp_ret ?_
    replace h := Option.some.inj h
    subst h
    exact q_fr (fin1 (by kernel_rfl) (finV rfl (by simp [SV.Flat, SV.Flat.FlatL, Tr.flat]) (holds_t (by kernel_rfl))))
theorem ents63 : Ents Try.prog 63 := ents_of Try.func63 (by kernel_rfl) rfl
noncomputable def spec_AllowedPositions (aList : (List Label)) (aIndex : Int) : Option ((List Int) × Int) :=
  ((spec_l33Code aList aIndex).bind fun x1 => (bif (x1 != 0) then some (([] : List Int), x1) else (((loop (fun (s4 : Int × (List Int)) => (bif (decide (s4.1 < 4)) then ((((at' aList aIndex).bind fun x8 => ((spec_l33Allowed aList x8 s4.1).bind fun x9 => (bif x9 then ((app' s4.2 ([s4.1] : List Int)).bind fun x10 => some x10) else some s4.2)))).bind fun (j6 : (List Int)) => some (.inl ((w64 (s4.1 + 1)), j6))) else some (.inr s4.2))) (0, ([] : List Int)))).bind fun (j2 : (List Int)) => some (j2, 0))))
set_option maxRecDepth 100000 in
set_option maxHeartbeats 4000000 in
theorem spec_AllowedPositions_run (aList : (List Label)) (aIndex : Int) (r : (List Int) × Int) (h : spec_AllowedPositions aList aIndex = some r) : SCall Try.prog 22 [.v (.tr (.sl aList.length (aList.map eLabel))), .v (.tr (.int .i64 aIndex))] ⟨[.own 2 1 r.1.length (r.1.map (eI .i64)), .v (.tr (.int .i64 r.2))], [], false⟩ := by
  refine scall_intro' (P := Try.prog) Try.func22 rfl [(.tmp 4), (.tmp 5)] rfl (ins := [.v (.tr (.sl aList.length (aList.map eLabel))), .v (.tr (.int .i64 aIndex))]) (by kernel_rfl) (by kernel_rfl) rfl (fun r => ⟨[.own 2 1 r.1.length (r.1.map (eI .i64)), .v (.tr (.int .i64 r.2))], [], false⟩) (r := r) ?_
  unfold spec_AllowedPositions at h
  refine swp_seq ?_
  refine swp_reg ?_
  refine SRun.chunk tbok 2 (σ' := ⟨32, [(5, .tr (.int .i64 0)), (4, .own 4), (0, .tr (.sl aList.length (aList.map eLabel))), (1, .tr (.int .i64 aIndex))], [(4, .arr 2 1 ([] : List Int).length (([] : List Int).map (eI .i64)))]⟩) (by kernel_rfl) ?_
  refine SRun.nil ?_
  refine nx_n ?_
  refine swp_seq ?_
  refine swp_reg ?_
  refine SRun.chunk tbok 2 (σ' := ⟨32, [(10, .tr (.int .i64 aIndex)), (9, .tr (.sl aList.length (aList.map eLabel))), (5, .tr (.int .i64 0)), (4, .own 4), (0, .tr (.sl aList.length (aList.map eLabel))), (1, .tr (.int .i64 aIndex))], [(4, .arr 2 1 ([] : List Int).length (([] : List Int).map (eI .i64)))]⟩) (by kernel_rfl) ?_
  obtain ⟨x1, hx1, h⟩ := bind_some h
  refine SRun.lstep (lstep_call (f := 62) (caps := []) (xs := [.tr (.sl aList.length (aList.map eLabel)), .tr (.int .i64 aIndex)]) (ys := [.tr (.sl aList.length (aList.map eLabel)), .tr (.int .i64 aIndex)]) (res := ⟨[.v (.tr (.int .i64 x1))], [], false⟩) (x := .tr (.int .i64 x1)) (y := none) rfl (by kernel_rfl) (by kernel_rfl) (by kernel_rfl) (by kernel_rfl) (by kernel_rfl) ents62 (spec_l33Code_run aList aIndex _ hx1) rfl (by intro hc; cases hc) (by kernel_rfl)) (by kernel_rfl) ?_
  refine SRun.chunk tbok 1 (σ' := ⟨32, [(6, .tr (.int .i64 x1)), (11, .tr (.int .i64 x1)), (10, .tr (.int .i64 aIndex)), (9, .tr (.sl aList.length (aList.map eLabel))), (5, .tr (.int .i64 0)), (4, .own 4), (0, .tr (.sl aList.length (aList.map eLabel))), (1, .tr (.int .i64 aIndex))], [(4, .arr 2 1 ([] : List Int).length (([] : List Int).map (eI .i64)))]⟩) (by kernel_rfl) ?_
  refine SRun.nil ?_
  refine nx_n ?_
  refine swp_seq ?_
  refine swp_seq ?_
  refine swp_reg ?_
  refine SRun.chunk tbok 2 (σ' := ⟨32, [(13, .tr (.bool (x1 != 0))), (12, .tr (.int .i64 x1)), (6, .tr (.int .i64 x1)), (11, .tr (.int .i64 x1)), (10, .tr (.int .i64 aIndex)), (9, .tr (.sl aList.length (aList.map eLabel))), (5, .tr (.int .i64 0)), (4, .own 4), (0, .tr (.sl aList.length (aList.map eLabel))), (1, .tr (.int .i64 aIndex))], [(4, .arr 2 1 ([] : List Int).length (([] : List Int).map (eI .i64)))]⟩) (by kernel_rfl) ?_
  refine SRun.nil ?_
  refine nx_n ?_
  refine swp_cond (b := (x1 != 0)) (by kernel_rfl) (fun hb => ?_) (fun hb => ?_)
  · replace h := cond_t hb h
    refine swp_seq ?_
    refine swp_reg ?_
    refine SRun.chunk tbok 1 (σ' := ⟨32, [(14, .tr (.int .i64 x1)), (13, .tr (.bool (x1 != 0))), (12, .tr (.int .i64 x1)), (6, .tr (.int .i64 x1)), (11, .tr (.int .i64 x1)), (10, .tr (.int .i64 aIndex)), (9, .tr (.sl aList.length (aList.map eLabel))), (5, .tr (.int .i64 0)), (4, .own 4), (0, .tr (.sl aList.length (aList.map eLabel))), (1, .tr (.int .i64 aIndex))], [(4, .arr 2 1 ([] : List Int).length (([] : List Int).map (eI .i64)))]⟩) (by kernel_rfl) ?_
    refine SRun.le (Le.ren' (d := 4) (e := 31) (by kernel_rfl) (by kernel_rfl) (by kernel_rfl)) ?_
    refine SRun.chunk tbok 2 (σ' := ⟨32, [(5, .tr (.int .i64 x1)), (4, .own 4), (14, .tr (.int .i64 x1)), (13, .tr (.bool (x1 != 0))), (12, .tr (.int .i64 x1)), (6, .tr (.int .i64 x1)), (11, .tr (.int .i64 x1)), (10, .tr (.int .i64 aIndex)), (9, .tr (.sl aList.length (aList.map eLabel))), (0, .tr (.sl aList.length (aList.map eLabel))), (1, .tr (.int .i64 aIndex))], [(4, .arr 2 1 ([] : List Int).length (([] : List Int).map (eI .i64))), (31, .arr 2 1 ([] : List Int).length (([] : List Int).map (eI .i64)))]⟩) (by kernel_rfl) ?_
    refine SRun.nil ?_
    refine nx_n ?_
    refine swp_ret ?_
    replace h := Option.some.inj h
    subst h
    exact nx_r (q_fr (fin2 (by kernel_rfl) (finO (d := 4) (holds_t (by kernel_rfl)) (by kernel_rfl) (flat_map (eI_flat .i64) _) (by kernel_rfl)) (finV rfl (by simp [SV.Flat, SV.Flat.FlatL, Tr.flat]) (holds_t (by kernel_rfl)))))
  · replace h := cond_f hb h
    refine swp_skip ?_
    refine nx_n ?_
    refine swp_seq ?_
    refine swp_reg ?_
    refine SRun.chunk tbok 2 (σ' := ⟨32, [(7, .own 15), (15, .own 15), (13, .tr (.bool (x1 != 0))), (12, .tr (.int .i64 x1)), (6, .tr (.int .i64 x1)), (11, .tr (.int .i64 x1)), (10, .tr (.int .i64 aIndex)), (9, .tr (.sl aList.length (aList.map eLabel))), (5, .tr (.int .i64 0)), (4, .own 4), (0, .tr (.sl aList.length (aList.map eLabel))), (1, .tr (.int .i64 aIndex))], [(15, .arr 2 1 ([] : List Int).length (([] : List Int).map (eI .i64))), (4, .arr 2 1 ([] : List Int).length (([] : List Int).map (eI .i64)))]⟩) (by kernel_rfl) ?_
    refine SRun.nil ?_
    refine nx_n ?_
    refine swp_seq ?_
    refine swp_seq ?_
    refine swp_reg ?_
    refine SRun.chunk tbok 1 (σ' := ⟨32, [(8, .tr (.int .i64 0)), (7, .own 15), (15, .own 15), (13, .tr (.bool (x1 != 0))), (12, .tr (.int .i64 x1)), (6, .tr (.int .i64 x1)), (11, .tr (.int .i64 x1)), (10, .tr (.int .i64 aIndex)), (9, .tr (.sl aList.length (aList.map eLabel))), (5, .tr (.int .i64 0)), (4, .own 4), (0, .tr (.sl aList.length (aList.map eLabel))), (1, .tr (.int .i64 aIndex))], [(15, .arr 2 1 ([] : List Int).length (([] : List Int).map (eI .i64))), (4, .arr 2 1 ([] : List Int).length (([] : List Int).map (eI .i64)))]⟩) (by kernel_rfl) ?_
    refine SRun.nil ?_
    refine nx_n ?_
    refine swp_seqJ h (fun j2 => ⟨32, [(7, .own 7)], [(7, .arr 2 1 j2.length (j2.map (eI .i64)))]⟩) (fun v3 h => ?_) (fun j2 h => ?_)
    · refine swp_blk (a := v3) ?_
      refine swp_lpL (r := v3) (s := (0, ([] : List Int))) _ (fun s4 => ⟨32, [(0, .tr (.sl aList.length (aList.map eLabel))), (1, .tr (.int .i64 aIndex)), (7, .own 7), (8, .tr (.int .i64 s4.1))], [(7, .arr 2 1 s4.2.length (s4.2.map (eI .i64)))]⟩) _ ((Le.sub' ([(0, .tr (.sl aList.length (aList.map eLabel))), (1, .tr (.int .i64 aIndex)), (7, .own 15), (8, .tr (.int .i64 0))] : List (Nat × SV)) ([(15, .arr 2 1 ([] : List Int).length (([] : List Int).map (eI .i64)))] : List (Nat × SO)) (by kernel_rfl) (by kernel_rfl)).trans ((Le.ren' (d := 15) (e := 7) (by kernel_rfl) (by kernel_rfl) (by kernel_rfl)).trans (Le.sub' ([(0, .tr (.sl aList.length (aList.map eLabel))), (1, .tr (.int .i64 aIndex)), (7, .own 7), (8, .tr (.int .i64 0))] : List (Nat × SV)) ([(7, .arr 2 1 ([] : List Int).length (([] : List Int).map (eI .i64)))] : List (Nat × SO)) (by kernel_rfl) (by kernel_rfl)))) h (fun s4 v5 h => ?_)
      refine swp_seq ?_
      refine swp_seq ?_
      refine swp_reg ?_
      refine SRun.chunk tbok 2 (σ' := ⟨32, [(17, .tr (.bool (decide (s4.1 < 4)))), (16, .tr (.int .i64 s4.1)), (0, .tr (.sl aList.length (aList.map eLabel))), (1, .tr (.int .i64 aIndex)), (7, .own 7), (8, .tr (.int .i64 s4.1))], [(7, .arr 2 1 s4.2.length (s4.2.map (eI .i64)))]⟩) (by kernel_rfl) ?_
      refine SRun.nil ?_
      refine nx_n ?_
      refine swp_cond (b := (decide (s4.1 < 4))) (by kernel_rfl) (fun hb => ?_) (fun hb => ?_)
      · replace h := cond_t hb h
        refine swp_skip ?_
        refine nx_n ?_
        refine swp_seq ?_
        refine swp_seqJ h (fun j6 => ⟨32, [(0, .tr (.sl aList.length (aList.map eLabel))), (1, .tr (.int .i64 aIndex)), (7, .own 7), (8, .tr (.int .i64 s4.1))], [(7, .arr 2 1 j6.length (j6.map (eI .i64)))]⟩) (fun v7 h => ?_) (fun j6 h => ?_)
        · refine swp_blk (a := v7) ?_
          refine swp_seq ?_
          refine swp_reg ?_
          refine SRun.chunk tbok 3 (σ' := ⟨32, [(22, .tr (.int .i64 aIndex)), (21, .tr (.sl aList.length (aList.map eLabel))), (20, .tr (.sl aList.length (aList.map eLabel))), (17, .tr (.bool (decide (s4.1 < 4)))), (16, .tr (.int .i64 s4.1)), (0, .tr (.sl aList.length (aList.map eLabel))), (1, .tr (.int .i64 aIndex)), (7, .own 7), (8, .tr (.int .i64 s4.1))], [(7, .arr 2 1 s4.2.length (s4.2.map (eI .i64)))]⟩) (by kernel_rfl) ?_
          obtain ⟨x8, hx8, h⟩ := bind_some h
          refine SRun.lstep (t_index (L := aList) (f := eLabel) (ti := ti25) (tj := ti55) (e := 55) (k := .i64) tbok rfl (by kernel_rfl) (by kernel_rfl) (by kernel_rfl) (by kernel_rfl) (by kernel_rfl) (by kernel_rfl) (by kernel_rfl) hx8 (by kernel_rfl)) (by kernel_rfl) ?_
          refine SRun.chunk tbok 2 (σ' := ⟨32, [(25, .tr (.int .i64 s4.1)), (24, .agg [.tr (.int .i64 x8.At.X), .tr (.int .i64 x8.At.Y), .tr (.int .i64 x8.Length), .tr (.int .i64 x8.Priority)]), (23, .ptr ((eLabel x8).map .tr) 0), (22, .tr (.int .i64 aIndex)), (21, .tr (.sl aList.length (aList.map eLabel))), (20, .tr (.sl aList.length (aList.map eLabel))), (17, .tr (.bool (decide (s4.1 < 4)))), (16, .tr (.int .i64 s4.1)), (0, .tr (.sl aList.length (aList.map eLabel))), (1, .tr (.int .i64 aIndex)), (7, .own 7), (8, .tr (.int .i64 s4.1))], [(7, .arr 2 1 s4.2.length (s4.2.map (eI .i64)))]⟩) (by kernel_rfl) ?_
          obtain ⟨x9, hx9, h⟩ := bind_some h
          refine SRun.lstep (lstep_call (f := 63) (caps := []) (xs := [.tr (.sl aList.length (aList.map eLabel)), .agg [.tr (.int .i64 x8.At.X), .tr (.int .i64 x8.At.Y), .tr (.int .i64 x8.Length), .tr (.int .i64 x8.Priority)], .tr (.int .i64 s4.1)]) (ys := [.tr (.sl aList.length (aList.map eLabel)), .agg [.tr (.int .i64 x8.At.X), .tr (.int .i64 x8.At.Y), .tr (.int .i64 x8.Length), .tr (.int .i64 x8.Priority)], .tr (.int .i64 s4.1)]) (res := ⟨[.v (.tr (.bool x9))], [], false⟩) (x := .tr (.bool x9)) (y := none) rfl (by kernel_rfl) (by kernel_rfl) (by kernel_rfl) (by kernel_rfl) (by kernel_rfl) ents63 (spec_l33Allowed_run aList x8 s4.1 _ hx9) rfl (by intro hc; cases hc) (by kernel_rfl)) (by kernel_rfl) ?_
          refine SRun.nil ?_
          refine nx_n ?_
          refine swp_cond (b := x9) (by kernel_rfl) (fun hb => ?_) (fun hb => ?_)
          · replace h := cond_t hb h
            refine swp_reg ?_
            refine SRun.chunk tbok 3 (σ' := ⟨32, [(29, .own 29), (28, .tr (.int .i64 s4.1)), (27, .own 7), (26, .tr (.bool x9)), (25, .tr (.int .i64 s4.1)), (24, .agg [.tr (.int .i64 x8.At.X), .tr (.int .i64 x8.At.Y), .tr (.int .i64 x8.Length), .tr (.int .i64 x8.Priority)]), (23, .ptr ((eLabel x8).map .tr) 0), (22, .tr (.int .i64 aIndex)), (21, .tr (.sl aList.length (aList.map eLabel))), (20, .tr (.sl aList.length (aList.map eLabel))), (17, .tr (.bool (decide (s4.1 < 4)))), (16, .tr (.int .i64 s4.1)), (0, .tr (.sl aList.length (aList.map eLabel))), (1, .tr (.int .i64 aIndex)), (7, .own 7), (8, .tr (.int .i64 s4.1))], [(29, .arr 2 1 ([s4.1] : List Int).length (([s4.1] : List Int).map (eI .i64))), (7, .arr 2 1 s4.2.length (s4.2.map (eI .i64)))]⟩) (by kernel_rfl) ?_
            obtain ⟨x10, hx10, h⟩ := bind_some h
            refine SRun.estep (t_append (f := (eI .i64)) (t := 29) (ti := ti29) (tj := ti2) (zs := [.int .i64 0]) (e := 2) (m := 1) (d := 7) (xv := .own 29) hx10 tbok rfl rfl rfl rfl (by kernel_rfl) (by kernel_rfl) (by kernel_rfl) (by kernel_rfl) (by kernel_rfl) (by kernel_rfl) (by kernel_rfl) (by kernel_rfl) (by kernel_rfl) (by kernel_rfl) (by kernel_rfl) (by kernel_rfl) (by kernel_rfl) (by kernel_rfl) (src_o (e := 2) (by kernel_rfl)) (by kernel_rfl)) ?_
            refine SRun.chunk tbok 1 (σ' := ⟨32, [(7, .own 30), (30, .own 30), (29, .own 29), (28, .tr (.int .i64 s4.1)), (26, .tr (.bool x9)), (25, .tr (.int .i64 s4.1)), (24, .agg [.tr (.int .i64 x8.At.X), .tr (.int .i64 x8.At.Y), .tr (.int .i64 x8.Length), .tr (.int .i64 x8.Priority)]), (23, .ptr ((eLabel x8).map .tr) 0), (22, .tr (.int .i64 aIndex)), (21, .tr (.sl aList.length (aList.map eLabel))), (20, .tr (.sl aList.length (aList.map eLabel))), (17, .tr (.bool (decide (s4.1 < 4)))), (16, .tr (.int .i64 s4.1)), (0, .tr (.sl aList.length (aList.map eLabel))), (1, .tr (.int .i64 aIndex)), (8, .tr (.int .i64 s4.1))], [(30, .arr 2 1 x10.length (x10.map (eI .i64))), (29, .arr 2 1 ([s4.1] : List Int).length (([s4.1] : List Int).map (eI .i64)))]⟩) (by kernel_rfl) ?_
            refine SRun.nil ?_
            replace h := Option.some.inj h
            subst h
            exact q_bn (q_j ((Le.sub' ([(0, .tr (.sl aList.length (aList.map eLabel))), (1, .tr (.int .i64 aIndex)), (7, .own 30), (8, .tr (.int .i64 s4.1))] : List (Nat × SV)) ([(30, .arr 2 1 x10.length (x10.map (eI .i64)))] : List (Nat × SO)) (by kernel_rfl) (by kernel_rfl)).trans ((Le.ren' (d := 30) (e := 7) (by kernel_rfl) (by kernel_rfl) (by kernel_rfl)).trans (Le.sub' ([(0, .tr (.sl aList.length (aList.map eLabel))), (1, .tr (.int .i64 aIndex)), (7, .own 7), (8, .tr (.int .i64 s4.1))] : List (Nat × SV)) ([(7, .arr 2 1 x10.length (x10.map (eI .i64)))] : List (Nat × SO)) (by kernel_rfl) (by kernel_rfl)))))
          · replace h := cond_f hb h
            refine swp_skip ?_
            replace h := Option.some.inj h
            subst h
            exact q_bn (q_j ((Le.sub' ([(0, .tr (.sl aList.length (aList.map eLabel))), (1, .tr (.int .i64 aIndex)), (7, .own 7), (8, .tr (.int .i64 s4.1))] : List (Nat × SV)) ([(7, .arr 2 1 s4.2.length (s4.2.map (eI .i64)))] : List (Nat × SO)) (by kernel_rfl) (by kernel_rfl)).trans (Le.sub' ([(0, .tr (.sl aList.length (aList.map eLabel))), (1, .tr (.int .i64 aIndex)), (7, .own 7), (8, .tr (.int .i64 s4.1))] : List (Nat × SV)) ([(7, .arr 2 1 s4.2.length (s4.2.map (eI .i64)))] : List (Nat × SO)) (by kernel_rfl) (by kernel_rfl))))
        · refine swp_reg ?_
          refine SRun.chunk tbok 3 (σ' := ⟨32, [(8, .tr (.int .i64 (w64 (s4.1 + 1)))), (19, .tr (.int .i64 (w64 (s4.1 + 1)))), (18, .tr (.int .i64 s4.1)), (0, .tr (.sl aList.length (aList.map eLabel))), (1, .tr (.int .i64 aIndex)), (7, .own 7)], [(7, .arr 2 1 j6.length (j6.map (eI .i64)))]⟩) (by kernel_rfl) ?_
          refine SRun.nil ?_
          replace h := Option.some.inj h
          subst h
          exact q_l ((Le.sub' ([(0, .tr (.sl aList.length (aList.map eLabel))), (1, .tr (.int .i64 aIndex)), (7, .own 7), (8, .tr (.int .i64 (w64 (s4.1 + 1))))] : List (Nat × SV)) ([(7, .arr 2 1 j6.length (j6.map (eI .i64)))] : List (Nat × SO)) (by kernel_rfl) (by kernel_rfl)).trans (Le.sub' ([(0, .tr (.sl aList.length (aList.map eLabel))), (1, .tr (.int .i64 aIndex)), (7, .own 7), (8, .tr (.int .i64 (w64 (s4.1 + 1))))] : List (Nat × SV)) ([(7, .arr 2 1 j6.length (j6.map (eI .i64)))] : List (Nat × SO)) (by kernel_rfl) (by kernel_rfl)))
      · replace h := cond_f hb h
        refine swp_exit ?_
        replace h := Option.some.inj h
        subst h
        exact nx_e (q_re (q_bh (q_j ((Le.sub' ([(7, .own 7)] : List (Nat × SV)) ([(7, .arr 2 1 s4.2.length (s4.2.map (eI .i64)))] : List (Nat × SO)) (by kernel_rfl) (by kernel_rfl)).trans (Le.sub' ([(7, .own 7)] : List (Nat × SV)) ([(7, .arr 2 1 s4.2.length (s4.2.map (eI .i64)))] : List (Nat × SO)) (by kernel_rfl) (by kernel_rfl))))))
    · refine swp_seq ?_
      refine swp_reg ?_
      refine SRun.chunk tbok 3 (σ' := ⟨32, [(5, .tr (.int .i64 0)), (4, .own 7), (31, .own 7), (7, .own 7)], [(7, .arr 2 1 j2.length (j2.map (eI .i64)))]⟩) (by kernel_rfl) ?_
      refine SRun.nil ?_
      refine nx_n ?_
      refine swp_ret ?_
      replace h := Option.some.inj h
      subst h
      exact q_fr (fin2 (by kernel_rfl) (finO (d := 7) (holds_t (by kernel_rfl)) (by kernel_rfl) (flat_map (eI_flat .i64) _) (by kernel_rfl)) (finV rfl (by simp [SV.Flat, SV.Flat.FlatL, Tr.flat]) (holds_t (by kernel_rfl))))
theorem ents22 : Ents Try.prog 22 := ents_of Try.func22 (by kernel_rfl) rfl
noncomputable def laws_likePoints (aA : (List Point)) (aB : (List Point)) : Option (Bool) :=
  (bif ((aA.length : Int) != (aB.length : Int)) then some false else (((loop (fun (s3 : Int) => (bif (decide (s3 < (aA.length : Int))) then ((((at' aA s3).bind fun x7 => ((at' aB s3).bind fun x8 => (bif (!((x7.X == x8.X) && (x7.Y == x8.Y))) then some (.inr (.inr (.inr false))) else some (.inl ()))))).bind (Sum.elim (fun (j5 : Unit) => some (.inl (w64 (s3 + 1)))) some)) else some (.inr (.inl ())))) 0)).bind (Sum.elim (fun (j1 : Unit) => some true) some)))
set_option maxRecDepth 100000 in
set_option maxHeartbeats 4000000 in
theorem laws_likePoints_run (aA : (List Point)) (aB : (List Point)) (r : Bool) (h : laws_likePoints aA aB = some r) : SCall Try.prog 35 [.v (.tr (.sl aA.length (aA.map ePoint))), .v (.tr (.sl aB.length (aB.map ePoint)))] ⟨[.v (.tr (.bool r))], [], false⟩ := by
  refine scall_intro' (P := Try.prog) Try.func35 rfl [(.tmp 4)] rfl (ins := [.v (.tr (.sl aA.length (aA.map ePoint))), .v (.tr (.sl aB.length (aB.map ePoint)))]) (by kernel_rfl) (by kernel_rfl) rfl (fun r => ⟨[.v (.tr (.bool r))], [], false⟩) (r := r) ?_
  unfold laws_likePoints at h
  refine swp_seq ?_
  refine swp_reg ?_
  refine SRun.chunk tbok 1 (σ' := ⟨26, [(4, .tr (.bool false)), (0, .tr (.sl aA.length (aA.map ePoint))), (1, .tr (.sl aB.length (aB.map ePoint)))], []⟩) (by kernel_rfl) ?_
  refine SRun.nil ?_
  refine nx_n ?_
  refine swp_seq ?_
  refine swp_seq ?_
  refine swp_reg ?_
  refine SRun.chunk tbok 5 (σ' := ⟨26, [(10, .tr (.bool ((aA.length : Int) != (aB.length : Int)))), (9, .tr (.int .i64 (aB.length : Int))), (8, .tr (.sl aB.length (aB.map ePoint))), (7, .tr (.int .i64 (aA.length : Int))), (6, .tr (.sl aA.length (aA.map ePoint))), (4, .tr (.bool false)), (0, .tr (.sl aA.length (aA.map ePoint))), (1, .tr (.sl aB.length (aB.map ePoint)))], []⟩) (by kernel_rfl) ?_
  refine SRun.nil ?_
  refine nx_n ?_
  refine swp_cond (b := ((aA.length : Int) != (aB.length : Int))) (by kernel_rfl) (fun hb => ?_) (fun hb => ?_)
  · replace h := cond_t hb h
    refine swp_seq ?_
    refine swp_reg ?_
    refine SRun.chunk tbok 1 (σ' := ⟨26, [(4, .tr (.bool false)), (10, .tr (.bool ((aA.length : Int) != (aB.length : Int)))), (9, .tr (.int .i64 (aB.length : Int))), (8, .tr (.sl aB.length (aB.map ePoint))), (7, .tr (.int .i64 (aA.length : Int))), (6, .tr (.sl aA.length (aA.map ePoint))), (0, .tr (.sl aA.length (aA.map ePoint))), (1, .tr (.sl aB.length (aB.map ePoint)))], []⟩) (by kernel_rfl) ?_
    refine SRun.nil ?_
    refine nx_n ?_
    refine swp_ret ?_
    replace h := Option.some.inj h
    subst h
    exact nx_r (q_fr (fin1 (by kernel_rfl) (finV rfl (by simp [SV.Flat, SV.Flat.FlatL, Tr.flat]) (holds_t (by kernel_rfl)))))
  · replace h := cond_f hb h
    refine swp_skip ?_
    refine nx_n ?_
    refine swp_seq ?_
    refine swp_seq ?_
    refine swp_reg ?_
    refine SRun.chunk tbok 1 (σ' := ⟨26, [(5, .tr (.int .i64 0)), (10, .tr (.bool ((aA.length : Int) != (aB.length : Int)))), (9, .tr (.int .i64 (aB.length : Int))), (8, .tr (.sl aB.length (aB.map ePoint))), (7, .tr (.int .i64 (aA.length : Int))), (6, .tr (.sl aA.length (aA.map ePoint))), (4, .tr (.bool false)), (0, .tr (.sl aA.length (aA.map ePoint))), (1, .tr (.sl aB.length (aB.map ePoint)))], []⟩) (by kernel_rfl) ?_
    refine SRun.nil ?_
    refine nx_n ?_
    refine swp_seqE (r := r) h (fun j1 => ⟨26, [], []⟩) (fun v2 h => ?_) (fun j1 h => ?_)
    · refine swp_blk (a := v2) ?_
      refine swp_lpL (r := v2) (s := 0) _ (fun s3 => ⟨26, [(0, .tr (.sl aA.length (aA.map ePoint))), (1, .tr (.sl aB.length (aB.map ePoint))), (5, .tr (.int .i64 s3))], []⟩) _ ((Le.sub' ([(0, .tr (.sl aA.length (aA.map ePoint))), (1, .tr (.sl aB.length (aB.map ePoint))), (5, .tr (.int .i64 0))] : List (Nat × SV)) ([] : List (Nat × SO)) (by kernel_rfl) (by kernel_rfl)).trans (Le.sub' ([(0, .tr (.sl aA.length (aA.map ePoint))), (1, .tr (.sl aB.length (aB.map ePoint))), (5, .tr (.int .i64 0))] : List (Nat × SV)) ([] : List (Nat × SO)) (by kernel_rfl) (by kernel_rfl))) h (fun s3 v4 h => ?_)
      refine swp_seq ?_
      refine swp_seq ?_
      refine swp_reg ?_
      refine SRun.chunk tbok 4 (σ' := ⟨26, [(14, .tr (.bool (decide (s3 < (aA.length : Int))))), (13, .tr (.int .i64 (aA.length : Int))), (12, .tr (.sl aA.length (aA.map ePoint))), (11, .tr (.int .i64 s3)), (0, .tr (.sl aA.length (aA.map ePoint))), (1, .tr (.sl aB.length (aB.map ePoint))), (5, .tr (.int .i64 s3))], []⟩) (by kernel_rfl) ?_
      refine SRun.nil ?_
      refine nx_n ?_
      refine swp_cond (b := (decide (s3 < (aA.length : Int)))) (by kernel_rfl) (fun hb => ?_) (fun hb => ?_)
      · replace h := cond_t hb h
        refine swp_skip ?_
        refine nx_n ?_
        refine swp_seq ?_
        refine swp_seqE (r := v4) h (fun j5 => ⟨26, [(0, .tr (.sl aA.length (aA.map ePoint))), (1, .tr (.sl aB.length (aB.map ePoint))), (5, .tr (.int .i64 s3))], []⟩) (fun v6 h => ?_) (fun j5 h => ?_)
        · refine swp_blk (a := v6) ?_
          refine swp_seq ?_
          refine swp_dr mixed ?_
          refine DGo.chunk' tbok 2 (σ' := ⟨26, [(18, .tr (.int .i64 s3)), (17, .tr (.sl aA.length (aA.map ePoint))), (14, .tr (.bool (decide (s3 < (aA.length : Int))))), (13, .tr (.int .i64 (aA.length : Int))), (12, .tr (.sl aA.length (aA.map ePoint))), (11, .tr (.int .i64 s3)), (0, .tr (.sl aA.length (aA.map ePoint))), (1, .tr (.sl aB.length (aB.map ePoint))), (5, .tr (.int .i64 s3))], []⟩) (by kernel_rfl) ?_
          obtain ⟨x7, hx7, h⟩ := bind_some h
          refine DGo.step (t_index (L := aA) (f := ePoint) (ti := ti40) (tj := ti53) (e := 53) (k := .i64) tbok rfl (by kernel_rfl) (by kernel_rfl) (by kernel_rfl) (by kernel_rfl) (by kernel_rfl) (by kernel_rfl) (by kernel_rfl) hx7 (by kernel_rfl)) ?_
          refine DGo.chunk' tbok 3 (σ' := ⟨26, [(22, .tr (.int .i64 s3)), (21, .tr (.sl aB.length (aB.map ePoint))), (20, .agg [.tr (.int .i64 x7.X), .tr (.int .i64 x7.Y)]), (19, .ptr ((ePoint x7).map .tr) 0), (18, .tr (.int .i64 s3)), (17, .tr (.sl aA.length (aA.map ePoint))), (14, .tr (.bool (decide (s3 < (aA.length : Int))))), (13, .tr (.int .i64 (aA.length : Int))), (12, .tr (.sl aA.length (aA.map ePoint))), (11, .tr (.int .i64 s3)), (0, .tr (.sl aA.length (aA.map ePoint))), (1, .tr (.sl aB.length (aB.map ePoint))), (5, .tr (.int .i64 s3))], []⟩) (by kernel_rfl) ?_
          obtain ⟨x8, hx8, h⟩ := bind_some h
          refine DGo.step (t_index (L := aB) (f := ePoint) (ti := ti40) (tj := ti53) (e := 53) (k := .i64) tbok rfl (by kernel_rfl) (by kernel_rfl) (by kernel_rfl) (by kernel_rfl) (by kernel_rfl) (by kernel_rfl) (by kernel_rfl) hx8 (by kernel_rfl)) ?_
          refine DGo.chunk' tbok 1 (σ' := ⟨26, [(24, .agg [.tr (.int .i64 x8.X), .tr (.int .i64 x8.Y)]), (23, .ptr ((ePoint x8).map .tr) 0), (22, .tr (.int .i64 s3)), (21, .tr (.sl aB.length (aB.map ePoint))), (20, .agg [.tr (.int .i64 x7.X), .tr (.int .i64 x7.Y)]), (19, .ptr ((ePoint x7).map .tr) 0), (18, .tr (.int .i64 s3)), (17, .tr (.sl aA.length (aA.map ePoint))), (14, .tr (.bool (decide (s3 < (aA.length : Int))))), (13, .tr (.int .i64 (aA.length : Int))), (12, .tr (.sl aA.length (aA.map ePoint))), (11, .tr (.int .i64 s3)), (0, .tr (.sl aA.length (aA.map ePoint))), (1, .tr (.sl aB.length (aB.map ePoint))), (5, .tr (.int .i64 s3))], []⟩) (by kernel_rfl) ?_
          refine DGo.step (lstep_eq tbok true (xs := [.tr (.int .i64 x7.X), .tr (.int .i64 x7.Y)]) (ys := [.tr (.int .i64 x8.X), .tr (.int .i64 x8.Y)]) (b := ((x7.X == x8.X) && (x7.Y == x8.Y))) rfl (by kernel_rfl) (by kernel_rfl) (by kernel_rfl) (by kernel_rfl) (by kernel_rfl) (by kernel_rfl) (by kernel_rfl)) ?_
          refine DGo.nil (by kernel_rfl) ?_
          refine nx_n ?_
          refine swp_cond (b := (!((x7.X == x8.X) && (x7.Y == x8.Y)))) (by kernel_rfl) (fun hb => ?_) (fun hb => ?_)
          · replace h := cond_t hb h
            refine swp_seq ?_
            refine swp_reg ?_
            refine SRun.chunk tbok 1 (σ' := ⟨26, [(4, .tr (.bool false)), (25, .tr (.bool (!((x7.X == x8.X) && (x7.Y == x8.Y))))), (24, .agg [.tr (.int .i64 x8.X), .tr (.int .i64 x8.Y)]), (23, .ptr ((ePoint x8).map .tr) 0), (22, .tr (.int .i64 s3)), (21, .tr (.sl aB.length (aB.map ePoint))), (20, .agg [.tr (.int .i64 x7.X), .tr (.int .i64 x7.Y)]), (19, .ptr ((ePoint x7).map .tr) 0), (18, .tr (.int .i64 s3)), (17, .tr (.sl aA.length (aA.map ePoint))), (14, .tr (.bool (decide (s3 < (aA.length : Int))))), (13, .tr (.int .i64 (aA.length : Int))), (12, .tr (.sl aA.length (aA.map ePoint))), (11, .tr (.int .i64 s3)), (0, .tr (.sl aA.length (aA.map ePoint))), (1, .tr (.sl aB.length (aB.map ePoint))), (5, .tr (.int .i64 s3))], []⟩) (by kernel_rfl) ?_
            refine SRun.nil ?_
            refine nx_n ?_
            refine swp_ret ?_
            replace h := Option.some.inj h
            subst h
            exact q_br (q_rr (q_rr (q_br (q_rr (q_fr (fin1 (by kernel_rfl) (finV rfl (by simp [SV.Flat, SV.Flat.FlatL, Tr.flat]) (holds_t (by kernel_rfl)))))))))
          · replace h := cond_f hb h
            refine swp_skip ?_
            replace h := Option.some.inj h
            subst h
            exact q_bn (q_l ((Le.sub' ([(0, .tr (.sl aA.length (aA.map ePoint))), (1, .tr (.sl aB.length (aB.map ePoint))), (5, .tr (.int .i64 s3))] : List (Nat × SV)) ([] : List (Nat × SO)) (by kernel_rfl) (by kernel_rfl)).trans (Le.sub' ([(0, .tr (.sl aA.length (aA.map ePoint))), (1, .tr (.sl aB.length (aB.map ePoint))), (5, .tr (.int .i64 s3))] : List (Nat × SV)) ([] : List (Nat × SO)) (by kernel_rfl) (by kernel_rfl))))
        · refine swp_reg ?_
          refine SRun.chunk tbok 3 (σ' := ⟨26, [(5, .tr (.int .i64 (w64 (s3 + 1)))), (16, .tr (.int .i64 (w64 (s3 + 1)))), (15, .tr (.int .i64 s3)), (0, .tr (.sl aA.length (aA.map ePoint))), (1, .tr (.sl aB.length (aB.map ePoint)))], []⟩) (by kernel_rfl) ?_
          refine SRun.nil ?_
          replace h := Option.some.inj h
          subst h
          exact q_l ((Le.sub' ([(0, .tr (.sl aA.length (aA.map ePoint))), (1, .tr (.sl aB.length (aB.map ePoint))), (5, .tr (.int .i64 (w64 (s3 + 1))))] : List (Nat × SV)) ([] : List (Nat × SO)) (by kernel_rfl) (by kernel_rfl)).trans (Le.sub' ([(0, .tr (.sl aA.length (aA.map ePoint))), (1, .tr (.sl aB.length (aB.map ePoint))), (5, .tr (.int .i64 (w64 (s3 + 1))))] : List (Nat × SV)) ([] : List (Nat × SO)) (by kernel_rfl) (by kernel_rfl)))
      · replace h := cond_f hb h
        refine swp_exit ?_
        replace h := Option.some.inj h
        subst h
        exact nx_e (q_re (q_bh (q_l ((Le.sub' ([] : List (Nat × SV)) ([] : List (Nat × SO)) (by kernel_rfl) (by kernel_rfl)).trans (Le.sub' ([] : List (Nat × SV)) ([] : List (Nat × SO)) (by kernel_rfl) (by kernel_rfl))))))
    · refine swp_seq ?_
      refine swp_reg ?_
      refine SRun.chunk tbok 1 (σ' := ⟨26, [(4, .tr (.bool true))], []⟩) (by kernel_rfl) ?_
      refine SRun.nil ?_
      refine nx_n ?_
      refine swp_ret ?_
      replace h := Option.some.inj h
      subst h
      exact q_fr (fin1 (by kernel_rfl) (finV rfl (by simp [SV.Flat, SV.Flat.FlatL, Tr.flat]) (holds_t (by kernel_rfl))))
theorem ents35 : Ents Try.prog 35 := ents_of Try.func35 (by kernel_rfl) rfl
noncomputable def laws_likeInts (aA : (List Int)) (aB : (List Int)) : Option (Bool) :=
  (bif ((aA.length : Int) != (aB.length : Int)) then some false else (((loop (fun (s3 : Int) => (bif (decide (s3 < (aA.length : Int))) then ((((at' aA s3).bind fun x7 => ((at' aB s3).bind fun x8 => (bif (x7 != x8) then some (.inr (.inr (.inr false))) else some (.inl ()))))).bind (Sum.elim (fun (j5 : Unit) => some (.inl (w64 (s3 + 1)))) some)) else some (.inr (.inl ())))) 0)).bind (Sum.elim (fun (j1 : Unit) => some true) some)))
set_option maxRecDepth 100000 in
set_option maxHeartbeats 4000000 in
theorem laws_likeInts_run (aA : (List Int)) (aB : (List Int)) (r : Bool) (h : laws_likeInts aA aB = some r) : SCall Try.prog 36 [.v (.tr (.sl aA.length (aA.map (eI .i64)))), .v (.tr (.sl aB.length (aB.map (eI .i64))))] ⟨[.v (.tr (.bool r))], [], false⟩ := by
  refine scall_intro' (P := Try.prog) Try.func36 rfl [(.tmp 4)] rfl (ins := [.v (.tr (.sl aA.length (aA.map (eI .i64)))), .v (.tr (.sl aB.length (aB.map (eI .i64))))]) (by kernel_rfl) (by kernel_rfl) rfl (fun r => ⟨[.v (.tr (.bool r))], [], false⟩) (r := r) ?_
  unfold laws_likeInts at h
  refine swp_seq ?_
  refine swp_reg ?_
  refine SRun.chunk tbok 1 (σ' := ⟨26, [(4, .tr (.bool false)), (0, .tr (.sl aA.length (aA.map (eI .i64)))), (1, .tr (.sl aB.length (aB.map (eI .i64))))], []⟩) (by kernel_rfl) ?_
  refine SRun.nil ?_
  refine nx_n ?_
  refine swp_seq ?_
  refine swp_seq ?_
  refine swp_reg ?_
  refine SRun.chunk tbok 5 (σ' := ⟨26, [(10, .tr (.bool ((aA.length : Int) != (aB.length : Int)))), (9, .tr (.int .i64 (aB.length : Int))), (8, .tr (.sl aB.length (aB.map (eI .i64)))), (7, .tr (.int .i64 (aA.length : Int))), (6, .tr (.sl aA.length (aA.map (eI .i64)))), (4, .tr (.bool false)), (0, .tr (.sl aA.length (aA.map (eI .i64)))), (1, .tr (.sl aB.length (aB.map (eI .i64))))], []⟩) (by kernel_rfl) ?_
  refine SRun.nil ?_
  refine nx_n ?_
  refine swp_cond (b := ((aA.length : Int) != (aB.length : Int))) (by kernel_rfl) (fun hb => ?_) (fun hb => ?_)
  · replace h := cond_t hb h
    refine swp_seq ?_
    refine swp_reg ?_
    refine SRun.chunk tbok 1 (σ' := ⟨26, [(4, .tr (.bool false)), (10, .tr (.bool ((aA.length : Int) != (aB.length : Int)))), (9, .tr (.int .i64 (aB.length : Int))), (8, .tr (.sl aB.length (aB.map (eI .i64)))), (7, .tr (.int .i64 (aA.length : Int))), (6, .tr (.sl aA.length (aA.map (eI .i64)))), (0, .tr (.sl aA.length (aA.map (eI .i64)))), (1, .tr (.sl aB.length (aB.map (eI .i64))))], []⟩) (by kernel_rfl) ?_
    refine SRun.nil ?_
    refine nx_n ?_
    refine swp_ret ?_
    replace h := Option.some.inj h
    subst h
    exact nx_r (q_fr (fin1 (by kernel_rfl) (finV rfl (by simp [SV.Flat, SV.Flat.FlatL, Tr.flat]) (holds_t (by kernel_rfl)))))
  · replace h := cond_f hb h
    refine swp_skip ?_
    refine nx_n ?_
    refine swp_seq ?_
    refine swp_seq ?_
    refine swp_reg ?_
    refine SRun.chunk tbok 1 (σ' := ⟨26, [(5, .tr (.int .i64 0)), (10, .tr (.bool ((aA.length : Int) != (aB.length : Int)))), (9, .tr (.int .i64 (aB.length : Int))), (8, .tr (.sl aB.length (aB.map (eI .i64)))), (7, .tr (.int .i64 (aA.length : Int))), (6, .tr (.sl aA.length (aA.map (eI .i64)))), (4, .tr (.bool false)), (0, .tr (.sl aA.length (aA.map (eI .i64)))), (1, .tr (.sl aB.length (aB.map (eI .i64))))], []⟩) (by kernel_rfl) ?_
    refine SRun.nil ?_
    refine nx_n ?_
    refine swp_seqE (r := r) h (fun j1 => ⟨26, [], []⟩) (fun v2 h => ?_) (fun j1 h => ?_)
    · refine swp_blk (a := v2) ?_
      refine swp_lpL (r := v2) (s := 0) _ (fun s3 => ⟨26, [(0, .tr (.sl aA.length (aA.map (eI .i64)))), (1, .tr (.sl aB.length (aB.map (eI .i64)))), (5, .tr (.int .i64 s3))], []⟩) _ ((Le.sub' ([(0, .tr (.sl aA.length (aA.map (eI .i64)))), (1, .tr (.sl aB.length (aB.map (eI .i64)))), (5, .tr (.int .i64 0))] : List (Nat × SV)) ([] : List (Nat × SO)) (by kernel_rfl) (by kernel_rfl)).trans (Le.sub' ([(0, .tr (.sl aA.length (aA.map (eI .i64)))), (1, .tr (.sl aB.length (aB.map (eI .i64)))), (5, .tr (.int .i64 0))] : List (Nat × SV)) ([] : List (Nat × SO)) (by kernel_rfl) (by kernel_rfl))) h (fun s3 v4 h => ?_)
      refine swp_seq ?_
      refine swp_seq ?_
      refine swp_reg ?_
      refine SRun.chunk tbok 4 (σ' := ⟨26, [(14, .tr (.bool (decide (s3 < (aA.length : Int))))), (13, .tr (.int .i64 (aA.length : Int))), (12, .tr (.sl aA.length (aA.map (eI .i64)))), (11, .tr (.int .i64 s3)), (0, .tr (.sl aA.length (aA.map (eI .i64)))), (1, .tr (.sl aB.length (aB.map (eI .i64)))), (5, .tr (.int .i64 s3))], []⟩) (by kernel_rfl) ?_
      refine SRun.nil ?_
      refine nx_n ?_
      refine swp_cond (b := (decide (s3 < (aA.length : Int)))) (by kernel_rfl) (fun hb => ?_) (fun hb => ?_)
      · replace h := cond_t hb h
        refine swp_skip ?_
        refine nx_n ?_
        refine swp_seq ?_
        refine swp_seqE (r := v4) h (fun j5 => ⟨26, [(0, .tr (.sl aA.length (aA.map (eI .i64)))), (1, .tr (.sl aB.length (aB.map (eI .i64)))), (5, .tr (.int .i64 s3))], []⟩) (fun v6 h => ?_) (fun j5 h => ?_)
        · refine swp_blk (a := v6) ?_
          refine swp_seq ?_
          refine swp_dr mixed ?_
          refine DGo.chunk' tbok 2 (σ' := ⟨26, [(18, .tr (.int .i64 s3)), (17, .tr (.sl aA.length (aA.map (eI .i64)))), (14, .tr (.bool (decide (s3 < (aA.length : Int))))), (13, .tr (.int .i64 (aA.length : Int))), (12, .tr (.sl aA.length (aA.map (eI .i64)))), (11, .tr (.int .i64 s3)), (0, .tr (.sl aA.length (aA.map (eI .i64)))), (1, .tr (.sl aB.length (aB.map (eI .i64)))), (5, .tr (.int .i64 s3))], []⟩) (by kernel_rfl) ?_
          obtain ⟨x7, hx7, h⟩ := bind_some h
          refine DGo.step (t_index (L := aA) (f := (eI .i64)) (ti := ti29) (tj := ti2) (e := 2) (k := .i64) tbok rfl (by kernel_rfl) (by kernel_rfl) (by kernel_rfl) (by kernel_rfl) (by kernel_rfl) (by kernel_rfl) (by kernel_rfl) hx7 (by kernel_rfl)) ?_
          refine DGo.chunk' tbok 3 (σ' := ⟨26, [(22, .tr (.int .i64 s3)), (21, .tr (.sl aB.length (aB.map (eI .i64)))), (20, .tr (.int .i64 x7)), (19, .ptr (((eI .i64) x7).map .tr) 0), (18, .tr (.int .i64 s3)), (17, .tr (.sl aA.length (aA.map (eI .i64)))), (14, .tr (.bool (decide (s3 < (aA.length : Int))))), (13, .tr (.int .i64 (aA.length : Int))), (12, .tr (.sl aA.length (aA.map (eI .i64)))), (11, .tr (.int .i64 s3)), (0, .tr (.sl aA.length (aA.map (eI .i64)))), (1, .tr (.sl aB.length (aB.map (eI .i64)))), (5, .tr (.int .i64 s3))], []⟩) (by kernel_rfl) ?_
          obtain ⟨x8, hx8, h⟩ := bind_some h
          refine DGo.step (t_index (L := aB) (f := (eI .i64)) (ti := ti29) (tj := ti2) (e := 2) (k := .i64) tbok rfl (by kernel_rfl) (by kernel_rfl) (by kernel_rfl) (by kernel_rfl) (by kernel_rfl) (by kernel_rfl) (by kernel_rfl) hx8 (by kernel_rfl)) ?_
          refine DGo.chunk' tbok 2 (σ' := ⟨26, [(25, .tr (.bool (x7 != x8))), (24, .tr (.int .i64 x8)), (23, .ptr (((eI .i64) x8).map .tr) 0), (22, .tr (.int .i64 s3)), (21, .tr (.sl aB.length (aB.map (eI .i64)))), (20, .tr (.int .i64 x7)), (19, .ptr (((eI .i64) x7).map .tr) 0), (18, .tr (.int .i64 s3)), (17, .tr (.sl aA.length (aA.map (eI .i64)))), (14, .tr (.bool (decide (s3 < (aA.length : Int))))), (13, .tr (.int .i64 (aA.length : Int))), (12, .tr (.sl aA.length (aA.map (eI .i64)))), (11, .tr (.int .i64 s3)), (0, .tr (.sl aA.length (aA.map (eI .i64)))), (1, .tr (.sl aB.length (aB.map (eI .i64)))), (5, .tr (.int .i64 s3))], []⟩) (by kernel_rfl) ?_
          refine DGo.nil (by kernel_rfl) ?_
          refine nx_n ?_
          refine swp_cond (b := (x7 != x8)) (by kernel_rfl) (fun hb => ?_) (fun hb => ?_)
          · replace h := cond_t hb h
            refine swp_seq ?_
            refine swp_reg ?_
            refine SRun.chunk tbok 1 (σ' := ⟨26, [(4, .tr (.bool false)), (25, .tr (.bool (x7 != x8))), (24, .tr (.int .i64 x8)), (23, .ptr (((eI .i64) x8).map .tr) 0), (22, .tr (.int .i64 s3)), (21, .tr (.sl aB.length (aB.map (eI .i64)))), (20, .tr (.int .i64 x7)), (19, .ptr (((eI .i64) x7).map .tr) 0), (18, .tr (.int .i64 s3)), (17, .tr (.sl aA.length (aA.map (eI .i64)))), (14, .tr (.bool (decide (s3 < (aA.length : Int))))), (13, .tr (.int .i64 (aA.length : Int))), (12, .tr (.sl aA.length (aA.map (eI .i64)))), (11, .tr (.int .i64 s3)), (0, .tr (.sl aA.length (aA.map (eI .i64)))), (1, .tr (.sl aB.length (aB.map (eI .i64)))), (5, .tr (.int .i64 s3))], []⟩) (by kernel_rfl) ?_
            refine SRun.nil ?_
            refine nx_n ?_
            refine swp_ret ?_
            replace h := Option.some.inj h
            subst h
            exact q_br (q_rr (q_rr (q_br (q_rr (q_fr (fin1 (by kernel_rfl) (finV rfl (by simp [SV.Flat, SV.Flat.FlatL, Tr.flat]) (holds_t (by kernel_rfl)))))))))
          · replace h := cond_f hb h
            refine swp_skip ?_
            replace h := Option.some.inj h
            subst h
            exact q_bn (q_l ((Le.sub' ([(0, .tr (.sl aA.length (aA.map (eI .i64)))), (1, .tr (.sl aB.length (aB.map (eI .i64)))), (5, .tr (.int .i64 s3))] : List (Nat × SV)) ([] : List (Nat × SO)) (by kernel_rfl) (by kernel_rfl)).trans (Le.sub' ([(0, .tr (.sl aA.length (aA.map (eI .i64)))), (1, .tr (.sl aB.length (aB.map (eI .i64)))), (5, .tr (.int .i64 s3))] : List (Nat × SV)) ([] : List (Nat × SO)) (by kernel_rfl) (by kernel_rfl))))
        · refine swp_reg ?_
          refine SRun.chunk tbok 3 (σ' := ⟨26, [(5, .tr (.int .i64 (w64 (s3 + 1)))), (16, .tr (.int .i64 (w64 (s3 + 1)))), (15, .tr (.int .i64 s3)), (0, .tr (.sl aA.length (aA.map (eI .i64)))), (1, .tr (.sl aB.length (aB.map (eI .i64))))], []⟩) (by kernel_rfl) ?_
          refine SRun.nil ?_
          replace h := Option.some.inj h
          subst h
          exact q_l ((Le.sub' ([(0, .tr (.sl aA.length (aA.map (eI .i64)))), (1, .tr (.sl aB.length (aB.map (eI .i64)))), (5, .tr (.int .i64 (w64 (s3 + 1))))] : List (Nat × SV)) ([] : List (Nat × SO)) (by kernel_rfl) (by kernel_rfl)).trans (Le.sub' ([(0, .tr (.sl aA.length (aA.map (eI .i64)))), (1, .tr (.sl aB.length (aB.map (eI .i64)))), (5, .tr (.int .i64 (w64 (s3 + 1))))] : List (Nat × SV)) ([] : List (Nat × SO)) (by kernel_rfl) (by kernel_rfl)))
      · replace h := cond_f hb h
        refine swp_exit ?_
        replace h := Option.some.inj h
        subst h
        exact nx_e (q_re (q_bh (q_l ((Le.sub' ([] : List (Nat × SV)) ([] : List (Nat × SO)) (by kernel_rfl) (by kernel_rfl)).trans (Le.sub' ([] : List (Nat × SV)) ([] : List (Nat × SO)) (by kernel_rfl) (by kernel_rfl))))))
    · refine swp_seq ?_
      refine swp_reg ?_
      refine SRun.chunk tbok 1 (σ' := ⟨26, [(4, .tr (.bool true))], []⟩) (by kernel_rfl) ?_
      refine SRun.nil ?_
      refine nx_n ?_
      refine swp_ret ?_
      replace h := Option.some.inj h
      subst h
      exact q_fr (fin1 (by kernel_rfl) (finV rfl (by simp [SV.Flat, SV.Flat.FlatL, Tr.flat]) (holds_t (by kernel_rfl))))
theorem ents36 : Ents Try.prog 36 := ents_of Try.func36 (by kernel_rfl) rfl
end Go.Proofs.Ytnnpmbcamnnfgaa.Sh
