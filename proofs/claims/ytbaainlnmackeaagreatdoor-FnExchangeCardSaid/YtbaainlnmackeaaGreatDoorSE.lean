/- Deep objects: inner slices taken out, elements stored, zeros made; no condition. -/
import Derived.Test.YtbaainlnmackeaaGreatDoorSD
namespace Go.Proofs.YtbaainlnmackeaaGreatDoor.Sh
open Go.RowKit
section
variable {P : Program} {tb : Tb} {ops : Array Oper} {o : Oper} {c : Cx} {S : Nat → Prop} {β : Nat → Value} {ν σ : SS} {a : Act} {w : World}
/-- len of a deep slice. -/
theorem lstep_len_deep (hP : TbOk P tb) {x : Operand} {args : Array Operand} {ts : Array TypeId} (ho : o.op = .call { callee := .builtin .len, args := args, argTypes := ts }) {t : Nat} (hargs : args = #[x]) (hts : ts = #[t]) (hgd : gd ops ν o = some true) (hok : okd ν o = true) {d e e' m n : Nat} {ss : List Sh} {es : List (List Tr)} {ti : TI}
    (ht : find t tb = some ti) (hti : ti.d = .slice e') (hx : ev ν x = some (.own d)) (hob : find d ν.o = some (.deep e m n ss es)) : LStep P ops o ν (some (.tr (.int .i64 n), none)) := by
  subst hargs hts
  refine lstep_of_vok hgd hok fun c S β a w hr => ?_
  have hv := ev_ok hr hx
  generalize hy1 : a.eval x = y1 at hv
  have hobj := hr.obj d _ (mem_of_find hob)
  cases hv with
  | own d =>
    cases hobj with
    | deep _ _ _ _ _ _ h =>
      obtain ⟨xs, hrow⟩ := h.row
      refine ⟨.int .i64 n, ?_, .tr _ _ (.int _ _)⟩
      have hu : P.underlying t = some (.slice e') := (find_ti hP ht).slice hti
      obtain ⟨A, cp, hA⟩ : ∃ A cp, β d = .slice A n cp := by
        rcases hrow.hown.2 with ⟨h1, h2⟩ | ⟨g, cap, cur, h1, _⟩
        · exact ⟨none, 0, by rw [h1, h2]⟩
        · exact ⟨_, _, h1⟩
      simp [execOp, ho, resolve, invoke, builtin, hy1, hA, Builtin.len_, run_underlying hu, goInt]
/-- Zero cells, seen as own values of a shape. -/
inductive ZeroD : List Tr → List Sh → Prop
  | nil : ZeroD [] []
  | flat (t : Tr) (ts : List Tr) (ss : List Sh) (h : t.flat = true) (k : ZeroD ts ss) : ZeroD (t :: ts) (.flat :: ss)
  | sl (e m : Nat) (ss' : List Sh) (ts : List Tr) (ss : List Sh) (h : ss'.length = m) (k : ZeroD ts ss) : ZeroD (.sl 0 [] :: ts) (.sl e m ss' :: ss)
theorem ZeroD.ok {ts : List Tr} {ss : List Sh} (h : ZeroD ts ss) {vs : List Value} (hz : zvals ts = some vs) : ts.length = ss.length ∧ ∀ (j : Nat) s t v, ss[j]? = some s → ts[j]? = some t → vs[j]? = some v → (∀ w, DV w s t v) ∧ ∀ w g, ¬ FP w s v g := by
  induction h generalizing vs with
  | nil => exact ⟨rfl, by simp⟩
  | flat t ts ss h k ih =>
    unfold zvals at hz
    split at hz
    · rename_i v vs' hv hvs
      injection hz with hz
      subst hz
      obtain ⟨h1, h2⟩ := ih hvs
      refine ⟨by simp [h1], fun j s t' v' hs ht hv' => ?_⟩
      cases j with
      | zero =>
        simp at hs ht hv'
        subst hs ht hv'
        exact ⟨fun w => .flat _ _ h (zval_ok hv), fun w g hg => by cases hg⟩
      | succ j => exact h2 j s t' v' (by simpa using hs) (by simpa using ht) (by simpa using hv')
    · cases hz
  | sl e m ss' ts ss h k ih =>
    unfold zvals at hz
    split at hz
    · rename_i v vs' hv hvs
      injection hz with hz
      subst hz
      have hv2 : v = .slice none 0 0 := by simpa [Tr.zval] using hv.symm
      subst hv2
      obtain ⟨h1, h2⟩ := ih hvs
      refine ⟨by simp [h1], fun j s t' v' hs ht hv' => ?_⟩
      cases j with
      | zero =>
        simp at hs ht hv'
        subst hs ht hv'
        refine ⟨fun w => (DRow.nil (xs := []) ⟨by simp, .inl ⟨rfl, rfl⟩⟩ h).dv, fun w g hg => ?_⟩
        cases hg with
        | here _ _ _ _ _ hb => cases hb
      | succ j => exact h2 j s t' v' (by simpa using hs) (by simpa using ht) (by simpa using hv')
    · cases hz
end
section
variable {P : Program} {tb : Tb} {ops : Array Oper} {o : Oper} {ν σ : SS} {α : Type} {f : α → List Tr}
theorem cD_arr {d e m n : Nat} {es : List (List Tr)} {ss : List Sh} (hfl : FlatE es) (hf : find d σ.o = some (.arr e m n es) := by kernel_rfl) (hss : ss = List.replicate m .flat := by kernel_rfl) (hn : Nat.blt d σ.n = true := by kernel_rfl) : CellD σ (.sl e m ss) (.own d) (.sl n es) [d] := by
  subst hss
  exact .arr d e m n es hf hfl (by simpa using hn)
theorem x_len_deep (hP : TbOk P tb) {x : Operand} {args : Array Operand} {ts : Array TypeId} (ho : o.op = .call { callee := .builtin .len, args := args, argTypes := ts }) {t : Nat} (hargs : args = #[x]) (hts : ts = #[t]) {d e e' m n : Nat} {ss : List Sh} {es : List (List Tr)} {ti : TI}
    (hgd : gd ops ν o = some true := by kernel_rfl) (hok : okd ν o = true := by kernel_rfl) (ht : find t tb = some ti := by kernel_rfl) (hti : ti.d = .slice e' := by kernel_rfl) (hx : ev ν x = some (.own d) := by kernel_rfl) (hob : find d ν.o = some (.deep e m n ss es) := by kernel_rfl) : LStep P ops o ν (some (.tr (.int .i64 n), none)) := lstep_len_deep hP ho hargs hts hgd hok ht hti hx hob
theorem x_build_deep (hP : TbOk P tb) {t : Nat} {x : Operand} {ps : Array (Nat × Operand)} (ho : o.op = .buildSlice t 1 ps) (hps : ps = #[(0, x)]) {d0 : Nat} (hdst : o.dst = some d0)
    {ti tj : TI} {zs : List Value} {e m : Nat} {v : SV} {cs : List SV} {ss : List Sh} {ts : List Tr} {ds : List Nat} (hC : CellsD σ ss cs ts ds)
    (hd0 : Nat.blt d0 σ.n = true := by kernel_rfl) (hgd : gd ops σ o = some true := by kernel_rfl) (ht : find t tb = some ti := by kernel_rfl) (hti : ti.d = .slice e := by kernel_rfl) (he : find e tb = some tj := by kernel_rfl) (hz : zvals tj.zero = some zs := by kernel_rfl) (hzl : zs.length = tj.size := by kernel_rfl) (hpos : Nat.blt 0 tj.size = true := by kernel_rfl) (hsm : Nat.ble tj.size 16777216 = true := by kernel_rfl) (hm : m = tj.size := by kernel_rfl)
    (hv : ev σ x = some v := by kernel_rfl) (hcs : v.cells = some cs := by kernel_rfl) (hl : ss.length = m := by kernel_rfl) (hf : (σ.kills ds).names.contains d0 = false := by kernel_rfl) :
    EStep P ops o σ ((σ.kills ds).add d0 (.own d0) (.deep e m 1 ss [ts])) :=
  estep_build_deep hP ho hps hdst (by simpa using hd0) hgd ht hti he hz hzl (by simpa using hpos) (by simpa using hsm) hm hv hcs hC hl (by simpa using hf)
theorem x_append_deep {L M R : List α} (h : app' L M = some R) (hP : TbOk P tb) {p q : Operand} {t : Nat} {args : Array Operand} {ts : Array TypeId} (ho : o.op = .call { callee := .builtin .append, args := args, argTypes := ts }) (hargs : args = #[p, q]) (hts : ts = #[t, t]) {d0 : Nat} (hdst : o.dst = some d0)
    {ti tj : TI} {zs : List Value} {e m d dx : Nat} {ss : List Sh}
    (hd0 : Nat.blt d0 σ.n = true := by kernel_rfl) (hgd : gd ops σ o = some true := by kernel_rfl) (ht : find t tb = some ti := by kernel_rfl) (hti : ti.d = .slice e := by kernel_rfl) (he : find e tb = some tj := by kernel_rfl) (hz : zvals tj.zero = some zs := by kernel_rfl) (hzl : tj.zero.length = tj.size := by kernel_rfl) (hpos : Nat.blt 0 tj.size = true := by kernel_rfl) (hm : m = tj.size := by kernel_rfl) (hby : Nat.ble tj.bytes 2048 = true := by kernel_rfl)
    (hs : ev σ p = some (.own d) := by kernel_rfl) (hdn : Nat.blt d σ.n = true := by kernel_rfl) (hob : find d σ.o = some (.deep e m L.length ss (L.map f)) := by kernel_rfl) (hx : ev σ q = some (.own dx) := by kernel_rfl) (hdxn : Nat.blt dx σ.n = true := by kernel_rfl) (hne : (dx != d) = true := by kernel_rfl) (hobx : find dx σ.o = some (.deep e m M.length ss (M.map f)) := by kernel_rfl) (hf : ((σ.kill d).kill dx).names.contains d0 = false := by kernel_rfl) :
    EStep P ops o σ (((σ.kill d).kill dx).add d0 (.own d0) (.deep e m R.length ss (R.map f))) := by
  obtain ⟨h1, rfl⟩ := app_some h
  rw [List.length_append, List.map_append]
  exact estep_append_deep hP ho hargs hts hdst (by simpa using hd0) hgd ht hti he hz hzl (by simpa using hpos) hm (by simpa using hby) hs (by simpa using hdn) hob hx (by simpa using hdxn) (by simpa using hne) hobx h1 rfl (by simpa using hf)
theorem Le.frzD' {σ : SS} {d e m n : Nat} {ss : List Sh} {es : List (List Tr)} (hd : Nat.blt d σ.n = true) (hf : find d σ.o = some (.deep e m n ss es)) : Le σ (σ.frz d n es) := Le.frzD (by simpa using hd) hf
end
section
variable {P : Program} {s : SS}
theorem finD {t : ResultVar} {d e m n : Nat} {ss : List Sh} {es : List (List Tr)} (h : Holds P s (.own d) t) (ho : find d s.o = some (.deep e m n ss es)) (hd : Nat.blt d s.n = true) {dep : Bool} : FinS P s dep t (.deep e m n ss es) := ⟨d, h, mem_of_find ho, by simpa using hd⟩
theorem finP {t : ResultVar} {d e m n : Nat} {es : List (List Tr)} (pre post : List SV) (h : Holds P s (.agg (pre ++ .own d :: post)) t) (ho : find d s.o = some (.arr e m n es)) (hfl : FlatE es) (h1 : SV.names.namesL pre = []) (h2 : SV.names.namesL post = []) (hf1 : SV.Flat.FlatL pre) (hf2 : SV.Flat.FlatL post) (hd : Nat.blt d s.n = true) {dep : Bool} : FinS P s dep t (.part pre post (.arr e m n es)) :=
  ⟨d, h, mem_of_find ho, h1, h2, .inr ⟨hf1, hf2⟩, .inr hfl, by simpa using hd⟩
end
end Go.Proofs.YtbaainlnmackeaaGreatDoor.Sh
