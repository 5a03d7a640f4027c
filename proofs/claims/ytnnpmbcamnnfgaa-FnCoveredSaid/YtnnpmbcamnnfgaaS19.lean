/- The steps that want a fact, for typed lists. -/
import Derived.Test.YtnnpmbcamnnfgaaS18
namespace Go.Proofs.Ytnnpmbcamnnfgaa.Sh
open Go.RowKit
section
variable {P : Program} {tb : Tb} {ops : Array Oper} {o : Oper} {ν σ : SS} {α : Type} {f : α → List Tr}
theorem t_index {L : List α} {i : Int} {x : α} (hP : TbOk P tb) {t : Nat} {p q : Operand} (ho : o.op = .indexAddr t p q) (hgd : gd ops ν o = some true) (hok : okd ν o = true) {e : Nat} {k : IntKind} {ti tj : TI}
    (ht : find t tb = some ti) (hd : ti.d = .slice e) (he : find e tb = some tj) (hx : ev ν p = some (.tr (.sl L.length (L.map f)))) (hy : ev ν q = some (.tr (.int k i))) (h : at' L i = some x) (hl : (f x).length = tj.size) :
    LStep P ops o ν (some (.ptr ((f x).map .tr) 0, none)) := lstep_index hP ho hgd hok ht hd he hx hy (at_some h).1 (map_get f (at_some h).2) hl
theorem t_index_own {L : List α} {i : Int} {x : α} (hP : TbOk P tb) {t : Nat} {p q : Operand} (ho : o.op = .indexAddr t p q) (hgd : gd ops ν o = some true) (hok : okd ν o = true) {e e' d m : Nat} {k : IntKind} {ti tj : TI}
    (ht : find t tb = some ti) (hd : ti.d = .slice e) (he : find e tb = some tj) (hx : ev ν p = some (.own d)) (hob : find d ν.o = some (.arr e' m L.length (L.map f))) (hy : ev ν q = some (.tr (.int k i))) (h : at' L i = some x) (hl : m = tj.size) :
    LStep P ops o ν (some (.eref d m i.toNat 0, none)) := lstep_index_own hP ho hgd hok ht hd he hx hob hy (at_some h).1 (by
      have h1 := at_some h
      have h2 := (List.getElem?_eq_some_iff.1 h1.2).1
      omega) hl
theorem t_load_own {L : List α} {i : Int} {x : α} (hP : TbOk P tb) {t : Nat} {p : Operand} (ho : o.op = .load t p) (hgd : gd ops ν o = some true) (hok : okd ν o = true) {e d m j : Nat} {ti : TI} {v : SV}
    (ht : find t tb = some ti) (hx : ev ν p = some (.eref d m i.toNat j)) (hob : find d ν.o = some (.arr e m L.length (L.map f))) (h : at' L i = some x) (hl : ldc ti ((f x).map .tr) j = some v) : LStep P ops o ν (some (v, none)) :=
  lstep_load_own hP ho hgd hok ht hx hob (map_get f (at_some h).2) hl
theorem t_store_own {L : List α} {i : Int} {z x : α} (hP : TbOk P tb) {t : Nat} {p q : Operand} (ho : o.op = .store t p q) (hdst : o.dst = none) (hgd : gd ops σ o = some true) {ti : TI} {d e m j : Nat} {ts : List Tr} {v : SV} {vs : List SV} (ht : find t tb = some ti) (hx : ev σ p = some (.eref d m i.toNat j)) (hob : find d σ.o = some (.arr e m L.length (L.map f)))
    (hy : ev σ q = some v) (hc : v.cells = some vs) (hts : trs vs = some ts) (hl : ts.length = ti.size) (h : at' L i = some z) (hk : Nat.ble (j + ts.length) (f z).length = true) (hes : (f z).take j ++ ts ++ (f z).drop (j + ts.length) = f x) :
    EStep P ops o σ { σ with o := (d, .arr e m (L.set i.toNat x).length ((L.set i.toNat x).map f)) :: σ.o.filter (fun p => p.1 != d) } := by
  rw [List.length_set]
  refine estep_store_own hP ho hdst hgd ht hx hob hy hc hts hl (map_get f (at_some h).2) (by simpa using hk) ?_
  rw [hes, List.map_set]
theorem t_append {L M R : List α} (h : app' L M = some R) (hP : TbOk P tb) {p q : Operand} {t : Nat} {args : Array Operand} {ts : Array TypeId} (ho : o.op = .call { callee := .builtin .append, args := args, argTypes := ts }) (hargs : args = #[p, q]) (hts : ts = #[t, t]) {d0 : Nat} (hdst : o.dst = some d0) (hd0 : Nat.blt d0 σ.n = true) (hgd : gd ops σ o = some true)
    {ti tj : TI} {zs : List Value} {e m d : Nat} {xv : SV} (ht : find t tb = some ti) (hti : ti.d = .slice e) (he : find e tb = some tj) (hz : zvals tj.zero = some zs) (hzl : tj.zero.length = tj.size) (hpos : Nat.blt 0 tj.size = true) (hm : m = tj.size) (hby : Nat.ble tj.bytes 2048 = true)
    (hs : ev σ p = some (.own d)) (hdn : Nat.blt d σ.n = true) (hob : find d σ.o = some (.arr e m L.length (L.map f))) (hx : ev σ q = some xv) (hsrc : srcS σ m xv M.length (M.map f)) (hf : (σ.kill d).names.contains d0 = false) :
    EStep P ops o σ ((σ.kill d).add d0 (.own d0) (.arr e m R.length (R.map f))) := by
  obtain ⟨h1, rfl⟩ := app_some h
  rw [List.length_append, List.map_append]
  exact estep_append hP ho hargs hts hdst (by simpa using hd0) hgd ht hti he hz hzl (by simpa using hpos) hm (by simpa using hby) hs (by simpa using hdn) hob hx hsrc h1 rfl (by simpa using hf)
theorem src_o {m d e k : Nat} {es : List (List Tr)} (h : find d σ.o = some (.arr e m k es)) : srcS σ m (.own d) k es := ⟨e, h⟩
theorem src_e {M : List α} {m : Nat} (hm : ∀ x, (f x).length = m) : srcS σ m (.tr (.sl M.length (M.map f))) M.length (M.map f) := ⟨rfl, fun e he => by
  obtain ⟨x, _, rfl⟩ := List.mem_map.1 he
  exact hm x⟩
theorem t_slice {m : Nat} {L R : List α} {l h : Int} (hp : part' L l h = some R) (hm : ∀ x, (f x).length = m) (hP : TbOk P tb) {t : Nat} {p : Operand} {lo hi : Option Operand} (ho : o.op = .slice t p lo hi none) (hgd : gd ops ν o = some true) (hok : okd ν o = true) {e : Nat} {ti tj : TI}
    (ht : find t tb = some ti) (hd : ti.d = .slice e) (he : find e tb = some tj) (hsz : m = tj.size) (hx : ev ν p = some (.tr (.sl L.length (L.map f)))) (hlo : lowOf ν lo = some l) (hhi : highOf ν L.length hi = some h) : LStep P ops o ν (some (.tr (.sl R.length (R.map f)), none)) := by
  obtain ⟨h1, h2, h3, rfl⟩ := part_some hp
  refine lstep_slice hP ho hgd hok ht hd he hx hlo hhi h1 h2 h3 (by rw [List.map_take, List.map_drop]) (fun e he => ?_) (by rw [List.length_take, List.length_drop]; omega)
  obtain ⟨x, _, rfl⟩ := List.mem_map.1 he
  rw [hm, hsz]
theorem t_sub {s r : ByteArray} {l h : Int} (hp : sub' s l h = some r) (hP : TbOk P tb) {t : Nat} {p : Operand} {lo hi : Option Operand} (ho : o.op = .slice t p lo hi none) (hgd : gd ops ν o = some true) (hok : okd ν o = true) {ti : TI}
    (ht : find t tb = some ti) (hd : ti.d = .str) (hx : ev ν p = some (.tr (.str s))) (hlo : lowOf ν lo = some l) (hhi : highOf ν s.size hi = some h) : LStep P ops o ν (some (.tr (.str r), none)) := by
  obtain ⟨h1, h2, h3, rfl⟩ := sub_some hp
  exact lstep_slice_str hP ho hgd hok ht hd hx hlo hhi h1 h2 h3
theorem t_byte {s : ByteArray} {i x : Int} (h : byte' s i = some x) (hP : TbOk P tb) {t : Nat} {p q : Operand} (ho : o.op = .index t p q) (hgd : gd ops ν o = some true) (hok : okd ν o = true) {k : IntKind} {ti : TI}
    (ht : find t tb = some ti) (hd : ti.d = .str) (hx : ev ν p = some (.tr (.str s))) (hy : ev ν q = some (.tr (.int k i))) : LStep P ops o ν (some (.tr (.int .u8 x), none)) := by
  obtain ⟨h1, b, h2, rfl⟩ := byte_some h
  exact lstep_index_str hP ho hgd hok ht hd hx hy h1 h2
theorem t_cat {s r q : ByteArray} (h : cat' s r = some q) {t t' : Nat} {x y : Operand} (ho : o.op = .binOp .add t x y t') (hgd : gd ops ν o = some true) (hok : okd ν o = true) (hx : ev ν x = some (.tr (.str s))) (hy : ev ν y = some (.tr (.str r))) : LStep P ops o ν (some (.tr (.str q), none)) := by
  obtain ⟨h1, rfl⟩ := cat_some h
  exact lstep_concat ho hgd hok hx hy h1
theorem t_make {m : Nat} {z : α} {n : Int} {R : List α} (h : make' z n = some R) (hP : TbOk P tb) {t : Nat} {x y : Operand} {d : Nat} (ho : o.op = .makeSlice t x y) (hdst : o.dst = some d) (hgd : gd ops ν o = some true) (hok : okd ν o = true) {e : Nat} {k k' : IntKind} {ti tj : TI} {zs : List Value}
    (ht : find t tb = some ti) (hd : ti.d = .slice e) (he : find e tb = some tj) (hz : zvals tj.zero = some zs) (hzl : tj.zero.length = tj.size) (hpos : Nat.blt 0 tj.size = true) (hx : ev ν x = some (.tr (.int k n))) (hy : ev ν y = some (.tr (.int k' n))) (hby : Nat.ble tj.bytes 2048 = true) (hfz : f z = tj.zero) (hm : m = tj.size) :
    LStep P ops o ν (some (.own d, some (.arr e m R.length (R.map f)))) := by
  unfold make' at h
  split at h
  · rename_i hh
    injection h with h
    subst h
    subst hm
    obtain ⟨n', rfl⟩ := Int.eq_ofNat_of_zero_le hh.1
    have := lstep_make hP ho hdst hgd hok ht hd he hz hzl (by simpa using hpos) hx hy (by omega) (by simpa using hby)
    rw [List.length_replicate, List.map_replicate, hfz]
    exact this
  · cases h
end
end Go.Proofs.Ytnnpmbcamnnfgaa.Sh
