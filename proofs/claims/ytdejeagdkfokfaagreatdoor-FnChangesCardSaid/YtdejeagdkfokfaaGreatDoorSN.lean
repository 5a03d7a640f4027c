/- A literal of a struct with an empty slice of its own; no condition. -/
import Derived.Test.YtdejeagdkfokfaaGreatDoorSD
namespace Go.Proofs.YtdejeagdkfokfaaGreatDoor.Sh
open Go.RowKit
section
variable {P : Program} {tb : Tb} {c : Cx} {S : Nat → Prop} {β : Nat → Value} {σ : SS} {a : Act} {w : World} {ops : Array Oper} {o : Oper}
def xn:Operand→Bool
 | .const (.slice none 0 0)=>true
 | _=>false
def C6(dn:Nat)(σ:SS):List (Nat×Operand)→Option (List (Nat×SV))
 | []=>some []
 | (i,x)::r=>match(bif xn x then some (SV.own dn)else ev σ x),C6 dn σ r with
  | some v,some vs=>some ((i,v)::vs)
  | _,_=>none
theorem yw(hr:Rel c S β σ a w){dn:Nat}(hβ:β dn= .slice none 0 0): ∀{ps:List (Nat×Operand)} {vs:List (Nat×SV)},C6 dn σ ps=some vs→vs.length=ps.length∧ ∀(k:Nat) x y,vs[k]? =some x→(ps.map fun p=>(p.1,a.eval p.2))[k]? =some y→x.1=y.1∧cM w S β x.2 y.2
 | [],vs,h=>by injection h with h;subst h;simp
 | (i,x)::r,vs,h=>by
  unfold C6 at h
  split at h
  ·rename_i v vs' hv hvs
   injection h with h
   subst h
   obtain⟨h1,h2⟩:=yw hr hβ hvs
   refine⟨by simp[h1],fun k p q hp hq=> ?_⟩
   cases k with
   | zero=>
    simp at hp hq
    subst hp hq
    refine⟨rfl,?_⟩
    cases hx:xn x
    ·rw[hx]at hv
     exact bH hr hv
    ·rw[hx]at hv
     injection hv with hv
     subst hv
     have e:a.eval x= .slice none 0 0:=by
      unfold xn at hx
      split at hx
      ·rfl
      ·cases hx
     show cM w S β (.own dn) (a.eval x)
     rw[e,←hβ]
     exact .own dn
   | succ k=>exact h2 k p q (by simpa using hp) (by simpa using hq)
  ·cases h
def ve(tb:Tb)(t:Nat)(vs:List (Nat×SV)):Option SV:=match find t tb with
 | some i=>match ij i.zero with
  | some _=>match i.d with
   | .struct fs=>match nU tb fs with
    | some pl=>(r6 pl (i.zero.map .tr) vs).map .agg
    | none=>none
   | _=>none
  | none=>none
 | none=>none
theorem xL(hP:ba P tb)(hone: ∀d,(β d).cells= #[β d]){t:Nat}{ps:Array (Nat×Operand)}(ho:o.op= .build t ps){vs:List (Nat×SV)}(g9:vs.length=ps.toList.length)(g10: ∀(k:Nat) x y,vs[k]? =some x→(ps.toList.map fun p=>(p.1,a.eval p.2))[k]? =some y→x.1=y.1∧cM w S β x.2 y.2){v:SV}(h:ve tb t vs=some v):VOk P S β a w o v:=by
 unfold ve at h
 split at h
 ·rename_i i hi
  split at h
  ·rename_i zs hz
   obtain⟨q,g1,g2,g3,g4⟩:=(br hP hi).nn
   obtain⟨z,g5,g6⟩:=g4 zs hz
   obtain⟨g7,g8⟩:=lk (w:=w) (S:=S) hz
   have hzl:(i.zero.map SV.tr).length=z.cells.size:=by rw[List.length_map,g7,←g6,Array.length_toList]
   have hzc: ∀(j:Nat) x y,(i.zero.map SV.tr)[j]? =some x→z.cells[j]? =some y→cM w S β x y:=by
    intro j x y hx hy
    rw[List.getElem?_map,Option.map_eq_some_iff]at hx
    obtain⟨t,ht,rfl⟩:=hx
    exact .tr _ _ (g8 j t y ht (by rw[←g6];simpa using hy))
   split at h
   ·rename_i fs hd
    split at h
    ·rename_i pl hpl
     obtain⟨f,hu,hm⟩:=(br hP hi).struct hd
     have hpm:=nV hP (f:=f.toList) (by rw[hm];exact hpl)
     rw[Option.map_eq_some_iff]at h
     obtain⟨out,hf,rfl⟩:=h
     obtain⟨r,h1,h2,h3⟩:=uE (w:=w) (S:=S) hone (place:=(pl.toArray[·]?)) (fun i p hp=>by simpa using hp) (us:=(ps.map fun p=>(p.1,a.eval p.2)).toList) hf (by simpa using g9) (fun k x y hx hy=>g10 k x y hx (by simpa using hy)) hzl hzc
     have hrun:=run_build (P:=P) w t _ r (by
      unfold Program.built
      simp only[g1,hu,g5,hpm]
      exact h1)
     exact .mk (s:=Instr.build t (ps.map fun p=>(p.1,a.eval p.2))) (by simp only[execOp,ho]) hrun (.agg out r h2 h3)
    ·cases h
   ·cases h
  ·cases h
 ·cases h
theorem ra(hP:ba P tb){t:Nat}{ps:Array (Nat×Operand)}(ho:o.op= .build t ps){ν:SS}(hgd:gd ops ν o=some true){d:Nat}(hdst:o.dst=some d)(hd:decide (d<ν.n)=true){e m:Nat}{v:SV}(h:(C6 d ν ps.toList).bind (ve tb t)=some v):cC P ops o ν (some (v,some (.arr e m 0 []))):=by
 intro σ c a w hs hf ⟨S,β,hr⟩
 have hd:d<σ.n:=by rw[←hs.n];exact of_decide_eq_true hd
 have hν:=hs.rel hr
 have hfd:d∉σ.names:=hf d hdst
 have hnew:=Rel.new hr hfd hd (v:= .slice none 0 0) rfl (x:= .arr e m 0 []) (.arr _ _ 0 [] _ [] rfl (World.ownsRow_nil _ _ _ _) (by simp) (by simp)) fun g hg=>by simp[SO.bm,cJ]at hg
 have hsub:Sub ν {σ with o:=(d,.arr e m 0 [])::σ.o}:=⟨hs.n,hs.t,fun x hx=>List.mem_cons_of_mem _ (hs.o x hx)⟩
 have hν':=hsub.rel hnew
 unfold iR
 rw[l4 hν hgd,if_pos rfl]
 obtain⟨vs,h1,h2⟩:=Option.bind_eq_some_iff.1 h
 obtain⟨g9,g10⟩:=yw hν' (bP ..) h1
 obtain⟨u,k1,k2⟩:=xL hP hν'.one ho g9 g10 h2
 refine iF k1 ⟨S,gv β d (.slice none 0 0),?_⟩
 rw[hdst]
 exact Rel.put hnew hd k2
theorem Le.BX{d j k:Nat}{cs:List SV}(hf:find d σ.o=some (.box cs))(hj:cs[j]? =some (.own k)):Le σ {σ with o:=(d,.box (cs.set j .any))::σ.o.filter (fun p=>p.1 !=d)}:=by
 intro c a w ⟨S,β,hr⟩
 have hm:=a8 hf
 have ho:=hr.obj d _ hm
 generalize hb:β d=b at ho
 cases ho with
 | box cs g vs T hg hl h=>
  have hnew:cP w S β (.box (cs.set j .any)) (.pointer (some ⟨g,0,none⟩)):= .box _ g vs T hg (by rw[List.length_set];exact hl) fun i x v hx hv=>by
   by_cases hij:j=i
   ·subst hij
    rw[List.getElem?_set_self (List.getElem?_eq_some_iff.1 hj).1]at hx
    injection hx with hx
    subst hx
    have:=h j _ v hj hv
    cases this with
    | own k=>exact .any _ (hr.one k)
   ·rw[List.getElem?_set_ne hij]at hx
    exact h i x v hx hv
  exact hr.view hm (by rw[hb];exact hnew) fun g' hg'=>hg'
end
end Go.Proofs.YtdejeagdkfokfaaGreatDoor.Sh
