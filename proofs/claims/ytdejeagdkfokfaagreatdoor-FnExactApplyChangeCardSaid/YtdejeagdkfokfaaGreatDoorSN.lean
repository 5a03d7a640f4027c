/- A literal of a struct with an empty slice of its own; no condition. -/
import Derived.Test.YtdejeagdkfokfaaGreatDoorSD
namespace Go.Proofs.YtdejeagdkfokfaaGreatDoor.Sh
open Go.RowKit
section
variable {P : Program} {tb : Tb} {c : Cx} {S : Nat → Prop} {β : Nat → Value} {σ : SS} {a : Act} {w : World} {ops : Array Oper} {o : Oper}
def wj:Operand→Bool
 | .const (.slice none 0 0)=>true
 | _=>false
def Bk(dn:Nat)(σ:SS):List (Nat×Operand)→Option (List (Nat×SV))
 | []=>some []
 | (i,x)::r=>match(bif wj x then some (SV.own dn)else ev σ x),Bk dn σ r with
  | some v,some vs=>some ((i,v)::vs)
  | _,_=>none
theorem xb(hr:Rel c S β σ a w){dn:Nat}(hβ:β dn= .slice none 0 0): ∀{ps:List (Nat×Operand)} {vs:List (Nat×SV)},Bk dn σ ps=some vs→vs.length=ps.length∧ ∀(k:Nat) x y,vs[k]? =some x→(ps.map fun p=>(p.1,a.eval p.2))[k]? =some y→x.1=y.1∧cf w S β x.2 y.2
 | [],vs,h=>by injection h with h;subst h;simp
 | (i,x)::r,vs,h=>by
  unfold Bk at h
  split at h
  ·rename_i v vs' hv hvs
   injection h with h
   subst h
   obtain⟨h1,h2⟩:=xb hr hβ hvs
   refine⟨by simp[h1],fun k p q hp hq=> ?_⟩
   cases k with
   | zero=>
    simp at hp hq
    subst hp hq
    refine⟨rfl,?_⟩
    cases hx:wj x
    ·rw[hx]at hv
     exact bq hr hv
    ·rw[hx]at hv
     injection hv with hv
     subst hv
     have e:a.eval x= .slice none 0 0:=by
      unfold wj at hx
      split at hx
      ·rfl
      ·cases hx
     show cf w S β (.own dn) (a.eval x)
     rw[e,←hβ]
     exact .own dn
   | succ k=>exact h2 k p q (by simpa using hp) (by simpa using hq)
  ·cases h
def tX(tb:Tb)(t:Nat)(vs:List (Nat×SV)):Option SV:=match find t tb with
 | some i=>match eO i.zero with
  | some _=>match i.d with
   | .struct fs=>match mu tb fs with
    | some pl=>(qA pl (i.zero.map .tr) vs).map .agg
    | none=>none
   | _=>none
  | none=>none
 | none=>none
theorem wQ(hP:bf P tb)(hone: ∀d,(β d).cells= #[β d]){t:Nat}{ps:Array (Nat×Operand)}(ho:o.op= .build t ps){vs:List (Nat×SV)}(g9:vs.length=ps.toList.length)(g10: ∀(k:Nat) x y,vs[k]? =some x→(ps.toList.map fun p=>(p.1,a.eval p.2))[k]? =some y→x.1=y.1∧cf w S β x.2 y.2){v:SV}(h:tX tb t vs=some v):VOk P S β a w o v:=by
 unfold tX at h
 split at h
 ·rename_i i hi
  split at h
  ·rename_i zs hz
   obtain⟨q,g1,g2,g3,g4⟩:=(bc hP hi).k7
   obtain⟨z,g5,g6⟩:=g4 zs hz
   obtain⟨g7,g8⟩:=iQ (w:=w) (S:=S) hz
   have hzl:(i.zero.map SV.tr).length=z.cells.size:=by rw[List.length_map,g7,←g6,Array.length_toList]
   have hzc: ∀(j:Nat) x y,(i.zero.map SV.tr)[j]? =some x→z.cells[j]? =some y→cf w S β x y:=by
    intro j x y hx hy
    rw[List.getElem?_map,Option.map_eq_some_iff]at hx
    obtain⟨t,ht,rfl⟩:=hx
    exact .tr _ _ (g8 j t y ht (by rw[←g6];simpa using hy))
   split at h
   ·rename_i fs hd
    split at h
    ·rename_i pl hpl
     obtain⟨f,hu,hm⟩:=(bc hP hi).struct hd
     have hpm:=mv hP (f:=f.toList) (by rw[hm];exact hpl)
     rw[Option.map_eq_some_iff]at h
     obtain⟨out,hf,rfl⟩:=h
     obtain⟨r,h1,h2,h3⟩:=td (w:=w) (S:=S) hone (place:=(pl.toArray[·]?)) (fun i p hp=>by simpa using hp) (us:=(ps.map fun p=>(p.1,a.eval p.2)).toList) hf (by simpa using g9) (fun k x y hx hy=>g10 k x y hx (by simpa using hy)) hzl hzc
     have hrun:=run_build (P:=P) w t _ r (by
      unfold Program.built
      simp only[g1,hu,g5,hpm]
      exact h1)
     exact .mk (s:=Instr.build t (ps.map fun p=>(p.1,a.eval p.2))) (by simp only[execOp,ho]) hrun (.agg out r h2 h3)
    ·cases h
   ·cases h
  ·cases h
 ·cases h
theorem pL(hP:bf P tb){t:Nat}{ps:Array (Nat×Operand)}(ho:o.op= .build t ps){ν:SS}(hgd:gd ops ν o=some true){d:Nat}(hdst:o.dst=some d)(hd:decide (d<ν.n)=true){e m:Nat}{v:SV}(h:(Bk d ν ps.toList).bind (tX tb t)=some v):cb P ops o ν (some (v,some (.arr e m 0 []))):=by
 intro σ c a w hs hf ⟨S,β,hr⟩
 have hd:d<σ.n:=by rw[←hs.n];exact of_decide_eq_true hd
 have hν:=hs.rel hr
 have hfd:d∉σ.names:=hf d hdst
 have hnew:=Rel.new hr hfd hd (v:= .slice none 0 0) rfl (x:= .arr e m 0 []) (.arr _ _ 0 [] _ [] rfl (World.ownsRow_nil _ _ _ _) (by simp) (by simp)) fun g hg=>by simp[SO.ba,cg]at hg
 have hsub:Sub ν {σ with o:=(d,.arr e m 0 [])::σ.o}:=⟨hs.n,hs.t,fun x hx=>List.mem_cons_of_mem _ (hs.o x hx)⟩
 have hν':=hsub.rel hnew
 unfold gP
 rw[kY hν hgd,if_pos rfl]
 obtain⟨vs,h1,h2⟩:=Option.bind_eq_some_iff.1 h
 obtain⟨g9,g10⟩:=xb hν' (bt ..) h1
 obtain⟨u,k1,k2⟩:=wQ hP hν'.one ho g9 g10 h2
 refine fW k1 ⟨S,eV β d (.slice none 0 0),?_⟩
 rw[hdst]
 exact Rel.put hnew hd k2
theorem Le.Ai{d j k:Nat}{cs:List SV}(hf:find d σ.o=some (.box cs))(hj:cs[j]? =some (.own k)):Le σ {σ with o:=(d,.box (cs.set j .any))::σ.o.filter (fun p=>p.1 !=d)}:=by
 intro c a w ⟨S,β,hr⟩
 have hm:=aO hf
 have ho:=hr.obj d _ hm
 generalize hb:β d=b at ho
 cases ho with
 | box cs g vs T hg hl h=>
  have hnew:cn w S β (.box (cs.set j .any)) (.pointer (some ⟨g,0,none⟩)):= .box _ g vs T hg (by rw[List.length_set];exact hl) fun i x v hx hv=>by
   by_cases hij:j=i
   ·subst hij
    rw[List.getElem?_set_self (List.getElem?_eq_some_iff.1 hj).1]at hx
    injection hx with hx
    subst hx
    have:=h j _ v hj hv
    cases this with
    | own k=>exact .any _ (hr.one k)
   ·rw[List.getElem?_set_ne hij]at hx
    exact h i x v hx hv
  exact hr.view hm (by rw[hb];exact hnew) fun g' hg'=>hg'
end
end Go.Proofs.YtdejeagdkfokfaaGreatDoor.Sh
