/- Places: IsPlace, IsRegister, findPlace of both; bounds on lengths alone. -/
import Derived.Test.YtdejeagdkfokfaaGreatDoorMPL3
import Derived.Test.YtdejeagdkfokfaaGreatDoorMLC0
namespace Go.Proofs.YtdejeagdkfokfaaGreatDoor.Sh
open Go.RowKit Go.Lib
structure PlR (p:Place):Prop where
 c:p.Code.size≤1048576
 l:p.Names.length≤1048576
 n: ∀x∈p.Names,NmR x
def mR(p:Place)(n:Name):Bool:=decide (p.Years.From≤n.Years.From)&&decide (n.Years.To≤p.Years.To)
def kr(p:Place):Bool:=cG p.Code&&(dD p.Class 0 19&&(nk p.Years&&(ia p.Names&&p.Names.all (mR p))))
theorem uc{p:Place}(h:PlR p):iD p=some (kr p):=by
 have hc:=h.c
 have hl:=h.l
 unfold iD bS b9 iE eA kr
 rw[kE _ (by unfold maxLen;omega),dd,mo,ng hl h.n,iQ (by omega) (fun n=> !mR p n) (fun i x hx=>by
  rw[bk,hx,Option.bind_some]
  unfold mR
  cases decide (p.Years.From≤x.Years.From)<;>cases decide (x.Years.To≤p.Years.To)<;>rfl)]
 simp only[Option.bind_some,iA,←List.not_all_eq_any_not,Bool.not_not]
 cases cG p.Code<;>cases dD p.Class 0 19<;>cases nk p.Years<;>cases ia p.Names<;>rfl
theorem uF{p:Place}(h:PlR p):iU p=some (kr p):=by
 have hc:=h.c
 have hl:=h.l
 unfold iU kr
 rw[eX _ (by unfold maxLen;omega),eb,mz,nn hl h.n,kq (by omega) (fun n=> !mR p n) false (fun i x hx=>by
  simp only[bk,hx,Option.bind_some]
  unfold mR
  by_cases h1:x.Years.From<p.Years.From
  ·rw[decide_eq_true h1,decide_eq_false (show ¬p.Years.From≤x.Years.From by omega)]
   rfl
  ·rw[decide_eq_false h1,decide_eq_true (show p.Years.From≤x.Years.From by omega)]
   by_cases h2:x.Years.To>p.Years.To
   ·rw[decide_eq_true h2,decide_eq_false (show ¬x.Years.To≤p.Years.To by omega)]
    rfl
   ·rw[decide_eq_false h2,decide_eq_true (show x.Years.To≤p.Years.To by omega)]
    rfl),←List.not_all_eq_any_not]
 cases cG p.Code<;>cases dD p.Class 0 19<;>cases nk p.Years<;>cases ia p.Names<;>cases p.Names.all (mR p)<;>rfl
def nt(L:List Place)(i:Nat)(p:Place):Bool:= !kr p || (decide (0<i)&&match L[i - 1]? with | some q=> !gH q.Code p.Code | none=>false)
def jT(L:List Place):Bool:= !(cb (nt L) (fun _ _=>()) L 0).isSome&&decide (L.length≤10)
theorem vP{L:List Place}(hL:L.length≤1048576){i:Nat}{x:Place}(hx:L[i]? =some x)(h0:0<i): ∃q,L[i - 1]? =some q∧at' L (aO ((i:Int)- 1))=some q:=by
 have hi:i<L.length:=(List.getElem?_eq_some_iff.1 hx).1
 have hq:L[i - 1]? =some (L[i - 1]'(by omega)):=List.getElem?_eq_getElem _
 refine⟨_,hq,?_⟩
 rw[bq (by omega) (by omega),show(i:Int)- 1=((i - 1:Nat):Int) by omega,bk,hq]
theorem wW{L:List Place}(hL:L.length≤1048576)(h: ∀x∈L,PlR x):fh L=some (jT L):=by
 unfold fh jT
 rw[fb (by omega) (nt L) (fun _ _=>false) (fun i x hx=>by
  rw[bk,hx,Option.bind_some,uc (h x (List.mem_of_getElem? hx)),Option.bind_some]
  unfold nt
  cases kr x
  ·rfl
  by_cases h0:0<i
  ·obtain⟨q,h1,h2⟩:=vP hL hx h0
   rw[decide_eq_true h0,decide_eq_true (show(i:Int)>0 by omega),h1,h2]
   show((some (!gH q.Code x.Code)).bind _)=(bif(!true || (true&& !gH q.Code x.Code))then _ else _)
   cases gH q.Code x.Code<;>rfl
  ·rw[decide_eq_false h0,decide_eq_false (show ¬(i:Int)>0 by omega)]
   rfl),eZ]
 rw[show(10:Int)=((10:Nat):Int)from rfl,ru]
 cases (cb (nt L) (fun _ _=>()) L 0).isSome<;>rfl
theorem rP{L:List Place}(hL:L.length≤1048576)(h: ∀x∈L,PlR x):dX L=some (jT L):=by
 unfold dX jT
 rw[fb (by omega) (nt L) (fun _ _=>false) (fun i x hx=>by
  simp only[bk,hx,Option.bind_some,uF (h x (List.mem_of_getElem? hx))]
  unfold nt
  cases kr x
  ·rfl
  by_cases h0:0<i
  ·obtain⟨q,h1,h2⟩:=vP hL hx h0
   rw[decide_eq_true h0,decide_eq_true (show(i:Int)>0 by omega),h1,h2]
   show((some (!gH q.Code x.Code)).bind _)=(bif(!true || (true&& !gH q.Code x.Code))then _ else _)
   cases gH q.Code x.Code<;>rfl
  ·rw[decide_eq_false h0,decide_eq_false (show ¬(i:Int)>0 by omega)]
   rfl),eZ]
 rw[show(10:Int)=((10:Nat):Int)from rfl,ru]
 cases (cb (nt L) (fun _ _=>()) L 0).isSome<;>rfl
def yf(L:List Place):Prop:= ∀(i j:Nat) x y,i<j→L[i]? =some x→L[j]? =some y→gH x.Code y.Code=true
theorem oD{L:List Place}:jT L=true↔yf L∧(∀x∈L,kr x=true)∧L.length≤10:=by
 have hno:jT L=true↔(∀i x,L[i]? =some x→nt L i x=false)∧L.length≤10:=by
  unfold jT
  rw[Bool.and_eq_true,Bool.not_eq_true',decide_eq_true_eq]
  refine and_congr_left fun _=>⟨fun h i x hx=> ?_,fun h=> ?_⟩
  ·have:=oZ h i x hx
   rwa [Nat.zero_add]at this
  ·cases hf:(cb (nt L) (fun _ _=>()) L 0).isSome with
   | false=>rfl
   | true=>
    have key: ∀(M:List Place) (k:Nat),(cb (nt L) (fun _ _=>()) M k).isSome=true→ ∃i x,M[i]? =some x∧nt L (k+i) x=true:=by
     intro M
     induction M with
     | nil=>intro k h;cases h
     | cons y M ih=>
      intro k h
      unfold cb at h
      cases hb:nt L k y
      ·rw[hb,cond_false]at h
       obtain⟨i,x,h1,h2⟩:=ih (k+1) h
       exact⟨i+1,x,by simpa using h1,by rw[show k+(i+1)=k+1+i by omega];exact h2⟩
      ·exact⟨0,y,rfl,hb⟩
    obtain⟨i,x,h1,h2⟩:=key L 0 hf
    rw[Nat.zero_add,h i x h1]at h2
    cases h2
 rw[hno]
 constructor
 ·rintro⟨h,hl⟩
  have hstep: ∀(i:Nat) x y,L[i]? =some x→L[i+1]? =some y→gH x.Code y.Code=true:=by
   intro i x y hx hy
   have:=h (i+1) y hy
   unfold nt at this
   rw[Bool.or_eq_false_iff]at this
   have h3:=this.2
   rw[decide_eq_true (by omega:0<i+1),Bool.true_and,show i+1 - 1=i by omega,hx]at h3
   simpa using h3
  refine⟨?_,fun x hx=> ?_,hl⟩
  ·intro i j x y hij hx hy
   obtain⟨d,rfl⟩: ∃d,j=i+1+d:=⟨j - i - 1,by omega⟩
   induction d generalizing y with
   | zero=>exact hstep i x y hx hy
   | succ d ih=>
    have hlt:i+1+d<L.length:=by
     have:=(List.getElem?_eq_some_iff.1 hy).1
     omega
    have hz:L[i+1+d]? =some (L[i+1+d]'hlt):=List.getElem?_eq_getElem _
    exact sW (ih (L[i+1+d]'hlt) (by omega) hz) (hstep (i+1+d) _ y hz hy)
  ·obtain⟨i,hi⟩:=List.mem_iff_getElem?.1 hx
   have:=h i x hi
   unfold nt at this
   rw[Bool.or_eq_false_iff]at this
   simpa using this.1
 ·rintro⟨hs,hp,hl⟩
  refine⟨fun i x hx=> ?_,hl⟩
  unfold nt
  rw[hp x (List.mem_of_getElem? hx),Bool.not_true,Bool.false_or]
  by_cases h0:0<i
  ·have hi:i<L.length:=(List.getElem?_eq_some_iff.1 hx).1
   have hq:L[i - 1]? =some (L[i - 1]'(by omega)):=List.getElem?_eq_getElem _
   rw[decide_eq_true h0,hq]
   have:=hs (i - 1) i _ x (by omega) hq hx
   simp[this]
  ·rw[decide_eq_false h0,Bool.false_and]
def bU(c:ByteArray)(p:Place):Bool:=p.Code.toList==c.toList
theorem lD{L:List Place}(hL:L.length≤1048576)(c:ByteArray):ca L c=some (cB (bU c) L):=by
 unfold ca
 exact iQ (by omega) (bU c) (fun i x hx=>by rw[bk,hx];rfl)
theorem rc{L:List Place}(hL:L.length≤10)(hs:yf L)(c:ByteArray): ∃k:Nat,cg L c=some ((k:Int),L.any (bU c))∧k≤L.length∧(∀(i:Nat) x,i<k→L[i]? =some x→gH x.Code c=true)∧(∀(i:Nat) x,k≤i→L[i]? =some x→gH x.Code c=false)∧(L.any (bU c)=true→cB (bU c) L=k∧k<L.length):=by
 have hmono: ∀(i j:Nat) (x y:Place),i≤j→L[i]? =some x→L[j]? =some y→gH y.Code c=true→gH x.Code c=true:=by
  intro i j x y hij hx hy h
  rcases Nat.lt_or_eq_of_le hij with hlt | rfl
  ·exact sW (hs i j x y hlt hx hy) h
  ·rw[hx]at hy
   injection hy with hy
   rw[hy]
   exact h
 have hcmp: ∀x:Place,∃r,c9 x c=some r∧decide (r<0)=gH x.Code c∧(r==0)=bU c x:=by
  intro x
  obtain⟨r,h1,h2,h3⟩:=wE x.Code c
  exact⟨r,by unfold c9;rw[h1];rfl,h2,h3⟩
 have hloop:=DX (L:=L) (by omega) (fun x=>gH x.Code c) hmono (B:=fun(s3:Int×Int)=>(bif(decide (s3.1<s3.2))then((at' L (aO (Int.fdiv (IntKind.wrap .u64 (aO (s3.1+s3.2))) (2^1)))).bind fun x5=>((c9 x5 c).bind fun x6=>(bif(decide (x6<0))then some (.inl ((aO ((aO (Int.fdiv (IntKind.wrap .u64 (aO (s3.1+s3.2))) (2^1)))+1)),s3.2))else some (.inl (s3.1,(aO (Int.fdiv (IntKind.wrap .u64 (aO (s3.1+s3.2))) (2^1))))))))else some (.inr s3.1)))
  (fun lo hi x hlt hhi hx=>by
   simp only[Dp (show lo+hi≤1000000000 by omega),bk,hx,Option.bind_some,decide_eq_true (show(lo:Int)<hi by omega),cond_true]
   obtain⟨r,h1,h2,_⟩:=hcmp x
   rw[h1,Option.bind_some,h2,bq (by omega) (by omega)]
   cases gH x.Code c
   ·rfl
   ·simp only[cond_true]
    congr 3)
  (fun lo=>by simp only[decide_eq_false (show ¬(lo:Int)<lo by omega),cond_false])
 obtain⟨k,h1,h2,h3,h4⟩:=hloop
 refine⟨k,?_,h2,h3,h4,fun ha=> ?_⟩
 ·unfold cg bB
  rw[h1,Option.bind_some]
  by_cases hk:k<L.length
  ·have hx:L[k]? =some (L[k]'hk):=List.getElem?_eq_getElem _
   generalize L[k]'hk=x at hx
   obtain⟨r,e1,_,e3⟩:=hcmp x
   rw[decide_eq_true (show(k:Int)<L.length by omega),cond_true,bk,hx,Option.bind_some,e1,Option.bind_some,e3]
   have:L.any (bU c)=bU c x:=by
    rw[Bool.eq_iff_iff,List.any_eq_true]
    refine⟨fun⟨y,hy,hcy⟩=> ?_,fun h=>⟨x,List.mem_of_getElem? hx,h⟩⟩
    obtain⟨i,hi⟩:=List.mem_iff_getElem?.1 hy
    have hyc:y.Code=c:=nV.1 hcy
    rcases Nat.lt_trichotomy i k with h | h | h
    ·have:=h3 i y h hi
     rw[hyc,nI]at this
     cases this
    ·subst h
     rw[hx]at hi
     injection hi with hi
     rw[hi]
     exact hcy
    ·have h5:=hs k i x y h hx hi
     rw[hyc]at h5
     have:=h4 k x (Nat.le_refl _) hx
     rw[h5]at this
     cases this
   rw[this]
   rfl
  ·rw[decide_eq_false (show ¬(k:Int)<L.length by omega)]
   have:L.any (bU c)=false:=by
    rw[Bool.eq_false_iff]
    intro h
    obtain⟨y,hy,hcy⟩:=List.any_eq_true.1 h
    obtain⟨i,hi⟩:=List.mem_iff_getElem?.1 hy
    have:=h3 i y (by have:=(List.getElem?_eq_some_iff.1 hi).1;omega) hi
    rw[show y.Code=c from nV.1 hcy,nI]at this
    cases this
   rw[this]
   rfl
 ·obtain⟨y,hy,hcy⟩:=List.any_eq_true.1 ha
  have hge:=(iA (bU c) L).trans ha
  have hge:cB (bU c) L≥0:=of_decide_eq_true hge
  have hlt:=(lF (bU c) L).2
  obtain⟨m,hm⟩: ∃m:Nat,cB (bU c) L=m:=⟨_,(Int.toNat_of_nonneg hge).symm⟩
  obtain⟨x,hx,hcx⟩:=rl (bU c) hm
  have hxc:x.Code=c:=nV.1 hcx
  have:m=k:=by
   rcases Nat.lt_trichotomy m k with h | h | h
   ·have:=h3 m x h hx
    rw[hxc,nI]at this
    cases this
   ·exact h
   ·have hz:L[k]? =some (L[k]'(by omega)):=List.getElem?_eq_getElem _
    have h5:=hs k m _ x h hz hx
    rw[hxc]at h5
    have:=h4 k _ (Nat.le_refl _) hz
    rw[h5]at this
    cases this
  rw[hm,this]
  exact⟨rfl,by omega⟩
end Go.Proofs.YtdejeagdkfokfaaGreatDoor.Sh
