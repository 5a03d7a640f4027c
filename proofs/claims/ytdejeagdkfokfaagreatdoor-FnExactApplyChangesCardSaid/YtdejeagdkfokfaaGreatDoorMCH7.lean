/- Changes: IsChange and the code ahead of a change, of both. -/
import Derived.Test.YtdejeagdkfokfaaGreatDoorMCH6
namespace Go.Proofs.YtdejeagdkfokfaaGreatDoor.Sh
open Go.RowKit Go.Lib
def nJ(x:Change):Bool:=bif(x.Kind==2) || (x.Kind==3)then cG x.Other&& !(x.Other.toList==x.Code.toList)else x.Other.toList==(ByteArray.mk #[]).toList
def wi(x:Change):Bool:=bif x.Kind==0 then jc x.Language&&fe x.Text else(x.Language.toList==(ByteArray.mk #[]).toList)&&(x.Text.toList==(ByteArray.mk #[]).toList)
def gn(x:Change):Bool:=dD x.Year (-2999) 3000&&(dD x.Kind 0 3&&(cG x.Code&&(nJ x&&wi x)))
theorem sz{x:Change}(h:ChR x):gI x=some (gn x):=by
 have h1:=h.c
 have h2:=h.o
 have h3:=h.l
 have h4:=h.t
 unfold gI cw gn
 rw[dd,dd,kE _ (by unfold maxLen;omega),kE _ (by unfold maxLen;omega),o5 _ (by unfold maxLen;omega),kS _ (by omega)]
 simp only[Option.bind_some]
 cases dD x.Year (-2999) 3000
 ·rfl
 cases dD x.Kind 0 3
 ·rfl
 cases cG x.Code
 ·rfl
 have e1:(bif(x.Kind==2) || (x.Kind==3)then(bif cG x.Other then some (!(x.Other.toList==x.Code.toList))else some false)else some (x.Other.toList==(ByteArray.mk #[]).toList))=some (nJ x):=by
  unfold nJ
  cases (x.Kind==2) || (x.Kind==3)<;>cases cG x.Other<;>rfl
 have e2:(bif x.Kind==0 then(bif jc x.Language then some (fe x.Text)else some false)else some ((x.Language.toList==(ByteArray.mk #[]).toList)&&(x.Text.toList==(ByteArray.mk #[]).toList)))=some (wi x):=by
  unfold wi
  cases x.Kind==0<;>cases jc x.Language<;>rfl
 rw[e1,e2]
 rfl
theorem sI{x:Change}(h:ChR x):gQ x=some (gn x):=by
 have h1:=h.c
 have h2:=h.o
 have h3:=h.l
 have h4:=h.t
 unfold gQ gn
 rw[eb,eb,eX _ (by unfold maxLen;omega),eX _ (by unfold maxLen;omega),pA _ (by unfold maxLen;omega),kX _ (by omega)]
 simp only[Option.bind_some]
 cases dD x.Year (-2999) 3000
 ·rfl
 cases dD x.Kind 0 3
 ·rfl
 cases cG x.Code
 ·rfl
 have e1:(bif(x.Kind==2) || (x.Kind==3)then((bif cG x.Other then some (!(x.Other.toList==x.Code.toList))else some false).bind fun(j:Bool)=>some j)else some (x.Other.toList==(ByteArray.mk #[]).toList))=some (nJ x):=by
  unfold nJ
  cases (x.Kind==2) || (x.Kind==3)<;>cases cG x.Other<;>rfl
 rw[e1]
 unfold wi
 cases x.Kind==0<;>cases jc x.Language<;>cases fe x.Text<;>cases (x.Language.toList==(ByteArray.mk #[]).toList)<;>cases (x.Text.toList==(ByteArray.mk #[]).toList)<;>cases nJ x<;>rfl
def mT(x:Change):Bool:=(x.Kind==2) || (x.Kind==3)
theorem jn{x:Change}(h:gn x=true):dD x.Year (-2999) 3000=true∧dD x.Kind 0 3=true∧cG x.Code=true∧(mT x=true→cG x.Other=true∧(x.Other.toList==x.Code.toList)=false)∧(mT x=false→(x.Other.toList==(ByteArray.mk #[]).toList)=true)∧((x.Kind==0)=true→jc x.Language=true∧fe x.Text=true):=by
 unfold gn nJ wi at h
 rw[Bool.and_eq_true,Bool.and_eq_true,Bool.and_eq_true,Bool.and_eq_true]at h
 obtain⟨a1,a2,a3,a4,a5⟩:=h
 refine⟨a1,a2,a3,fun hh=> ?_,fun hh=> ?_,fun hh=> ?_⟩
 ·rw[show((x.Kind==2) || (x.Kind==3))=true from hh,cond_true,Bool.and_eq_true,Bool.not_eq_true']at a4
  exact a4
 ·rw[show((x.Kind==2) || (x.Kind==3))=false from hh,cond_false]at a4
  exact a4
 ·rw[hh,cond_true,Bool.and_eq_true]at a5
  exact a5
theorem yJ{x:Change}(h:gn x=true):(x.Other.toList==(ByteArray.mk #[]).toList)= !mT x:=by
 obtain⟨_,_,_,h4,h5,_⟩:=jn h
 cases hh:mT x
 ·exact h5 hh
 ·exact qS (jh (h4 hh).1).1
noncomputable def chC(W:World)(x:Change):Int:=bif ic W&&gn x then(match W.Places.find? (bU x.Code)with
 | none=>4
 | some p=>bif mT x then(match W.Places.find? (bU x.Other)with
  | none=>4
  | some q=>bif dD (x.Year - 1) p.Years.From p.Years.To&&(dD x.Year p.Years.From p.Years.To&&dD x.Year q.Years.From q.Years.To)then 0 else 5)
  else bif dD (x.Year - 1) p.Years.From p.Years.To&&((x.Kind==1) || dD x.Year p.Years.From p.Years.To)then 0 else 5)else 1
theorem uO{y l h:Int}(hy:dD y l h=true)(h1: -1000000≤l)(h2:h≤1000000):aO (y - 1)=y - 1:=by
 obtain⟨h3,h4⟩:=e8.1 hy
 exact bq (n:=y - 1) (by omega) (by omega)
theorem tZ{x:Change}(h:mT x=true):(x.Kind==1)=false∧(x.Kind !=1)=true:=by
 unfold mT at h
 have:x.Kind=2∨x.Kind=3:=by simpa using h
 rcases this with e | e<;>rw[e]<;>exact⟨rfl,rfl⟩
theorem vr{W:World}{x:Change}(hW:WlR W)(hx:ChR x):dW W x=some (chC W x):=by
 unfold dW chC
 rw[oo hW,sz hx]
 cases hw:ic W
 ·rfl
 cases hc:gn x
 ·rfl
 have hr:jT W.Places=true:=by
  unfold ic at hw
  rw[Bool.and_eq_true]at hw
  exact hw.1
 rw[uO (jn hc).1 (by omega) (by omega)]
 unfold dC cS bN cw
 rw[show((x.Kind==2) || (x.Kind==3))=mT x from rfl]
 rcases eJ hr x.Code with⟨_,h2,⟨k,h3⟩,_⟩ | ⟨k,p,_,h2,_,_,h4,h5,_⟩
 ·rw[h2,h3]
  rfl
 rw[h4,h5]
 simp only[Option.bind_some,cond_true,bk,h2,dd,Bool.not_true,cond_false,Bool.and_self]
 cases ho:mT x
 ·simp only[Option.bind_some,cond_false,Sum.elim_inl]
  rw[show(x.Kind !=1)= !(x.Kind==1)from rfl]
  cases dD (x.Year - 1) p.Years.From p.Years.To<;>cases x.Kind==1<;>cases dD x.Year p.Years.From p.Years.To<;>rfl
 rw[(tZ ho).1,(tZ ho).2]
 rcases eJ hr x.Other with⟨_,h2,⟨k,h3⟩,_⟩ | ⟨k,q,_,h2,_,_,h4,h5,_⟩
 ·rw[h2,h3]
  rfl
 rw[h4,h5]
 simp only[Option.bind_some,cond_true,bk,h2,Bool.not_true,Sum.elim_inl]
 cases dD (x.Year - 1) p.Years.From p.Years.To<;>cases dD x.Year p.Years.From p.Years.To<;>cases dD x.Year q.Years.From q.Years.To<;>rfl
theorem vU{W:World}{x:Change}(hW:WlR W)(hx:ChR x):iY W x=some (chC W x):=by
 unfold iY chC
 rw[oJ hW,sI hx]
 cases hw:ic W
 ·rfl
 cases hc:gn x
 ·rfl
 have hr:jT W.Places=true:=by
  unfold ic at hw
  rw[Bool.and_eq_true]at hw
  exact hw.1
 rw[uO (jn hc).1 (by omega) (by omega),yJ hc,Bool.not_not]
 unfold cZ
 have n1:decide ((-1:Int)<0)=true:=rfl
 have hn: ∀k:Nat,decide ((k:Int)<0)=false:=fun k=>decide_eq_false (by omega)
 rcases eJ hr x.Code with⟨_,h2,_,h3⟩ | ⟨k,p,_,h2,_,_,h4,_,h5⟩
 ·rw[h2,h3]
  rcases eJ hr x.Other with⟨_,_,_,k3⟩ | ⟨_,_,_,_,_,_,_,_,k3⟩<;>rw[k3]<;>rfl
 rw[h4,h5]
 simp only[Option.bind_some,cond_true,bk,h2,eb,Bool.not_true,cond_false,Bool.and_self,hn,Bool.false_or]
 cases ho:mT x
 ·rcases eJ hr x.Other with⟨_,_,_,k3⟩ | ⟨_,_,_,_,_,_,_,_,k3⟩<;>rw[k3]<;>simp only[Option.bind_some,cond_false,Bool.false_and]<;>rw[show(x.Kind !=1)= !(x.Kind==1)from rfl]<;>
  cases dD (x.Year - 1) p.Years.From p.Years.To<;>cases x.Kind==1<;>cases dD x.Year p.Years.From p.Years.To<;>rfl
 rw[(tZ ho).2]
 rcases eJ hr x.Other with⟨_,h2,_,h3⟩ | ⟨k,q,_,h2,_,_,h4,_,h5⟩
 ·rw[h2,h3]
  simp only[Option.bind_some,cond_true,n1,Bool.and_self]
 rw[h4,h5]
 simp only[Option.bind_some,cond_true,bk,h2,hn,Bool.and_false,cond_false]
 cases dD (x.Year - 1) p.Years.From p.Years.To<;>cases dD x.Year p.Years.From p.Years.To<;>cases dD x.Year q.Years.From q.Years.To<;>rfl
end Go.Proofs.YtdejeagdkfokfaaGreatDoor.Sh
