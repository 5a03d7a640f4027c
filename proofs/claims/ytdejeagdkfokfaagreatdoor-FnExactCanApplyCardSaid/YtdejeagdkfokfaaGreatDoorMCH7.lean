/- Changes: IsChange and the code ahead of a change, of both. -/
import Derived.Test.YtdejeagdkfokfaaGreatDoorMCH6
namespace Go.Proofs.YtdejeagdkfokfaaGreatDoor.Sh
open Go.RowKit Go.Lib
def mC(x:Change):Bool:=bif(x.Kind==2) || (x.Kind==3)then cq x.Other&& !(x.Other.toList==x.Code.toList)else x.Other.toList==(ByteArray.mk #[]).toList
def tV(x:Change):Bool:=bif x.Kind==0 then im x.Language&&eC x.Text else(x.Language.toList==(ByteArray.mk #[]).toList)&&(x.Text.toList==(ByteArray.mk #[]).toList)
def dF(x:Change):Bool:=c6 x.Year (-2999) 3000&&(c6 x.Kind 0 3&&(cq x.Code&&(mC x&&tV x)))
theorem mf{x:Change}(h:ChR x):eU x=some (dF x):=by
 have h1:=h.c
 have h2:=h.o
 have h3:=h.l
 have h4:=h.t
 unfold eU ca dF
 rw[cX,cX,jL _ (by unfold maxLen;omega),jL _ (by unfold maxLen;omega),nM _ (by unfold maxLen;omega),jZ _ (by omega)]
 simp only[Option.bind_some]
 cases c6 x.Year (-2999) 3000
 ·rfl
 cases c6 x.Kind 0 3
 ·rfl
 cases cq x.Code
 ·rfl
 have e1:(bif(x.Kind==2) || (x.Kind==3)then(bif cq x.Other then some (!(x.Other.toList==x.Code.toList))else some false)else some (x.Other.toList==(ByteArray.mk #[]).toList))=some (mC x):=by
  unfold mC
  cases (x.Kind==2) || (x.Kind==3)<;>cases cq x.Other<;>rfl
 have e2:(bif x.Kind==0 then(bif im x.Language then some (eC x.Text)else some false)else some ((x.Language.toList==(ByteArray.mk #[]).toList)&&(x.Text.toList==(ByteArray.mk #[]).toList)))=some (tV x):=by
  unfold tV
  cases x.Kind==0<;>cases im x.Language<;>rfl
 rw[e1,e2]
 rfl
theorem qN{x:Change}(h:ChR x):gg x=some (dF x):=by
 have h1:=h.c
 have h2:=h.o
 have h3:=h.l
 have h4:=h.t
 unfold gg dF
 rw[dJ,dJ,eu _ (by unfold maxLen;omega),eu _ (by unfold maxLen;omega),oj _ (by unfold maxLen;omega),ke _ (by omega)]
 simp only[Option.bind_some]
 cases c6 x.Year (-2999) 3000
 ·rfl
 cases c6 x.Kind 0 3
 ·rfl
 cases cq x.Code
 ·rfl
 have e1:(bif(x.Kind==2) || (x.Kind==3)then((bif cq x.Other then some (!(x.Other.toList==x.Code.toList))else some false).bind fun(j:Bool)=>some j)else some (x.Other.toList==(ByteArray.mk #[]).toList))=some (mC x):=by
  unfold mC
  cases (x.Kind==2) || (x.Kind==3)<;>cases cq x.Other<;>rfl
 rw[e1]
 unfold tV
 cases x.Kind==0<;>cases im x.Language<;>cases eC x.Text<;>cases (x.Language.toList==(ByteArray.mk #[]).toList)<;>cases (x.Text.toList==(ByteArray.mk #[]).toList)<;>cases mC x<;>rfl
def lg(x:Change):Bool:=(x.Kind==2) || (x.Kind==3)
theorem iz{x:Change}(h:dF x=true):c6 x.Year (-2999) 3000=true∧c6 x.Kind 0 3=true∧cq x.Code=true∧(lg x=true→cq x.Other=true∧(x.Other.toList==x.Code.toList)=false)∧(lg x=false→(x.Other.toList==(ByteArray.mk #[]).toList)=true)∧((x.Kind==0)=true→im x.Language=true∧eC x.Text=true):=by
 unfold dF mC tV at h
 rw[Bool.and_eq_true,Bool.and_eq_true,Bool.and_eq_true,Bool.and_eq_true]at h
 obtain⟨a1,a2,a3,a4,a5⟩:=h
 refine⟨a1,a2,a3,fun hh=> ?_,fun hh=> ?_,fun hh=> ?_⟩
 ·rw[show((x.Kind==2) || (x.Kind==3))=true from hh,cond_true,Bool.and_eq_true,Bool.not_eq_true']at a4
  exact a4
 ·rw[show((x.Kind==2) || (x.Kind==3))=false from hh,cond_false]at a4
  exact a4
 ·rw[hh,cond_true,Bool.and_eq_true]at a5
  exact a5
theorem wC{x:Change}(h:dF x=true):(x.Other.toList==(ByteArray.mk #[]).toList)= !lg x:=by
 obtain⟨_,_,_,h4,h5,_⟩:=iz h
 cases hh:lg x
 ·exact h5 hh
 ·exact pE (iv (h4 hh).1).1
noncomputable def chC(W:World)(x:Change):Int:=bif eE W&&dF x then(match W.Places.find? (bK x.Code)with
 | none=>4
 | some p=>bif lg x then(match W.Places.find? (bK x.Other)with
  | none=>4
  | some q=>bif c6 (x.Year - 1) p.Years.From p.Years.To&&(c6 x.Year p.Years.From p.Years.To&&c6 x.Year q.Years.From q.Years.To)then 0 else 5)
  else bif c6 (x.Year - 1) p.Years.From p.Years.To&&((x.Kind==1) || c6 x.Year p.Years.From p.Years.To)then 0 else 5)else 1
theorem sB{y l h:Int}(hy:c6 y l h=true)(h1: -1000000≤l)(h2:h≤1000000):aZ (y - 1)=y - 1:=by
 obtain⟨h3,h4⟩:=ey.1 hy
 exact cM (n:=y - 1) (by omega) (by omega)
theorem rQ{x:Change}(h:lg x=true):(x.Kind==1)=false∧(x.Kind !=1)=true:=by
 unfold lg at h
 have:x.Kind=2∨x.Kind=3:=by simpa using h
 rcases this with e | e<;>rw[e]<;>exact⟨rfl,rfl⟩
theorem sZ{W:World}{x:Change}(hW:WlR W)(hx:ChR x):eH W x=some (chC W x):=by
 unfold eH chC
 rw[m8 hW,mf hx]
 cases hw:eE W
 ·rfl
 cases hc:dF x
 ·rfl
 have hr:jc W.Places=true:=by
  unfold eE at hw
  rw[Bool.and_eq_true]at hw
  exact hw.1
 rw[sB (iz hc).1 (by omega) (by omega)]
 unfold de cB bF ca
 rw[show((x.Kind==2) || (x.Kind==3))=lg x from rfl]
 rcases ec hr x.Code with⟨_,h2,⟨k,h3⟩,_⟩ | ⟨k,p,_,h2,_,_,h4,h5,_⟩
 ·rw[h2,h3]
  rfl
 rw[h4,h5]
 simp only[Option.bind_some,cond_true,bh,h2,cX,Bool.not_true,cond_false,Bool.and_self]
 cases ho:lg x
 ·simp only[Option.bind_some,cond_false,Sum.elim_inl]
  rw[show(x.Kind !=1)= !(x.Kind==1)from rfl]
  cases c6 (x.Year - 1) p.Years.From p.Years.To<;>cases x.Kind==1<;>cases c6 x.Year p.Years.From p.Years.To<;>rfl
 rw[(rQ ho).1,(rQ ho).2]
 rcases ec hr x.Other with⟨_,h2,⟨k,h3⟩,_⟩ | ⟨k,q,_,h2,_,_,h4,h5,_⟩
 ·rw[h2,h3]
  rfl
 rw[h4,h5]
 simp only[Option.bind_some,cond_true,bh,h2,Bool.not_true,Sum.elim_inl]
 cases c6 (x.Year - 1) p.Years.From p.Years.To<;>cases c6 x.Year p.Years.From p.Years.To<;>cases c6 x.Year q.Years.From q.Years.To<;>rfl
theorem tK{W:World}{x:Change}(hW:WlR W)(hx:ChR x):ic W x=some (chC W x):=by
 unfold ic chC
 rw[sk hW,qN hx]
 cases hw:eE W
 ·rfl
 cases hc:dF x
 ·rfl
 have hr:jc W.Places=true:=by
  unfold eE at hw
  rw[Bool.and_eq_true]at hw
  exact hw.1
 rw[sB (iz hc).1 (by omega) (by omega),wC hc,Bool.not_not]
 unfold cL
 have n1:decide ((-1:Int)<0)=true:=rfl
 have hn: ∀k:Nat,decide ((k:Int)<0)=false:=fun k=>decide_eq_false (by omega)
 rcases ec hr x.Code with⟨_,h2,_,h3⟩ | ⟨k,p,_,h2,_,_,h4,_,h5⟩
 ·rw[h2,h3]
  rcases ec hr x.Other with⟨_,_,_,k3⟩ | ⟨_,_,_,_,_,_,_,_,k3⟩<;>rw[k3]<;>rfl
 rw[h4,h5]
 simp only[Option.bind_some,cond_true,bh,h2,dJ,Bool.not_true,cond_false,Bool.and_self,hn,Bool.false_or]
 cases ho:lg x
 ·rcases ec hr x.Other with⟨_,_,_,k3⟩ | ⟨_,_,_,_,_,_,_,_,k3⟩<;>rw[k3]<;>simp only[Option.bind_some,cond_false,Bool.false_and]<;>rw[show(x.Kind !=1)= !(x.Kind==1)from rfl]<;>
  cases c6 (x.Year - 1) p.Years.From p.Years.To<;>cases x.Kind==1<;>cases c6 x.Year p.Years.From p.Years.To<;>rfl
 rw[(rQ ho).2]
 rcases ec hr x.Other with⟨_,h2,_,h3⟩ | ⟨k,q,_,h2,_,_,h4,_,h5⟩
 ·rw[h2,h3]
  simp only[Option.bind_some,cond_true,n1,Bool.and_self]
 rw[h4,h5]
 simp only[Option.bind_some,cond_true,bh,h2,hn,Bool.and_false,cond_false]
 cases c6 (x.Year - 1) p.Years.From p.Years.To<;>cases c6 x.Year p.Years.From p.Years.To<;>cases c6 x.Year q.Years.From q.Years.To<;>rfl
end Go.Proofs.YtdejeagdkfokfaaGreatDoor.Sh
