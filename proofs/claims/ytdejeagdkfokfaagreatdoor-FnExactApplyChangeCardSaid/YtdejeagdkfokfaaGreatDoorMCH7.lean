/- Changes: IsChange and the code ahead of a change, of both. -/
import Derived.Test.YtdejeagdkfokfaaGreatDoorMCH6
namespace Go.Proofs.YtdejeagdkfokfaaGreatDoor.Sh
open Go.RowKit Go.Lib
def nf(x:Change):Bool:=bif(x.Kind==2) || (x.Kind==3)then cz x.Other&& !(x.Other.toList==x.Code.toList)else x.Other.toList==(ByteArray.mk #[]).toList
def vz(x:Change):Bool:=bif x.Kind==0 then iU x.Language&&e7 x.Text else(x.Language.toList==(ByteArray.mk #[]).toList)&&(x.Text.toList==(ByteArray.mk #[]).toList)
def fZ(x:Change):Bool:=dy x.Year (-2999) 3000&&(dy x.Kind 0 3&&(cz x.Code&&(nf x&&vz x)))
theorem rK{x:Change}(h:ChR x):gv x=some (fZ x):=by
 have h1:=h.c
 have h2:=h.o
 have h3:=h.l
 have h4:=h.t
 unfold gv cm fZ
 rw[c7,c7,kA _ (by unfold maxLen;omega),kA _ (by unfold maxLen;omega),oB _ (by unfold maxLen;omega),kN _ (by omega)]
 simp only[Option.bind_some]
 cases dy x.Year (-2999) 3000
 ·rfl
 cases dy x.Kind 0 3
 ·rfl
 cases cz x.Code
 ·rfl
 have e1:(bif(x.Kind==2) || (x.Kind==3)then(bif cz x.Other then some (!(x.Other.toList==x.Code.toList))else some false)else some (x.Other.toList==(ByteArray.mk #[]).toList))=some (nf x):=by
  unfold nf
  cases (x.Kind==2) || (x.Kind==3)<;>cases cz x.Other<;>rfl
 have e2:(bif x.Kind==0 then(bif iU x.Language then some (e7 x.Text)else some false)else some ((x.Language.toList==(ByteArray.mk #[]).toList)&&(x.Text.toList==(ByteArray.mk #[]).toList)))=some (vz x):=by
  unfold vz
  cases x.Kind==0<;>cases iU x.Language<;>rfl
 rw[e1,e2]
 rfl
theorem rT{x:Change}(h:ChR x):gE x=some (fZ x):=by
 have h1:=h.c
 have h2:=h.o
 have h3:=h.l
 have h4:=h.t
 unfold gE fZ
 rw[dY,dY,eU _ (by unfold maxLen;omega),eU _ (by unfold maxLen;omega),o4 _ (by unfold maxLen;omega),kR _ (by omega)]
 simp only[Option.bind_some]
 cases dy x.Year (-2999) 3000
 ·rfl
 cases dy x.Kind 0 3
 ·rfl
 cases cz x.Code
 ·rfl
 have e1:(bif(x.Kind==2) || (x.Kind==3)then((bif cz x.Other then some (!(x.Other.toList==x.Code.toList))else some false).bind fun(j:Bool)=>some j)else some (x.Other.toList==(ByteArray.mk #[]).toList))=some (nf x):=by
  unfold nf
  cases (x.Kind==2) || (x.Kind==3)<;>cases cz x.Other<;>rfl
 rw[e1]
 unfold vz
 cases x.Kind==0<;>cases iU x.Language<;>cases e7 x.Text<;>cases (x.Language.toList==(ByteArray.mk #[]).toList)<;>cases (x.Text.toList==(ByteArray.mk #[]).toList)<;>cases nf x<;>rfl
def mC(x:Change):Bool:=(x.Kind==2) || (x.Kind==3)
theorem jd{x:Change}(h:fZ x=true):dy x.Year (-2999) 3000=true∧dy x.Kind 0 3=true∧cz x.Code=true∧(mC x=true→cz x.Other=true∧(x.Other.toList==x.Code.toList)=false)∧(mC x=false→(x.Other.toList==(ByteArray.mk #[]).toList)=true)∧((x.Kind==0)=true→iU x.Language=true∧e7 x.Text=true):=by
 unfold fZ nf vz at h
 rw[Bool.and_eq_true,Bool.and_eq_true,Bool.and_eq_true,Bool.and_eq_true]at h
 obtain⟨a1,a2,a3,a4,a5⟩:=h
 refine⟨a1,a2,a3,fun hh=> ?_,fun hh=> ?_,fun hh=> ?_⟩
 ·rw[show((x.Kind==2) || (x.Kind==3))=true from hh,cond_true,Bool.and_eq_true,Bool.not_eq_true']at a4
  exact a4
 ·rw[show((x.Kind==2) || (x.Kind==3))=false from hh,cond_false]at a4
  exact a4
 ·rw[hh,cond_true,Bool.and_eq_true]at a5
  exact a5
theorem ya{x:Change}(h:fZ x=true):(x.Other.toList==(ByteArray.mk #[]).toList)= !mC x:=by
 obtain⟨_,_,_,h4,h5,_⟩:=jd h
 cases hh:mC x
 ·exact h5 hh
 ·exact qn (iZ (h4 hh).1).1
noncomputable def chC(W:World)(x:Change):Int:=bif iP W&&fZ x then(match W.Places.find? (bN x.Code)with
 | none=>4
 | some p=>bif mC x then(match W.Places.find? (bN x.Other)with
  | none=>4
  | some q=>bif dy (x.Year - 1) p.Years.From p.Years.To&&(dy x.Year p.Years.From p.Years.To&&dy x.Year q.Years.From q.Years.To)then 0 else 5)
  else bif dy (x.Year - 1) p.Years.From p.Years.To&&((x.Kind==1) || dy x.Year p.Years.From p.Years.To)then 0 else 5)else 1
theorem ua{y l h:Int}(hy:dy y l h=true)(h1: -1000000≤l)(h2:h≤1000000):aJ (y - 1)=y - 1:=by
 obtain⟨h3,h4⟩:=eX.1 hy
 exact bp (n:=y - 1) (by omega) (by omega)
theorem tf{x:Change}(h:mC x=true):(x.Kind==1)=false∧(x.Kind !=1)=true:=by
 unfold mC at h
 have:x.Kind=2∨x.Kind=3:=by simpa using h
 rcases this with e | e<;>rw[e]<;>exact⟨rfl,rfl⟩
theorem uK{W:World}{x:Change}(hW:WlR W)(hx:ChR x):dS W x=some (chC W x):=by
 unfold dS chC
 rw[tn hW,rK hx]
 cases hw:iP W
 ·rfl
 cases hc:fZ x
 ·rfl
 have hr:jP W.Places=true:=by
  unfold iP at hw
  rw[Bool.and_eq_true]at hw
  exact hw.1
 rw[ua (jd hc).1 (by omega) (by omega)]
 unfold dt cO bH cm
 rw[show((x.Kind==2) || (x.Kind==3))=mC x from rfl]
 rcases eF hr x.Code with⟨_,h2,⟨k,h3⟩,_⟩ | ⟨k,p,_,h2,_,_,h4,h5,_⟩
 ·rw[h2,h3]
  rfl
 rw[h4,h5]
 simp only[Option.bind_some,cond_true,bg,h2,c7,Bool.not_true,cond_false,Bool.and_self]
 cases ho:mC x
 ·simp only[Option.bind_some,cond_false,Sum.elim_inl]
  rw[show(x.Kind !=1)= !(x.Kind==1)from rfl]
  cases dy (x.Year - 1) p.Years.From p.Years.To<;>cases x.Kind==1<;>cases dy x.Year p.Years.From p.Years.To<;>rfl
 rw[(tf ho).1,(tf ho).2]
 rcases eF hr x.Other with⟨_,h2,⟨k,h3⟩,_⟩ | ⟨k,q,_,h2,_,_,h4,h5,_⟩
 ·rw[h2,h3]
  rfl
 rw[h4,h5]
 simp only[Option.bind_some,cond_true,bg,h2,Bool.not_true,Sum.elim_inl]
 cases dy (x.Year - 1) p.Years.From p.Years.To<;>cases dy x.Year p.Years.From p.Years.To<;>cases dy x.Year q.Years.From q.Years.To<;>rfl
theorem vm{W:World}{x:Change}(hW:WlR W)(hx:ChR x):iM W x=some (chC W x):=by
 unfold iM chC
 rw[tS hW,rT hx]
 cases hw:iP W
 ·rfl
 cases hc:fZ x
 ·rfl
 have hr:jP W.Places=true:=by
  unfold iP at hw
  rw[Bool.and_eq_true]at hw
  exact hw.1
 rw[ua (jd hc).1 (by omega) (by omega),ya hc,Bool.not_not]
 unfold cV
 have n1:decide ((-1:Int)<0)=true:=rfl
 have hn: ∀k:Nat,decide ((k:Int)<0)=false:=fun k=>decide_eq_false (by omega)
 rcases eF hr x.Code with⟨_,h2,_,h3⟩ | ⟨k,p,_,h2,_,_,h4,_,h5⟩
 ·rw[h2,h3]
  rcases eF hr x.Other with⟨_,_,_,k3⟩ | ⟨_,_,_,_,_,_,_,_,k3⟩<;>rw[k3]<;>rfl
 rw[h4,h5]
 simp only[Option.bind_some,cond_true,bg,h2,dY,Bool.not_true,cond_false,Bool.and_self,hn,Bool.false_or]
 cases ho:mC x
 ·rcases eF hr x.Other with⟨_,_,_,k3⟩ | ⟨_,_,_,_,_,_,_,_,k3⟩<;>rw[k3]<;>simp only[Option.bind_some,cond_false,Bool.false_and]<;>rw[show(x.Kind !=1)= !(x.Kind==1)from rfl]<;>
  cases dy (x.Year - 1) p.Years.From p.Years.To<;>cases x.Kind==1<;>cases dy x.Year p.Years.From p.Years.To<;>rfl
 rw[(tf ho).2]
 rcases eF hr x.Other with⟨_,h2,_,h3⟩ | ⟨k,q,_,h2,_,_,h4,_,h5⟩
 ·rw[h2,h3]
  simp only[Option.bind_some,cond_true,n1,Bool.and_self]
 rw[h4,h5]
 simp only[Option.bind_some,cond_true,bg,h2,hn,Bool.and_false,cond_false]
 cases dy (x.Year - 1) p.Years.From p.Years.To<;>cases dy x.Year p.Years.From p.Years.To<;>cases dy x.Year q.Years.From q.Years.To<;>rfl
end Go.Proofs.YtdejeagdkfokfaaGreatDoor.Sh
