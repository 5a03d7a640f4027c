/- Plain laws: loops that search, words; no condition but bounds on lengths. | Plain laws: splitting at a byte, phrases; no condition but bounds on lengths. | Names: AreNames of both; bounds on lengths alone. | The order of texts; a search that halves; no condition. | Names: AreNames of both; bounds on lengths alone. | Plain laws: the order of texts, strings.Compare, a search that halves a sorted list; bounds on lengths alone. | Places: IsPlace, IsRegister, findPlace of both; bounds on lengths alone. | Places: EndPlace of both; bounds on lengths alone. | Links: parents, the way up, circles, AreLinks of both; bounds on lengths alone. | Plain laws: the insertion sort of the library, as a list that is built in order; no condition but a bound on the length. | Texts in order without doubles: the library's way and the reference's; bounds on lengths alone. | Links: AreLinks, ChildrenIn, the end of links, of both; bounds on lengths alone. | Links: ChildrenIn of both, the end of links; bounds on lengths alone. | Names: RenameIn of both; bounds on lengths alone. | Names: RenameIn of both; bounds on lengths alone. | Worlds and changes: IsWorld, IsChange, the codes ahead of a change, of both; bounds on lengths alone. | Changes: IsChange and the code ahead of a change, of both. | Changes: a move of both. | Changes: a merge, an end, a renaming, and a whole change, of both. | Changes: ApplyChange's heart and CanApply of both. | Changes: the laws' bounds and those of the plain laws. | Changes: the laws' marks of worlds, ApplyChange of both. | Changes: ApplyChanges of both. | The draws come to an answer, in their range; no condition but a short code. Needs GD: spec.l01From, l01Next, l01Pick. | The draws of words come to an answer; no condition but a short code. Needs GD: spec.l01Good, l01DrawWord. | The draws of phrases come to an answer; no condition but a short code. Needs GD: spec.l01Words, l01GoodPhrase, l01Damage, l01DrawPhrase. | Answers of which something holds: rules for the draws. | Draws for worlds: words and phrases that are good. | Draws for worlds: places and registers. | Draws for worlds: links, worlds, changes. | Links that are cut: they stay in order, no circle comes, parents of earlier years stay. | A valid world stays valid under a change, and nothing before its year is changed. | A valid world stays valid under a renaming and under a whole change. | FnChanges answers true; no condition but a short code. -/
import Derived.Test.YtdejeagdkfokfaaGreatDoorGA
import Derived.Test.YtdejeagdkfokfaaGreatDoorGD
import Derived.Test.YtdejeagdkfokfaaGreatDoorGE
import Derived.Test.YtdejeagdkfokfaaGreatDoorGF
import Derived.Test.YtdejeagdkfokfaaGreatDoorKS
import Derived.Test.YtdejeagdkfokfaaGreatDoorL0
import Derived.Test.YtdejeagdkfokfaaGreatDoorRD
import Derived.Test.YtdejeagdkfokfaaGreatDoorKC
import Derived.Test.YtdejeagdkfokfaaGreatDoorKO
import Derived.Test.YtdejeagdkfokfaaGreatDoorKD
import Derived.Test.YtdejeagdkfokfaaGreatDoorQM
namespace Go.Proofs.YtdejeagdkfokfaaGreatDoor.Sh
open Go.RowKit Go.Lib
section
variable {α A S : Type}
theorem gh{L:List α}(hL:L.length≤9223372036854775807){B:Int→Unit→Option (Unit⊕(Unit⊕A))}(p:α→Bool)(a:A)(h: ∀(i:Nat) x,L[i]? =some x→B (i:Int) ()=bif p x then some (.inr (.inr a))else some (.inl ())){K:Option A}:
  (dt (L.length:Int) B (fun _=> .inl ()) 0 ()).bind (Sum.elim (fun _=>K) some)=bif L.any p then some a else K:=by
 rw[jO L hL B (fun _ x _=>bif p x then some (.inr (.inr a))else some (.inl ())) _ () (fun j x _ hx=>h j x hx),tU]
 cases L.any p<;>rfl
theorem fS{L:List α}(hL:L.length≤9223372036854775807){B:Int→Unit→Option (Unit⊕(Unit⊕A))}(p:Nat→α→Bool)(a:Nat→α→A)(h: ∀(i:Nat) x,L[i]? =some x→B (i:Int) ()=bif p i x then some (.inr (.inr (a i x)))else some (.inl ())){K:Option A}:
  (dt (L.length:Int) B (fun _=> .inl ()) 0 ()).bind (Sum.elim (fun _=>K) some)=match bZ p a L 0 with | some r=>some r | none=>K:=by
 rw[jO L hL B (fun i x _=>bif p i x then some (.inr (.inr (a i x)))else some (.inl ())) _ () (fun j x _ hx=>h j x hx),ny p (fun i x=>Sum.inr (a i x))]
 have:bZ p (fun i x=>(Sum.inr (a i x):Unit⊕A)) L 0=(bZ p a L 0).map .inr:=by
  generalize 0=k
  induction L generalizing k with
  | nil=>rfl
  | cons x l ih=>
   unfold bZ
   cases p k x
   ·simp only[cond_false]
    clear h
    have: ∀(M:List α) (k:Nat),bZ p (fun i x=>(Sum.inr (a i x):Unit⊕A)) M k=(bZ p a M k).map .inr:=by
     intro M
     induction M with
     | nil=>intro k;rfl
     | cons y m ih2=>
      intro k
      unfold bZ
      cases p k y
      ·exact ih2 (k+1)
      ·rfl
    exact this l (k+1)
   ·rfl
 rw[this]
 cases bZ p a L 0<;>rfl
def cK(p:α→Bool):List α→Int
 | []=> -1
 | x::l=>bif p x then 0 else(let r:=cK p l;bif decide (r<0)then -1 else r+1)
theorem lz(p:α→Bool): ∀L:List α,-1≤cK p L∧cK p L<L.length
 | []=>by simp[cK]
 | x::l=>by
  have:=lz p l
  unfold cK
  cases p x
  ·simp only[cond_false]
   by_cases h:cK p l<0
   ·simp[h];omega
   ·simp[h];omega
  ·simp
theorem io(p:α→Bool): ∀L:List α,decide (cK p L≥0)=L.any p
 | []=>rfl
 | x::l=>by
  have h:=io p l
  have h1:=lz p l
  unfold cK
  rw[List.any_cons,←h]
  cases p x
  ·simp only[cond_false,Bool.false_or]
   by_cases h2:cK p l<0
   ·simp[h2]
   ·simp[h2]
    omega
  ·simp
theorem AQ(p:α→Bool)(L:List α):decide (cK p L<0)= !L.any p:=by
 rw[←io]
 by_cases h:cK p L<0
 ·simp[h]
 ·simp[h];omega
theorem r9(p:α→Bool): ∀(L:List α) (k:Nat),(match bZ (fun _ x=>p x) (fun i _=>(i:Int)) L k with | some r=>r | none=> -1)=bif decide (cK p L<0)then -1 else cK p L+k
 | [],k=>rfl
 | x::l,k=>by
  have h:=r9 p l (k+1)
  have h1:=lz p l
  unfold bZ cK
  cases p x
  ·simp only[cond_false]
   rw[h]
   by_cases h2:cK p l<0
   ·simp[h2]
   ·simp[h2]
    have h3: ¬(cK p l+1<0):=by omega
    simp[h3]
    omega
  ·simp
theorem pe(p:α→Bool): ∀{L:List α} {i:Nat},cK p L=i→ ∃x,L[i]? =some x∧p x=true
 | [],i,h=>by simp[cK]at h
 | x::l,i,h=>by
  unfold cK at h
  cases hp:p x
  ·rw[hp]at h
   simp only[cond_false]at h
   by_cases h2:cK p l<0
   ·simp[h2]at h
   ·simp[h2]at h
    obtain⟨j,rfl⟩: ∃j,i=j+1:=⟨i - 1,by omega⟩
    obtain⟨y,h3,h4⟩:=pe p (L:=l) (i:=j) (by omega)
    exact⟨y,by simpa using h3,h4⟩
  ·rw[hp]at h
   simp at h
   have:i=0:=by omega
   subst this
   exact⟨x,rfl,hp⟩
theorem ix{L:List α}(hL:L.length≤9223372036854775807){B:Int→Unit→Option (Unit⊕(Unit⊕Int))}(p:α→Bool)(h: ∀(i:Nat) x,L[i]? =some x→B (i:Int) ()=bif p x then some (.inr (.inr (i:Int)))else some (.inl ())):
  (dt (L.length:Int) B (fun _=> .inl ()) 0 ()).bind (Sum.elim (fun _=>some (-1)) some)=some (cK p L):=by
 rw[fS hL (fun _ x=>p x) (fun i _=>(i:Int)) h]
 have h1:=r9 p L 0
 have h2:=lz p L
 have h3:(bif decide (cK p L<0)then -1 else cK p L+((0:Nat):Int))=cK p L:=by
  by_cases h:cK p L<0
  ·simp[h];omega
  ·simp[h]
 rw[h3]at h1
 cases hf:bZ (fun _ x=>p x) (fun i _=>(i:Int)) L 0 with
 | none=>rw[hf]at h1;exact congrArg some h1
 | some r=>rw[hf]at h1;exact congrArg some h1
end
theorem rU{s:ByteArray}{j:Nat}{b:UInt8}(h:s.data.toList[j]? =some b):mU s (j:Int)=some (b.toNat:Int):=by
 unfold mU
 rw[if_pos (by omega)]
 have:s[(j:Int).toNat]? =some b:=by
  rw[Int.toNat_natCast]
  rw[Array.getElem?_toList]at h
  exact h
 rw[this]
 rfl
def cX(x l h:Int):Bool:=decide (x≥l)&&decide (x≤h)
theorem cZ(x l h:Int):dO x l h=some (cX x l h):=rfl
theorem eR(x l h:Int):dI x l h=some (cX x l h):=rfl
theorem bi{x l h:Int}:cX x l h=true↔l≤x∧x≤h:=by unfold cX;simp
def small(b:UInt8):Bool:=decide (97≤b.toNat)&&decide (b.toNat≤122)
def cg(s:ByteArray):Bool:=cX s.size 1 16&&s.data.toList.all small
def abc:List UInt8:=[97,98,99,100,101,102,103,104,105,106,107,108,109,110,111,112,113,114,115,116,117,118,119,120,121,122]
theorem yV(b:UInt8):abc.contains b=small b:=by
 have h: ∀i:Fin 256,abc.contains (UInt8.ofNat i.val)=small (UInt8.ofNat i.val):=by decide+kernel
 have:=h ⟨b.toNat,b.toNat_lt⟩
 simpa using this
theorem sS(l:List UInt8):(trimS l abc).isEmpty=l.all small:=by
 have h1: ∀(p:UInt8→Bool) (l:List UInt8),(l.dropWhile p).isEmpty=l.all p:=by
  intro p l
  induction l with
  | nil=>rfl
  | cons x r ih=>
   rw[List.dropWhile_cons]
   by_cases h:p x=true
   ·rw[if_pos h,ih,List.all_cons,h,Bool.true_and]
   ·rw[if_neg h,List.all_cons,Bool.eq_false_iff.2 h];rfl
 have h3:(fun b=>abc.contains b)=small:=funext yV
 unfold trimS trimLeftS trimRightS
 rw[h3,h1]
 by_cases h:l.all small=true
 ·have:(l.reverse.dropWhile small)=[]:=by
   have:=h1 small l.reverse
   rw[List.all_reverse,h]at this
   exact List.isEmpty_iff.1 this
  rw[this,h];rfl
 ·have h4:l.all small=false:=Bool.eq_false_iff.2 h
  rw[h4,Bool.eq_false_iff]
  intro h5
  have h6:=h1 small l.reverse
  rw[List.all_reverse,h4]at h6
  rcases hd:l.reverse.dropWhile small with _ | ⟨x,r⟩
  ·rw[hd]at h6;cases h6
  ·have h7:small x=false:=by
    have:=List.head?_dropWhile_not small l.reverse
    rw[hd]at this
    simpa using this
   rw[hd,List.all_reverse]at h5
   simp[h7]at h5
theorem toList_eq(s:ByteArray):s.toList=s.data.toList:=Lib.toList_data s
theorem lC(s:ByteArray)(hs:s.size≤maxLen):fL s=some (cg s):=by
 unfold fL gY cg
 rw[cZ,Option.bind_some]
 cases cX (s.size:Int) 1 16
 ·rfl
 ·have h1:eX s (ByteArray.mk #[97,98,99,100,101,102,103,104,105,106,107,108,109,110,111,112,113,114,115,116,117,118,119,120,121,122])=some ⟨(trimS s.data.toList abc).toArray⟩:=by
   unfold eX
   have h2:((ByteArray.mk #[97,98,99,100,101,102,103,104,105,106,107,108,109,110,111,112,113,114,115,116,117,118,119,120,121,122]).data.toList.all (fun b=>decide (b.toNat<128)))=true:=by decide
   have h3:(decide ((ByteArray.mk #[97,98,99,100,101,102,103,104,105,106,107,108,109,110,111,112,113,114,115,116,117,118,119,120,121,122]).size≤1000))=true:=by decide
   rw[h2,h3,decide_eq_true hs]
   rfl
  rw[h1]
  simp only[cond_true,Option.bind_some,Bool.true_and]
  congr 1
  rw[toList_eq,toList_eq,←sS]
  cases trimS s.data.toList abc<;>rfl
theorem ns{A:Type}{s:ByteArray}(hL:s.size≤9223372036854775807){B:Int→Unit→Option (Unit⊕(Unit⊕A))}(p:UInt8→Bool)(a:A)(h: ∀(i:Nat) x,s.data.toList[i]? =some x→B (i:Int) ()=bif p x then some (.inr (.inr a))else some (.inl ())){K:Option A}:
  (dt (s.size:Int) B (fun _=> .inl ()) 0 ()).bind (Sum.elim (fun _=>K) some)=bif s.data.toList.any p then some a else K:=by
 have hl:s.size=s.data.toList.length:=by rw[Array.length_toList];rfl
 rw[hl]at hL⊢
 exact gh hL p a h
theorem fM(s:ByteArray)(hs:s.size≤maxLen):dw s=some (cg s):=by
 unfold dw
 rw[ns (by unfold maxLen at hs;omega) (fun x=> !small x) false (fun j x hx=> ?_)]
 ·rw[←List.not_all_eq_any_not]
  unfold cg
  cases s.data.toList.all small
  ·simp
  ·simp[eR]
 ·rw[rU hx]
  simp only[Option.bind_some]
  unfold small
  by_cases h1:(x.toNat:Int)<97
  ·have h2: ¬97≤x.toNat:=by omega
   simp[h1,h2]
  ·have h2:97≤x.toNat:=by omega
   by_cases h3:(x.toNat:Int)>122
   ·have h4: ¬x.toNat≤122:=by omega
    simp[h1,h2,h3,h4]
   ·have h4:x.toNat≤122:=by omega
    simp[h1,h2,h3,h4]
end Go.Proofs.YtdejeagdkfokfaaGreatDoor.Sh
namespace Go.Proofs.YtdejeagdkfokfaaGreatDoor.Sh
open Go.RowKit Go.Lib
theorem tX(s:ByteArray):s.data.toList.length=s.size:=by rw[Array.length_toList];rfl
theorem vP(s:ByteArray)(a b:Nat):s.extract a b=⟨((s.data.toList.drop a).take (b - a)).toArray⟩:=by
 rw[←extract_data]
theorem Bu{s:ByteArray}{a b:Nat}(h:a≤b)(hb:b≤s.size):lW s (a:Int) (b:Int)=some ⟨((s.data.toList.drop a).take (b - a)).toArray⟩:=by
 unfold lW
 rw[if_pos ⟨by omega,by omega,by omega⟩,Int.toNat_natCast,Int.toNat_natCast,vP]
theorem Fz(b c:UInt8):(((b.toNat:Int)==(c.toNat:Int))=true)↔b=c:=by
 rw[beq_iff_eq]
 constructor
 ·intro h
  have:b.toNat=c.toNat:=by omega
  exact UInt8.toNat_inj.1 this
 ·intro h;rw[h]
theorem wG{c:UInt8}{l:List UInt8}{f i:Nat}(hf:f≤i)(hfree:c∉(l.drop f).take (i - f))(hi:l[i]? =some c):dT c (l.drop f)=(l.drop f).take (i - f)::dT c (l.drop (i+1)):=by
 have hlt:=(List.getElem?_eq_some_iff.1 hi).1
 have h1:l.drop f=(l.drop f).take (i - f)++c::l.drop (i+1):=by
  have h2:(l.drop f).drop (i - f)=c::l.drop (i+1):=by
   rw[List.drop_drop,show f+(i - f)=i from by omega,List.drop_eq_getElem_cons hlt]
   congr 1
   exact(List.getElem?_eq_some_iff.1 hi).2
  rw[←h2,List.take_append_drop]
 conv=>lhs;rw[h1]
 exact mS hfree
theorem tz(s:ByteArray)(c:UInt8)(hs:s.size≤4294967280):iD s (c.toNat:Int)=some (dc s c):=by
 have hn:s.data.toList.length=s.size:=tX s
 have key: ∀(k i f:Nat) (out:List ByteArray),i+k=s.size→f≤i→out.length≤i→c∉(s.data.toList.drop f).take (i - f)→
   vT (fun(i3:Int) (_:Int×(List ByteArray))=>(decide (i3≤(s.size:Int)))) (fun(i3:Int) (s3:Int×(List ByteArray))=>(((bif(i3==(s.size:Int))then some true else((mU s i3).bind fun x7=>some (x7==(c.toNat:Int))))).bind fun(j8:Bool)=>(bif j8 then((lW s s3.1 i3).bind fun x10=>((c4 s3.2 ([x10]:List ByteArray)).bind fun x11=>some ((bF (i3+1)),x11)))else some (s3.1,s3.2)))) (fun(s3:Int×(List ByteArray))=>s3.2) (i:Int) ((f:Int),out)=some (out++(dT c (s.data.toList.drop f)).map fun l=>⟨l.toArray⟩):=by
  intro k
  induction k with
  | zero=>
   intro i f out hk hf hout hfree
   have hi:i=s.size:=by omega
   unfold vT
   rw[dz]
   dsimp only
   have e1:((i:Int)==(s.size:Int))=true:=by rw[hi];simp
   rw[decide_eq_true (by omega),cond_true,e1,cond_true,Option.bind_some,cond_true,Bu hf (by omega),Option.bind_some,cL (by simp;omega)]
   simp only[Option.bind_some]
   rw[bx (by omega) (by omega),dz]
   dsimp only
   rw[decide_eq_false (by omega),cond_false]
   have h1:(s.data.toList.drop f).take (i - f)=s.data.toList.drop f:=List.take_of_length_le (by rw[List.length_drop];omega)
   rw[h1]at hfree
   rw[lJ hfree,h1]
   rfl
  | succ k ih=>
   intro i f out hk hf hout hfree
   have hlt:i<s.data.toList.length:=by omega
   have hb:s.data.toList[i]? =some s.data.toList[i]:=List.getElem?_eq_getElem hlt
   generalize s.data.toList[i]=b at hb
   unfold vT
   rw[dz]
   dsimp only
   have e1:((i:Int)==(s.size:Int))=false:=by rw[beq_eq_false_iff_ne];omega
   rw[decide_eq_true (by omega),cond_true,e1,cond_false,rU hb,Option.bind_some,Option.bind_some]
   by_cases hbc:b=c
   ·subst hbc
    have e2:((b.toNat:Int)==(b.toNat:Int))=true:=beq_self_eq_true _
    rw[e2,cond_true,Bu hf (by omega),Option.bind_some,cL (by simp;omega)]
    simp only[Option.bind_some]
    rw[bx (n:=(i:Int)+1) (by omega) (by omega)]
    have e3:(i:Int)+1=((i+1:Nat):Int):=by omega
    rw[e3]
    have:=ih (i+1) (i+1) (out++[⟨((s.data.toList.drop f).take (i - f)).toArray⟩]) (by omega) (Nat.le_refl _) (by simp;omega) (by simp)
    unfold vT at this
    rw[this,wG hf hfree hb]
    simp
   ·have e2:((b.toNat:Int)==(c.toNat:Int))=false:=by
     rw[Bool.eq_false_iff]
     exact fun h=>hbc ((Fz b c).1 h)
    rw[e2,cond_false]
    simp only[Option.bind_some]
    rw[bx (n:=(i:Int)+1) (by omega) (by omega)]
    have e3:(i:Int)+1=((i+1:Nat):Int):=by omega
    rw[e3]
    have:=ih (i+1) f out (by omega) (by omega) (by omega) (by
     have h1:(s.data.toList.drop f).take (i+1 - f)=(s.data.toList.drop f).take (i - f)++[b]:=by
      rw[show i+1 - f=(i - f)+1 from by omega,List.take_add_one,List.getElem?_drop,show f+(i - f)=i from by omega,hb]
      rfl
     rw[h1]
     intro h
     rcases List.mem_append.1 h with h | h
     ·exact hfree h
     ·exact hbc (List.mem_singleton.1 h).symm)
    unfold vT at this
    rw[this]
 unfold iD
 have:=key s.size 0 0 [] (by omega) (Nat.le_refl _) (by simp) (by simp)
 rw[show(0:Int)=((0:Nat):Int)from rfl,this]
 simp[dc]
theorem tm(s:ByteArray)(hs:s.size≤4294967280):jk s=some (dc s 32):=by
 unfold jk strings_Split
 have h:(ByteArray.mk #[32]).data.toList=[32]:=rfl
 rw[h]
 dsimp only
 rw[decide_eq_true (by omega),cond_true]
 rfl
theorem sN(s:ByteArray)(c:UInt8):(dc s c).length≤s.size+1:=by
 unfold dc
 rw[List.length_map,oV]
 have h1:s.data.toList.count c≤s.data.toList.length:=List.count_le_length
 have:=tX s
 omega
def dA(s:ByteArray):Bool:=decide ((dc s 32).length≤8)&&(dc s 32).all cg
theorem jP(L:List ByteArray)(hL:L.length≤9223372036854775807)(h: ∀x∈L,x.size≤maxLen):fb L=some (L.all cg):=by
 unfold fb
 rw[gh hL (fun x=> !cg x) false (fun j x hx=>by
  rw[bk,hx,Option.bind_some,lC x (h x (List.mem_of_getElem? hx)),Option.bind_some]),←List.not_all_eq_any_not]
 cases L.all cg<;>rfl
theorem lS(s:ByteArray)(hs:s.size≤4294967280):fa s=some (dA s):=by
 unfold fa dA
 have hl:=sN s 32
 rw[tm s hs,Option.bind_some,jP _ (by omega) (fun x hx=>by have:=nG hx;unfold maxLen;omega)]
 by_cases h:(dc s 32).length≤8
 ·rw[decide_eq_true (show((dc s 32).length:Int)≤8 by omega),decide_eq_true h]
  rfl
 ·rw[decide_eq_false (show ¬((dc s 32).length:Int)≤8 by omega),decide_eq_false h]
  rfl
def xM(s:ByteArray):List ByteArray×Bool:=bif(dc s 32).all cg then(dc s 32,decide ((dc s 32).length≤8))else([],false)
theorem sL(s:ByteArray)(hs:s.size≤4294967280):gO s=some (xM s):=by
 unfold gO xM
 have hl:=sN s 32
 rw[show(32:Int)=((32:UInt8).toNat:Int)from rfl,tz s 32 hs,Option.bind_some,gh (by omega) (fun x=> !cg x) (([]:List ByteArray),false) (fun j x hx=>by
  rw[bk,hx,Option.bind_some,fM x (by have:=nG (List.mem_of_getElem? hx);unfold maxLen;omega),Option.bind_some]),←List.not_all_eq_any_not]
 have e:decide (((dc s 32).length:Int)≤8)=decide ((dc s 32).length≤8):=by
  by_cases h:(dc s 32).length≤8
  ·rw[decide_eq_true (show((dc s 32).length:Int)≤8 by omega),decide_eq_true h]
  ·rw[decide_eq_false (show ¬((dc s 32).length:Int)≤8 by omega),decide_eq_false h]
 rw[e]
 cases (dc s 32).all cg<;>rfl
theorem lV(s:ByteArray)(hs:s.size≤4294967280):ff s=some (dA s):=by
 unfold ff dA
 rw[sL s hs,Option.bind_some]
 unfold xM
 cases (dc s 32).all cg
 ·simp
 ·simp
theorem gV{s:ByteArray}(h:cg s=true):1≤s.size∧s.size≤16:=by
 unfold cg at h
 rw[Bool.and_eq_true,bi]at h
 omega
end Go.Proofs.YtdejeagdkfokfaaGreatDoor.Sh
namespace Go.Proofs.YtdejeagdkfokfaaGreatDoor.Sh
open Go.RowKit Go.Lib
theorem kn{a b:ByteArray}:(a.toList==b.toList)=true↔a=b:=by
 rw[beq_iff_eq,toList_eq,toList_eq]
 refine⟨fun h=> ?_,fun h=>by rw[h]⟩
 obtain⟨a⟩:=a
 obtain⟨b⟩:=b
 have h:a.toList=b.toList:=h
 rw[Array.toList_inj.1 h]
theorem rS{a:ByteArray}(h:1≤a.size):(a.toList==(ByteArray.mk #[]).toList)=false:=by
 rw[Bool.eq_false_iff]
 intro hc
 rw[kn]at hc
 rw[hc]at h
 simp[ByteArray.size]at h
theorem fO{α A:Type}(p:Nat→α→Bool)(a:A): ∀(L:List α) (k:Nat),bZ p (fun _ _=>a) L k=bif(bZ p (fun _ _=>()) L k).isSome then some a else none
 | [],_=>rfl
 | x::l,k=>by
  unfold bZ
  cases p k x
  ·exact fO p a l (k+1)
  ·rfl
theorem nN{α:Type}{p:Nat→α→Bool}: ∀{L:List α} {k:Nat},(bZ p (fun _ _=>()) L k).isSome=false→ ∀i x,L[i]? =some x→p (k+i) x=false
 | [],_,_,i,x,h=>by simp at h
 | y::l,k,h,i,x,hx=>by
  unfold bZ at h
  cases hp:p k y
  ·rw[hp,cond_false]at h
   cases i with
   | zero=>simp at hx;subst hx;exact hp
   | succ i=>
    have:=nN h i x (by simpa using hx)
    rwa [show k+(i+1)=k+1+i by omega]
  ·rw[hp]at h
   cases h
theorem nP{α A:Type}{L:List α}(hL:L.length≤1048576){B:Int→Unit→Option (Unit⊕(Unit⊕A))}(p:α→Bool)(a:A)(h: ∀(i:Nat) x,L[i]? =some x→B (i:Int) ()=bif p x then some (.inr (.inr a))else some (.inl ())):
  dt (L.length:Int) B (fun _=> .inl ()) 0 ()=bif L.any p then some (.inr a)else some (.inl ()):=by
 rw[jO L (by omega) B (fun _ x _=>bif p x then some (.inr (.inr a))else some (.inl ())) _ () (fun j x _ hx=>h j x hx),tU]
 cases L.any p<;>rfl
def ii(s:Span):Bool:=cX s.From (-3000) 3000&&(cX s.To (-3000) 3000&&decide (s.From≤s.To))
theorem nk(s:Span):gG s=some (ii s):=by
 unfold gG eQ ii
 simp only[cZ,Option.bind_some]
 cases cX s.From (-3000) 3000<;>cases cX s.To (-3000) 3000<;>rfl
theorem nC(s:Span):gM s=some (ii s):=by
 unfold gM dm ii
 simp only[eR,Option.bind_some]
 cases cX s.From (-3000) 3000<;>cases cX s.To (-3000) 3000<;>rfl
def jo(s:ByteArray):Bool:=cX s.size 2 3&&s.data.toList.all small
theorem p7(s:ByteArray)(hs:s.size≤maxLen):dY s=some (jo s):=by
 unfold dY gY jo
 rw[cZ,Option.bind_some]
 cases cX (s.size:Int) 2 3
 ·rfl
 ·have h1:eX s (ByteArray.mk #[97,98,99,100,101,102,103,104,105,106,107,108,109,110,111,112,113,114,115,116,117,118,119,120,121,122])=some ⟨(trimS s.data.toList abc).toArray⟩:=by
   unfold eX
   have h2:((ByteArray.mk #[97,98,99,100,101,102,103,104,105,106,107,108,109,110,111,112,113,114,115,116,117,118,119,120,121,122]).data.toList.all (fun b=>decide (b.toNat<128)))=true:=by decide
   have h3:(decide ((ByteArray.mk #[97,98,99,100,101,102,103,104,105,106,107,108,109,110,111,112,113,114,115,116,117,118,119,120,121,122]).size≤1000))=true:=by decide
   rw[h2,h3,decide_eq_true hs]
   rfl
  rw[h1]
  simp only[cond_true,Option.bind_some,Bool.true_and]
  congr 1
  rw[toList_eq,toList_eq,←sS]
  cases trimS s.data.toList abc<;>rfl
theorem qy(s:ByteArray)(hs:s.size≤maxLen):dJ s=some (jo s):=by
 unfold dJ jY
 rw[ns (by unfold maxLen at hs;omega) (fun x=> !small x) false (fun j x hx=> ?_)]
 ·rw[←List.not_all_eq_any_not]
  unfold jo
  cases s.data.toList.all small
  ·simp
  ·simp[eR]
 ·rw[rU hx]
  simp only[Option.bind_some]
  unfold small
  by_cases h1:(x.toNat:Int)<97
  ·have h2: ¬97≤x.toNat:=by omega
   simp[h1,h2]
  ·have h2:97≤x.toNat:=by omega
   by_cases h3:(x.toNat:Int)>122
   ·have h4: ¬x.toNat≤122:=by omega
    simp[h1,h2,h3,h4]
   ·have h4:x.toNat≤122:=by omega
    simp[h1,h2,h3,h4]
structure NmR (n:Name):Prop where
 t:n.Text.size≤1048576
 l:n.Language.size≤1048576
def js(n:Name):Bool:=dA n.Text&&(jo n.Language&&(cX n.Status 0 2&&ii n.Years))
theorem ze{n:Name}(h:NmR n):ka n=some (js n):=by
 have h1:=h.t
 have h2:=h.l
 unfold ka js
 rw[lS _ (by omega),p7 _ (by unfold maxLen;omega),cZ,nk]
 cases dA n.Text<;>cases jo n.Language<;>cases cX n.Status 0 2<;>rfl
theorem zN{n:Name}(h:NmR n):kg n=some (js n):=by
 have h1:=h.t
 have h2:=h.l
 unfold kg js
 rw[lV _ (by omega),qy _ (by unfold maxLen;omega),eR,nC]
 cases dA n.Text<;>cases jo n.Language<;>cases cX n.Status 0 2<;>rfl
end Go.Proofs.YtdejeagdkfokfaaGreatDoor.Sh
namespace Go.Proofs.YtdejeagdkfokfaaGreatDoor.Sh
open Go.RowKit
def fY(x y:ByteArray):Bool:=Op.bytesLess x.toList y.toList
theorem nL: ∀x:List UInt8,Op.bytesLess x x=false
 | []=>rfl
 | a::x=>by
  unfold Op.bytesLess
  rw[nL x,Bool.and_false,Bool.or_false,decide_eq_false_iff_not]
  intro h
  have:=UInt8.lt_iff_toNat_lt.1 h
  omega
theorem o3{a b:UInt8}{x y:List UInt8}:Op.bytesLess (a::x) (b::y)=true↔a.toNat<b.toNat∨(a=b∧Op.bytesLess x y=true):=by
 conv=>lhs;unfold Op.bytesLess
 rw[Bool.or_eq_true,Bool.and_eq_true,decide_eq_true_eq,beq_iff_eq,UInt8.lt_iff_toNat_lt]
theorem na: ∀{x y z:List UInt8},Op.bytesLess x y=true→Op.bytesLess y z=true→Op.bytesLess x z=true
 | [],[],_,h,_=>by cases h
 | _::_,[],_,h,_=>by cases h
 | [],_::_,[],_,h=>by cases h
 | _::_,_::_,[],_,h=>by cases h
 | [],_::_,_::_,_,_=>rfl
 | a::x,b::y,c::z,h,k=>by
  rw[o3]at h k⊢
  rcases h with h | ⟨rfl,h⟩
  ·rcases k with k | ⟨rfl,_⟩
   ·exact .inl (by omega)
   ·exact .inl h
  ·rcases k with k | ⟨rfl,k⟩
   ·exact .inl k
   ·exact .inr ⟨rfl,na h k⟩
theorem m9: ∀{x y:List UInt8},Op.bytesLess x y=false→Op.bytesLess y x=false→x=y
 | [],[],_,_=>rfl
 | [],_::_,h,_=>by cases h
 | _::_,[],_,h=>by cases h
 | a::x,b::y,h,k=>by
  rw[Bool.eq_false_iff,ne_eq,o3]at h k
  have e:a=b:=UInt8.toNat_inj.1 (by
   have h1: ¬a.toNat<b.toNat:=fun e=>h (.inl e)
   have h2: ¬b.toNat<a.toNat:=fun e=>k (.inl e)
   omega)
  subst e
  rw[m9 (x:=x) (y:=y) (by rw[Bool.eq_false_iff];exact fun e=>h (.inr ⟨rfl,e⟩)) (by rw[Bool.eq_false_iff];exact fun e=>k (.inr ⟨rfl,e⟩))]
end Go.Proofs.YtdejeagdkfokfaaGreatDoor.Sh
namespace Go.Proofs.YtdejeagdkfokfaaGreatDoor.Sh
open Go.RowKit Go.Lib
def kS(n m:Name):Bool:=(m.Status==0)&&((m.Language.toList==n.Language.toList)&&(decide (m.Years.From≤n.Years.To)&&decide (n.Years.From≤m.Years.To)))
def pV(L:List Name)(i:Nat)(n:Name):Bool:= !js n || ((n.Status==0)&&(L.take i).any (kS n))
def dZ(L:List Name):Bool:= !(bZ (pV L) (fun _ _=>()) L 0).isSome&&decide (L.length≤12)
theorem sw{α:Type}(L:List α)(k:Nat):decide ((L.length:Int)≤(k:Int))=decide (L.length≤k):=by
 by_cases h:L.length≤k
 ·rw[decide_eq_true h,decide_eq_true (by omega)]
 ·rw[decide_eq_false h,decide_eq_false (by omega)]
theorem ot{L:List Name}(hL:L.length≤1048576)(h: ∀x∈L,NmR x):gp L=some (dZ L):=by
 unfold gp bY cm iH dd eJ dZ
 rw[fS (by omega) (pV L) (fun _ _=>false) (fun i x hx=>by
  have hi:i<L.length:=(List.getElem?_eq_some_iff.1 hx).1
  rw[bk,hx,Option.bind_some,ze (h x (List.mem_of_getElem? hx)),Option.bind_some]
  unfold pV
  cases js x
  ·rfl
  rw[Bool.not_true,cond_false,nT (by omega) (by omega) (by omega),Option.bind_some]
  simp only[Int.toNat_zero,List.drop_zero,Int.toNat_natCast,Nat.sub_zero]
  rw[ix (L:=L.take i) (by rw[List.length_take];omega) (kS x) (fun k z hz=>by
   rw[bk,hz,Option.bind_some]
   unfold kS
   cases z.Status==0<;>cases z.Language.toList==x.Language.toList<;>rfl)]
  simp only[Option.bind_some,io]
  cases x.Status==0<;>cases (L.take i).any (kS x)<;>rfl),fO]
 rw[show(12:Int)=((12:Nat):Int)from rfl,sw]
 cases (bZ (pV L) (fun _ _=>()) L 0).isSome<;>rfl
theorem jX{L:List Name}(hL:L.length≤1048576)(h: ∀x∈L,NmR x):ep L=some (dZ L):=by
 unfold ep ek dZ
 rw[fS (by omega) (pV L) (fun _ _=>false) (fun i x hx=>by
  have hi:i<L.length:=(List.getElem?_eq_some_iff.1 hx).1
  have hl:(L.take i).length=i:=by rw[List.length_take];omega
  rw[bk,hx,Option.bind_some,zN (h x (List.mem_of_getElem? hx)),Option.bind_some]
  unfold pV
  cases js x
  ·rfl
  have:=nP (A:=Unit⊕Bool) (L:=L.take i) (by omega) (B:=fun(i9:Int) (_:Unit)=>((at' L i9).bind fun x13=>(((bif(x.Status==0)then(bif(x13.Status==0)then(bif(x.Language.toList==x13.Language.toList)then((ek x.Years x13.Years).bind fun x14=>some x14)else some false)else some false)else some false)).bind fun(j15:Bool)=>(bif j15 then some (.inr (.inr (.inr false)))else some (.inl ()))))) (fun m=>(x.Status==0)&&kS x m) (.inr false) (fun k z hz=>by
   have hz':L[k]? =some z:=by
    have hk:k<i:=by have:=(List.getElem?_eq_some_iff.1 hz).1;omega
    rw[←hz,List.getElem?_take_of_lt hk]
   unfold kS ek
   simp only[bk,hz',Option.bind_some]
   rw[BEq.comm (a:=x.Language.toList),Bool.and_comm (decide (x.Years.From≤z.Years.To))]
   cases x.Status==0<;>cases z.Status==0<;>cases z.Language.toList==x.Language.toList<;>rfl)
  rw[hl]at this
  have e:((L.take i).any fun m=>(x.Status==0)&&kS x m)=((x.Status==0)&&(L.take i).any (kS x)):=by
   cases x.Status==0
   ·simp
   ·simp
  rw[e]at this
  exact this),fO]
 rw[show(12:Int)=((12:Nat):Int)from rfl,sw]
 cases (bZ (pV L) (fun _ _=>()) L 0).isSome<;>rfl
end Go.Proofs.YtdejeagdkfokfaaGreatDoor.Sh
namespace Go.Proofs.YtdejeagdkfokfaaGreatDoor.Sh
open Go.RowKit Go.Lib
theorem vF: ∀(x y:List UInt8),(compareBytes x y<0↔Op.bytesLess x y=true)∧(compareBytes x y=0↔x=y)∧(0<compareBytes x y↔Op.bytesLess y x=true)
 | [],[]=>by decide
 | [],b::y=>⟨by simp[compareBytes,Op.bytesLess],by simp[compareBytes],by simp[compareBytes,Op.bytesLess]⟩
 | a::x,[]=>⟨by simp[compareBytes,Op.bytesLess],by simp[compareBytes],by simp[compareBytes,Op.bytesLess]⟩
 | a::x,b::y=>by
  obtain⟨h1,h2,h3⟩:=vF x y
  unfold compareBytes
  rw[o3,o3]
  by_cases hab:a<b
  ·rw[if_pos hab]
   have:=UInt8.lt_iff_toNat_lt.1 hab
   refine⟨⟨fun _=> .inl this,fun _=>by omega⟩,⟨fun h=>by omega,fun h=> ?_⟩,⟨fun h=>by omega,fun h=> ?_⟩⟩
   ·injection h with h
    subst h
    omega
   ·rcases h with h | ⟨h,_⟩
    ·omega
    ·subst h
     omega
  ·rw[if_neg hab]
   by_cases hba:b<a
   ·rw[if_pos hba]
    have:=UInt8.lt_iff_toNat_lt.1 hba
    refine⟨⟨fun h=>by omega,fun h=> ?_⟩,⟨fun h=>by omega,fun h=> ?_⟩,⟨fun _=> .inl this,fun _=>by omega⟩⟩
    ·rcases h with h | ⟨h,_⟩
     ·omega
     ·subst h
      omega
    ·injection h with h
     subst h
     omega
   ·rw[if_neg hba]
    have e:a=b:=UInt8.toNat_inj.1 (by
     have k1: ¬a.toNat<b.toNat:=fun h=>hab (UInt8.lt_iff_toNat_lt.2 h)
     have k2: ¬b.toNat<a.toNat:=fun h=>hba (UInt8.lt_iff_toNat_lt.2 h)
     omega)
    subst e
    rw[h1,h2,h3]
    simp
theorem wV(x y:ByteArray): ∃r,strings_Compare x y=some r∧decide (r<0)=fY x y∧(r==0)=(x.toList==y.toList):=by
 obtain⟨h1,h2,_⟩:=vF x.data.toList y.data.toList
 refine⟨_,rfl,?_,?_⟩
 ·unfold fY
  rw[toList_eq,toList_eq]
  cases hb:Op.bytesLess x.data.toList y.data.toList
  ·rw[decide_eq_false_iff_not,h1,hb]
   simp
  ·rw[decide_eq_true_eq,h1,hb]
 ·rw[toList_eq,toList_eq]
  cases hb:(x.data.toList==y.data.toList)
  ·rw[beq_eq_false_iff_ne]at hb
   rw[beq_eq_false_iff_ne]
   exact fun h=>hb (h2.1 h)
  ·rw[beq_iff_eq]at hb
   rw[beq_iff_eq]
   exact h2.2 hb
theorem la(x:ByteArray):fY x x=false:=nL _
theorem tR{x y z:ByteArray}(h:fY x y=true)(k:fY y z=true):fY x z=true:=na h k
theorem EB{a b:Nat}(h:a+b≤1000000000):bF (Int.fdiv (IntKind.wrap .u64 (bF ((a:Int)+(b:Int)))) (2^1))=(((a+b)/2:Nat):Int):=by
 rw[bx (n:=(a:Int)+(b:Int)) (by omega) (by omega)]
 have e:IntKind.wrap .u64 ((a:Int)+(b:Int))=((a+b:Nat):Int):=by
  rw[IntKind.wrap_u64]
  omega
 rw[e,show(2:Int)^1=2 from rfl,Int.fdiv_eq_ediv_of_nonneg _ (by omega)]
 have:((a+b:Nat):Int)/2=(((a+b)/2:Nat):Int):=by omega
 rw[this]
 exact bx (by omega) (by omega)
theorem Fb{α:Type}{L:List α}(hL:L.length≤1000000)(p:α→Bool)(hmono: ∀(i j:Nat) x y,i≤j→L[i]? =some x→L[j]? =some y→p y=true→p x=true)
  {B:Int×Int→Option ((Int×Int)⊕Int)} (hB: ∀(lo hi:Nat) (x:α),lo<hi→hi≤L.length→L[(lo+hi)/2]? =some x→B ((lo:Int),(hi:Int))=some (.inl (bif p x then((((lo+hi)/2+1:Nat):Int),(hi:Int))else((lo:Int),(((lo+hi)/2:Nat):Int))))) (hE: ∀(lo:Nat),B ((lo:Int),(lo:Int))=some (.inr (lo:Int))):
  ∃k:Nat,loop B (0,(L.length:Int))=some (k:Int)∧k≤L.length∧(∀(i:Nat) x,i<k→L[i]? =some x→p x=true)∧ ∀(i:Nat) x,k≤i→L[i]? =some x→p x=false:=by
 have:=nt (body:=B) (fun s=> ∃lo hi:Nat,s=((lo:Int),(hi:Int))∧lo≤hi∧hi≤L.length∧(∀(i:Nat) x,i<lo→L[i]? =some x→p x=true)∧ ∀(i:Nat) x,hi≤i→L[i]? =some x→p x=false)
  (fun s=>(s.2 - s.1).toNat) (fun r=> ∃k:Nat,r=(k:Int)∧k≤L.length∧(∀(i:Nat) x,i<k→L[i]? =some x→p x=true)∧ ∀(i:Nat) x,k≤i→L[i]? =some x→p x=false)
  (fun s ⟨lo,hi,hs,h1,h2,h3,h4⟩=>by
   subst hs
   by_cases hlt:lo<hi
   ·have hx:L[(lo+hi)/2]? =some (L[(lo+hi)/2]'(by omega)):=List.getElem?_eq_getElem _
    generalize L[(lo+hi)/2]'(by omega)=x at hx
    refine .inl ⟨_,hB lo hi x hlt h2 hx,?_,?_⟩
    ·cases hp:p x
     ·exact⟨lo,(lo+hi)/2,rfl,by omega,by omega,h3,fun i y hi' hy=>by
       cases hq:p y with
       | false=>rfl
       | true=>
        have:=hmono ((lo+hi)/2) i x y hi' hx hy hq
        rw[hp]at this
        cases this⟩
     ·exact⟨(lo+hi)/2+1,hi,rfl,by omega,h2,fun i y hi' hy=>hmono i ((lo+hi)/2) y x (by omega) hy hx hp,h4⟩
    ·cases p x<;>simp<;>omega
   ·obtain rfl:lo=hi:=by omega
    exact .inr ⟨_,hE lo,lo,rfl,h2,h3,h4⟩)
  (s:=(0,(L.length:Int))) ⟨0,L.length,rfl,Nat.zero_le _,Nat.le_refl _,fun i x h=>by omega,fun i x h hx=>by
   have:=(List.getElem?_eq_some_iff.1 hx).1
   omega⟩
 obtain⟨r,h1,k,rfl,h2,h3,h4⟩:=this
 exact⟨k,h1,h2,h3,h4⟩
end Go.Proofs.YtdejeagdkfokfaaGreatDoor.Sh
namespace Go.Proofs.YtdejeagdkfokfaaGreatDoor.Sh
open Go.RowKit Go.Lib
structure PlR (p:Place):Prop where
 c:p.Code.size≤1048576
 l:p.Names.length≤1048576
 n: ∀x∈p.Names,NmR x
def gD(p:Place)(n:Name):Bool:=decide (p.Years.From≤n.Years.From)&&decide (n.Years.To≤p.Years.To)
def ea(p:Place):Bool:=cg p.Code&&(cX p.Class 0 19&&(ii p.Years&&(dZ p.Names&&p.Names.all (gD p))))
theorem uG{p:Place}(h:PlR p):jd p=some (ea p):=by
 have hc:=h.c
 have hl:=h.l
 unfold jd ca cr je fq ea
 rw[lC _ (by unfold maxLen;omega),cZ,nk,ot hl h.n,ix (by omega) (fun n=> !gD p n) (fun i x hx=>by
  rw[bk,hx,Option.bind_some]
  unfold gD
  cases decide (p.Years.From≤x.Years.From)<;>cases decide (x.Years.To≤p.Years.To)<;>rfl)]
 simp only[Option.bind_some,io,←List.not_all_eq_any_not,Bool.not_not]
 cases cg p.Code<;>cases cX p.Class 0 19<;>cases ii p.Years<;>cases dZ p.Names<;>rfl
theorem pI{p:Place}(h:PlR p):hN p=some (ea p):=by
 have hc:=h.c
 have hl:=h.l
 unfold hN ea
 rw[fM _ (by unfold maxLen;omega),eR,nC,jX hl h.n,gh (by omega) (fun n=> !gD p n) false (fun i x hx=>by
  simp only[bk,hx,Option.bind_some]
  unfold gD
  by_cases h1:x.Years.From<p.Years.From
  ·rw[decide_eq_true h1,decide_eq_false (show ¬p.Years.From≤x.Years.From by omega)]
   rfl
  ·rw[decide_eq_false h1,decide_eq_true (show p.Years.From≤x.Years.From by omega)]
   by_cases h2:x.Years.To>p.Years.To
   ·rw[decide_eq_true h2,decide_eq_false (show ¬x.Years.To≤p.Years.To by omega)]
    rfl
   ·rw[decide_eq_false h2,decide_eq_true (show x.Years.To≤p.Years.To by omega)]
    rfl),←List.not_all_eq_any_not]
 cases cg p.Code<;>cases cX p.Class 0 19<;>cases ii p.Years<;>cases dZ p.Names<;>cases p.Names.all (gD p)<;>rfl
def oB(L:List Place)(i:Nat)(p:Place):Bool:= !ea p || (decide (0<i)&&match L[i - 1]? with | some q=> !fY q.Code p.Code | none=>false)
def ja(L:List Place):Bool:= !(bZ (oB L) (fun _ _=>()) L 0).isSome&&decide (L.length≤10)
theorem wx{L:List Place}(hL:L.length≤1048576){i:Nat}{x:Place}(hx:L[i]? =some x)(h0:0<i): ∃q,L[i - 1]? =some q∧at' L (bF ((i:Int)- 1))=some q:=by
 have hi:i<L.length:=(List.getElem?_eq_some_iff.1 hx).1
 have hq:L[i - 1]? =some (L[i - 1]'(by omega)):=List.getElem?_eq_getElem _
 refine⟨_,hq,?_⟩
 rw[bx (by omega) (by omega),show(i:Int)- 1=((i - 1:Nat):Int) by omega,bk,hq]
theorem xl{L:List Place}(hL:L.length≤1048576)(h: ∀x∈L,PlR x):ga L=some (ja L):=by
 unfold ga ja
 rw[fS (by omega) (oB L) (fun _ _=>false) (fun i x hx=>by
  rw[bk,hx,Option.bind_some,uG (h x (List.mem_of_getElem? hx)),Option.bind_some]
  unfold oB
  cases ea x
  ·rfl
  by_cases h0:0<i
  ·obtain⟨q,h1,h2⟩:=wx hL hx h0
   rw[decide_eq_true h0,decide_eq_true (show(i:Int)>0 by omega),h1,h2]
   show((some (!fY q.Code x.Code)).bind _)=(bif(!true || (true&& !fY q.Code x.Code))then _ else _)
   cases fY q.Code x.Code<;>rfl
  ·rw[decide_eq_false h0,decide_eq_false (show ¬(i:Int)>0 by omega)]
   rfl),fO]
 rw[show(10:Int)=((10:Nat):Int)from rfl,sw]
 cases (bZ (oB L) (fun _ _=>()) L 0).isSome<;>rfl
theorem mQ{L:List Place}(hL:L.length≤1048576)(h: ∀x∈L,PlR x):c9 L=some (ja L):=by
 unfold c9 ja
 rw[fS (by omega) (oB L) (fun _ _=>false) (fun i x hx=>by
  simp only[bk,hx,Option.bind_some,pI (h x (List.mem_of_getElem? hx))]
  unfold oB
  cases ea x
  ·rfl
  by_cases h0:0<i
  ·obtain⟨q,h1,h2⟩:=wx hL hx h0
   rw[decide_eq_true h0,decide_eq_true (show(i:Int)>0 by omega),h1,h2]
   show((some (!fY q.Code x.Code)).bind _)=(bif(!true || (true&& !fY q.Code x.Code))then _ else _)
   cases fY q.Code x.Code<;>rfl
  ·rw[decide_eq_false h0,decide_eq_false (show ¬(i:Int)>0 by omega)]
   rfl),fO]
 rw[show(10:Int)=((10:Nat):Int)from rfl,sw]
 cases (bZ (oB L) (fun _ _=>()) L 0).isSome<;>rfl
def pC(L:List Place):Prop:= ∀(i j:Nat) x y,i<j→L[i]? =some x→L[j]? =some y→fY x.Code y.Code=true
theorem gL{L:List Place}:ja L=true↔pC L∧(∀x∈L,ea x=true)∧L.length≤10:=by
 have hno:ja L=true↔(∀i x,L[i]? =some x→oB L i x=false)∧L.length≤10:=by
  unfold ja
  rw[Bool.and_eq_true,Bool.not_eq_true',decide_eq_true_eq]
  refine and_congr_left fun _=>⟨fun h i x hx=> ?_,fun h=> ?_⟩
  ·have:=nN h i x hx
   rwa [Nat.zero_add]at this
  ·cases hf:(bZ (oB L) (fun _ _=>()) L 0).isSome with
   | false=>rfl
   | true=>
    have key: ∀(M:List Place) (k:Nat),(bZ (oB L) (fun _ _=>()) M k).isSome=true→ ∃i x,M[i]? =some x∧oB L (k+i) x=true:=by
     intro M
     induction M with
     | nil=>intro k h;cases h
     | cons y M ih=>
      intro k h
      unfold bZ at h
      cases hb:oB L k y
      ·rw[hb,cond_false]at h
       obtain⟨i,x,h1,h2⟩:=ih (k+1) h
       exact⟨i+1,x,by simpa using h1,by rw[show k+(i+1)=k+1+i by omega];exact h2⟩
      ·exact⟨0,y,rfl,hb⟩
    obtain⟨i,x,h1,h2⟩:=key L 0 hf
    rw[Nat.zero_add,h i x h1]at h2
    cases h2
 rw[hno]
 constructor
 ·rintro⟨h,hl⟩
  have hstep: ∀(i:Nat) x y,L[i]? =some x→L[i+1]? =some y→fY x.Code y.Code=true:=by
   intro i x y hx hy
   have:=h (i+1) y hy
   unfold oB at this
   rw[Bool.or_eq_false_iff]at this
   have h3:=this.2
   rw[decide_eq_true (by omega:0<i+1),Bool.true_and,show i+1 - 1=i by omega,hx]at h3
   simpa using h3
  refine⟨?_,fun x hx=> ?_,hl⟩
  ·intro i j x y hij hx hy
   obtain⟨d,rfl⟩: ∃d,j=i+1+d:=⟨j - i - 1,by omega⟩
   induction d generalizing y with
   | zero=>exact hstep i x y hx hy
   | succ d ih=>
    have hlt:i+1+d<L.length:=by
     have:=(List.getElem?_eq_some_iff.1 hy).1
     omega
    have hz:L[i+1+d]? =some (L[i+1+d]'hlt):=List.getElem?_eq_getElem _
    exact tR (ih (L[i+1+d]'hlt) (by omega) hz) (hstep (i+1+d) _ y hz hy)
  ·obtain⟨i,hi⟩:=List.mem_iff_getElem?.1 hx
   have:=h i x hi
   unfold oB at this
   rw[Bool.or_eq_false_iff]at this
   simpa using this.1
 ·rintro⟨hs,hp,hl⟩
  refine⟨fun i x hx=> ?_,hl⟩
  unfold oB
  rw[hp x (List.mem_of_getElem? hx),Bool.not_true,Bool.false_or]
  by_cases h0:0<i
  ·have hi:i<L.length:=(List.getElem?_eq_some_iff.1 hx).1
   have hq:L[i - 1]? =some (L[i - 1]'(by omega)):=List.getElem?_eq_getElem _
   rw[decide_eq_true h0,hq]
   have:=hs (i - 1) i _ x (by omega) hq hx
   simp[this]
  ·rw[decide_eq_false h0,Bool.false_and]
def bu(c:ByteArray)(p:Place):Bool:=p.Code.toList==c.toList
theorem mC{L:List Place}(hL:L.length≤1048576)(c:ByteArray):ct L c=some (cK (bu c) L):=by
 unfold ct
 exact ix (by omega) (bu c) (fun i x hx=>by rw[bk,hx];rfl)
theorem oE{L:List Place}(hL:L.length≤10)(hs:pC L)(c:ByteArray): ∃k:Nat,cD L c=some ((k:Int),L.any (bu c))∧k≤L.length∧(∀(i:Nat) x,i<k→L[i]? =some x→fY x.Code c=true)∧(∀(i:Nat) x,k≤i→L[i]? =some x→fY x.Code c=false)∧(L.any (bu c)=true→cK (bu c) L=k∧k<L.length):=by
 have hmono: ∀(i j:Nat) (x y:Place),i≤j→L[i]? =some x→L[j]? =some y→fY y.Code c=true→fY x.Code c=true:=by
  intro i j x y hij hx hy h
  rcases Nat.lt_or_eq_of_le hij with hlt | rfl
  ·exact tR (hs i j x y hlt hx hy) h
  ·rw[hx]at hy
   injection hy with hy
   rw[hy]
   exact h
 have hcmp: ∀x:Place,∃r,dG x c=some r∧decide (r<0)=fY x.Code c∧(r==0)=bu c x:=by
  intro x
  obtain⟨r,h1,h2,h3⟩:=wV x.Code c
  exact⟨r,by unfold dG;rw[h1];rfl,h2,h3⟩
 have hloop:=Fb (L:=L) (by omega) (fun x=>fY x.Code c) hmono (B:=fun(s3:Int×Int)=>(bif(decide (s3.1<s3.2))then((at' L (bF (Int.fdiv (IntKind.wrap .u64 (bF (s3.1+s3.2))) (2^1)))).bind fun x5=>((dG x5 c).bind fun x6=>(bif(decide (x6<0))then some (.inl ((bF ((bF (Int.fdiv (IntKind.wrap .u64 (bF (s3.1+s3.2))) (2^1)))+1)),s3.2))else some (.inl (s3.1,(bF (Int.fdiv (IntKind.wrap .u64 (bF (s3.1+s3.2))) (2^1))))))))else some (.inr s3.1)))
  (fun lo hi x hlt hhi hx=>by
   simp only[EB (show lo+hi≤1000000000 by omega),bk,hx,Option.bind_some,decide_eq_true (show(lo:Int)<hi by omega),cond_true]
   obtain⟨r,h1,h2,_⟩:=hcmp x
   rw[h1,Option.bind_some,h2,bx (by omega) (by omega)]
   cases fY x.Code c
   ·rfl
   ·simp only[cond_true]
    congr 3)
  (fun lo=>by simp only[decide_eq_false (show ¬(lo:Int)<lo by omega),cond_false])
 obtain⟨k,h1,h2,h3,h4⟩:=hloop
 refine⟨k,?_,h2,h3,h4,fun ha=> ?_⟩
 ·unfold cD bL
  rw[h1,Option.bind_some]
  by_cases hk:k<L.length
  ·have hx:L[k]? =some (L[k]'hk):=List.getElem?_eq_getElem _
   generalize L[k]'hk=x at hx
   obtain⟨r,e1,_,e3⟩:=hcmp x
   rw[decide_eq_true (show(k:Int)<L.length by omega),cond_true,bk,hx,Option.bind_some,e1,Option.bind_some,e3]
   have:L.any (bu c)=bu c x:=by
    rw[Bool.eq_iff_iff,List.any_eq_true]
    refine⟨fun⟨y,hy,hcy⟩=> ?_,fun h=>⟨x,List.mem_of_getElem? hx,h⟩⟩
    obtain⟨i,hi⟩:=List.mem_iff_getElem?.1 hy
    have hyc:y.Code=c:=kn.1 hcy
    rcases Nat.lt_trichotomy i k with h | h | h
    ·have:=h3 i y h hi
     rw[hyc,la]at this
     cases this
    ·subst h
     rw[hx]at hi
     injection hi with hi
     rw[hi]
     exact hcy
    ·have h5:=hs k i x y h hx hi
     rw[hyc]at h5
     have:=h4 k x (Nat.le_refl _) hx
     rw[h5]at this
     cases this
   rw[this]
   rfl
  ·rw[decide_eq_false (show ¬(k:Int)<L.length by omega)]
   have:L.any (bu c)=false:=by
    rw[Bool.eq_false_iff]
    intro h
    obtain⟨y,hy,hcy⟩:=List.any_eq_true.1 h
    obtain⟨i,hi⟩:=List.mem_iff_getElem?.1 hy
    have:=h3 i y (by have:=(List.getElem?_eq_some_iff.1 hi).1;omega) hi
    rw[show y.Code=c from kn.1 hcy,la]at this
    cases this
   rw[this]
   rfl
 ·obtain⟨y,hy,hcy⟩:=List.any_eq_true.1 ha
  have hge:=(io (bu c) L).trans ha
  have hge:cK (bu c) L≥0:=of_decide_eq_true hge
  have hlt:=(lz (bu c) L).2
  obtain⟨m,hm⟩: ∃m:Nat,cK (bu c) L=m:=⟨_,(Int.toNat_of_nonneg hge).symm⟩
  obtain⟨x,hx,hcx⟩:=pe (bu c) hm
  have hxc:x.Code=c:=kn.1 hcx
  have:m=k:=by
   rcases Nat.lt_trichotomy m k with h | h | h
   ·have:=h3 m x h hx
    rw[hxc,la]at this
    cases this
   ·exact h
   ·have hz:L[k]? =some (L[k]'(by omega)):=List.getElem?_eq_getElem _
    have h5:=hs k m _ x h hz hx
    rw[hxc]at h5
    have:=h4 k _ (Nat.le_refl _) hz
    rw[h5]at this
    cases this
  rw[hm,this]
  exact⟨rfl,by omega⟩
end Go.Proofs.YtdejeagdkfokfaaGreatDoor.Sh
namespace Go.Proofs.YtdejeagdkfokfaaGreatDoor.Sh
open Go.RowKit Go.Lib
theorem eY{α β S A:Type}{L:List α}(hL:L.length≤1048576){B:Int→S→Option S}{D:S→A}(mk:List β→S)(f:α→List β)(hf: ∀x∈L,(f x).length≤1)(h: ∀(i:Nat) x (s:List β),L[i]? =some x→s.length≤1048576→B (i:Int) (mk s)=some (mk (s++f x))):jH (L.length:Int) B D 0 (mk [])=some (D (mk (L.flatMap f))):=by
 have key: ∀(M:List α) (k:Nat) (s:List β),L.drop k=M→k+M.length=L.length→s.length≤k→jm (fun i s=>(B (i:Int) s).map .inl) D M.length k (mk s)=some (D (mk (s++M.flatMap f))):=by
  intro M
  induction M with
  | nil=>intro k s _ _ _;simp[jm]
  | cons x M ih=>
   intro k s hd hk hs
   have hx:L[k]? =some x:=by
    have:=List.getElem?_drop (xs:=L) (i:=k) (j:=0)
    rw[hd]at this
    simpa using this.symm
   have hlt:=(List.getElem?_eq_some_iff.1 hx).1
   rw[List.length_cons]
   unfold jm
   rw[h k x s hx (by omega)]
   show jm _ D M.length (k+1) (mk (s++f x))=_
   have hfx:=hf x (List.mem_of_getElem? hx)
   rw[ih (k+1) _ (by rw[←List.drop_drop,hd];rfl) (by simp at hk;omega) (by rw[List.length_append];omega),List.flatMap_cons,List.append_assoc]
 rw[nO,lZ _ (by omega)]
 exact key L 0 [] rfl (by simp) (by simp)
theorem tF{α β S A:Type}{L:List α}(hL:L.length≤1048576){B:Int→S→Option S}{D:S→A}(mk:List β→S)(f:α→β)(h: ∀(i:Nat) x (s:List β),L[i]? =some x→s.length≤1048576→B (i:Int) (mk s)=some (mk (s++[f x]))):jH (L.length:Int) B D 0 (mk [])=some (D (mk (L.map f))):=by
 rw[eY hL mk (fun x=>[f x]) (fun _ _=>by simp) h]
 rw[List.map_eq_flatMap]
def lX(y:Int)(n:Name):List Name:=bif decide (n.Years.From<y)then[Name.mk n.Text n.Language n.Status (Span.mk n.Years.From (bM n.Years.To (y - 1)))]else[]
theorem nd(y:Int)(n:Name):(lX y n).length≤1:=by
 unfold lX
 cases decide (n.Years.From<y)<;>simp
def ln(y:Int)(p:Place):Place:=Place.mk p.Code p.Class (Span.mk p.Years.From (y - 1)) (p.Names.flatMap (lX y))
theorem ov{p:Place}(h:PlR p){y:Int}(hy:cX y (-3000) 3000=true):fm p y=some (ln y p):=by
 have hl:=h.l
 rw[bi]at hy
 unfold fm
 rw[bx (n:=y - 1) (by omega) (by omega)]
 rw[eY (S:=ByteArray×Int×Int×Int×List Name) hl (fun s=>(p.Code,p.Class,p.Years.From,y - 1,s)) (lX y) (fun x _=>nd y x) (fun i x s hx hs=>by
  rw[bk,hx,Option.bind_some]
  unfold lX
  cases decide (x.Years.From<y)
  ·simp
  ·rw[cond_true,cond_true,cL (by simp;omega),Option.bind_some])]
 rfl
theorem wD{p:Place}(h:PlR p)(hp:ea p=true){y:Int}(hy:cX y (-3000) 3000=true)(hh:cX (y - 1) p.Years.From p.Years.To=true):ki p y=some (ln y p):=by
 have hl:=h.l
 rw[bi]at hy hh
 have hn: ∀n∈p.Names,n.Years.From≤n.Years.To:=fun n hn=>by
  unfold ea at hp
  simp only[Bool.and_eq_true]at hp
  have h1:=hp.2.2.2.1
  unfold dZ at h1
  rw[Bool.and_eq_true,Bool.not_eq_true']at h1
  obtain⟨i,hi⟩:=List.mem_iff_getElem?.1 hn
  have h2:=nN h1.1 i n hi
  unfold pV at h2
  rw[Bool.or_eq_false_iff,Bool.not_eq_false']at h2
  have h3:=h2.1
  unfold js ii at h3
  simp only[Bool.and_eq_true,decide_eq_true_eq]at h3
  exact h3.2.2.2.2.2
 unfold ki
 rw[bx (n:=y - 1) (by omega) (by omega)]
 rw[eY (S:=List Name) hl (fun s=>s) (lX y) (fun x _=>nd y x) (fun i x s hx hs=>by
  rw[bk,hx,Option.bind_some]
  unfold lX
  have h1:=hn x (List.mem_of_getElem? hx)
  by_cases h2:x.Years.From<y
  ·rw[decide_eq_true h2,decide_eq_true (show x.Years.From≤bM x.Years.To (y - 1) by unfold bM;split<;>omega),cond_true,cond_true,cL (by simp;omega),Option.bind_some]
  ·rw[decide_eq_false h2,decide_eq_false (show ¬x.Years.From≤bM x.Years.To (y - 1) by unfold bM;split<;>omega),cond_false,cond_false,List.append_nil])]
 have hm:bM p.Years.To (y - 1)=y - 1:=by unfold bM;split<;>omega
 rw[hm]
 rfl
theorem Ak{p:Place}(h:PlR p):fk p=some p:=by
 have hl:=h.l
 unfold fk dW
 rw[if_pos (by omega)]
 rfl
theorem vE{L:List Place}(hL:L.length≤1048576)(h: ∀x∈L,PlR x):eB L=some L:=by
 unfold eB
 rw[tF (S:=List Place) hL (fun s=>s) (fun x=>x) (fun i x s hx hs=>by
  rw[bk,hx,Option.bind_some,Ak (h x (List.mem_of_getElem? hx)),Option.bind_some,cL (by simp;omega)]
  rfl),List.map_id']
 rfl
theorem xx{L:List Place}(hL:L.length≤1048576)(h: ∀x∈L,PlR x):fN L=some L:=by
 unfold fN
 rw[tF (S:=List Place) hL (fun s=>s) (fun x=>x) (fun i x s hx hs=>by
  have hl:=(h x (List.mem_of_getElem? hx)).l
  rw[bk,hx,Option.bind_some,cL (by simp;omega),Option.bind_some,cL (by simp;omega)]
  rfl),List.map_id']
 rfl
theorem Aw{p:Place}(h:PlR p)(y:Int):PlR (ln y p):=by
 refine⟨h.c,?_,fun x hx=> ?_⟩
 ·have h1:(p.Names.flatMap (lX y)).length≤p.Names.length:=by
   induction p.Names with
   | nil=>simp
   | cons x l ih=>
    have:=nd y x
    rw[List.flatMap_cons,List.length_append,List.length_cons]
    omega
  exact Nat.le_trans h1 h.l
 ·obtain⟨n,hn,hx⟩:=List.mem_flatMap.1 hx
  have h1:=h.n n hn
  unfold lX at hx
  cases hd:decide (n.Years.From<y)
  ·rw[hd]at hx
   simp at hx
  ·rw[hd]at hx
   have:x=Name.mk n.Text n.Language n.Status (Span.mk n.Years.From (bM n.Years.To (y - 1))):=by simpa using hx
   rw[this]
   exact⟨h1.t,h1.l⟩
def uT(L:List Place)(c:ByteArray)(y:Int):Int:=bif ja L&&cg c then bif cX y (-3000) 3000 then 0 else 2 else 1
def D4(L:List Place)(c:ByteArray)(y:Int):List Place×Int:=bif uT L c y==0 then(match L[(cK (bu c) L).toNat]? with
  | some p=>bif L.any (bu c)then bif cX (y - 1) p.Years.From p.Years.To then(L.set (cK (bu c) L).toNat (ln y p),0)else([],5)else([],4)
  | none=>([],4))else([],uT L c y)
theorem zD{L:List Place}{c:ByteArray}{y:Int}(h:(uT L c y==0)=true):ja L=true∧cX y (-3000) 3000=true:=by
 unfold uT at h
 cases h1:ja L&&cg c
 ·rw[h1]at h
  simp at h
 ·rw[Bool.and_eq_true]at h1
  refine⟨h1.1,?_⟩
  cases h2:cX y (-3000) 3000
  ·rw[h1.1,h1.2,h2]at h
   simp at h
  ·rfl
theorem rj{L:List Place}(hL:L.length≤1048576)(h: ∀x∈L,PlR x){c:ByteArray}(hc:c.size≤1048576)(y:Int):jx L c y=some (bif uT L c y==0 then bif L.any (bu c)then 0 else 4 else uT L c y):=by
 unfold jx dm uT
 rw[mQ hL h,fM _ (by unfold maxLen;omega),eR,mC hL]
 simp only[Option.bind_some,AQ]
 cases ja L<;>cases cg c<;>cases cX y (-3000) 3000<;>cases L.any (bu c)<;>rfl
theorem pH{L:List Place}(hL:L.length≤1048576)(h: ∀x∈L,PlR x){c:ByteArray}(hc:c.size≤1048576)(y:Int):gu L c y=some (D4 L c y):=by
 unfold gu D4
 rw[rj hL h hc,Option.bind_some,mC hL]
 cases h0:(uT L c y==0)
 ·rw[cond_false,cond_false,bne,h0]
  rfl
 ·obtain⟨h1,h2⟩:=zD h0
  obtain⟨h3,h4,h5⟩:=gL.1 h1
  obtain⟨k,e1,e2,e3,e4,e5⟩:=oE h5 h3 c
  rw[cond_true,cond_true]
  cases ha:L.any (bu c)
  ·rw[cond_false]
   cases L[(cK (bu c) L).toNat]? <;>rfl
  ·obtain⟨q1,q2⟩:=e5 ha
   have hp:L[k]? =some L[k]:=List.getElem?_eq_getElem q2
   generalize L[k]=p at hp
   have hr:=h p (List.mem_of_getElem? hp)
   have hpl:=h4 p (List.mem_of_getElem? hp)
   have hy:=bi.1 h2
   rw[cond_true,q1,Int.toNat_natCast,hp]
   have e0:((0:Int) !=0)=false:=rfl
   rw[e0,cond_false,Option.bind_some,bk,hp,Option.bind_some]
   unfold dp
   rw[eR,bx (n:=y - 1) (by omega) (by omega),Option.bind_some,Option.bind_some]
   show _=some (bif cX (y - 1) p.Years.From p.Years.To then(L.set k (ln y p),0)else([],5))
   cases hh:cX (y - 1) p.Years.From p.Years.To
   ·rfl
   ·have hset: ∀x∈L.set k (ln y p),PlR x:=fun x hx=>by
     rcases List.mem_or_eq_of_mem_set hx with hx | rfl
     ·exact h x hx
     ·exact Aw hr y
    simp only[Bool.not_true,cond_false,cond_true,cL (show([]:List Place).length+L.length≤68719476736 by simp;omega),Option.bind_some,List.nil_append,bk,hp,wD hr hpl h2 hh,Int.toNat_natCast,xx (show(L.set k (ln y p)).length≤1048576 by simpa using hL) hset]
end Go.Proofs.YtdejeagdkfokfaaGreatDoor.Sh
namespace Go.Proofs.YtdejeagdkfokfaaGreatDoor.Sh
open Go.RowKit Go.Lib
structure LkR (l:ay):Prop where
 c:l.Child.size≤1048576
 p:l.Parent.size≤1048576
def jr(l:ay):Bool:=cg l.Child&&(cg l.Parent&&(!(l.Child.toList==l.Parent.toList)&&ii l.Years))
theorem zd{l:ay}(h:LkR l):kd l=some (jr l):=by
 have h1:=h.c
 have h2:=h.p
 unfold kd jr
 rw[jP _ (by simp) (fun x hx=>by
  rcases List.mem_cons.1 hx with rfl | hx
  ·simp only[maxLen];omega
  ·obtain rfl:=List.mem_singleton.1 hx
   simp only[maxLen];omega),Option.bind_some,nk]
 simp only[List.all_cons,List.all_nil,Bool.and_true]
 cases cg l.Child<;>cases cg l.Parent<;>cases l.Child.toList==l.Parent.toList<;>rfl
theorem tZ{l:ay}(h:LkR l):jV l=some (jr l):=by
 have h1:=h.c
 have h2:=h.p
 unfold jV jr
 rw[fM _ (by simp only[maxLen];omega),fM _ (by simp only[maxLen];omega),nC]
 cases cg l.Child<;>cases cg l.Parent<;>cases l.Child.toList==l.Parent.toList<;>rfl
theorem sf{α:Type}(p:α→Bool): ∀L:List α,(cK p L= -1∧L.find? p=none)∨ ∃(i:Nat) (x:α),cK p L=i∧L[i]? =some x∧L.find? p=some x
 | []=> .inl ⟨rfl,rfl⟩
 | x::l=>by
  unfold cK
  cases hp:p x
  ·rw[List.find?_cons_of_neg (by rw[hp];simp)]
   rcases sf p l with⟨h1,h2⟩ | ⟨i,y,h1,h2,h3⟩
   ·rw[h1]
    exact .inl ⟨rfl,h2⟩
   ·have hd:decide ((i:Int)<0)=false:=decide_eq_false (by omega)
    simp only[h1,cond_false,hd]
    exact .inr ⟨i+1,y,by simp,by simpa using h2,h3⟩
  ·rw[List.find?_cons_of_pos hp]
   exact .inr ⟨0,x,rfl,rfl,rfl⟩
theorem qJ{α A:Type}(p:α→Bool)(f:α→A): ∀(L:List α) (k:Nat),bZ (fun _ x=>p x) (fun _ x=>f x) L k=(L.find? p).map f
 | [],_=>rfl
 | x::l,k=>by
  unfold bZ
  cases hp:p x
  ·rw[List.find?_cons_of_neg (by rw[hp];simp)]
   exact qJ p f l (k+1)
  ·rw[List.find?_cons_of_pos hp]
   rfl
def iZ(c:ByteArray)(y:Int)(l:ay):Bool:=(l.Child.toList==c.toList)&&cX y l.Years.From l.Years.To
def par(L:List ay)(c:ByteArray)(y:Int):Option ByteArray:=(L.find? (iZ c y)).map ay.Parent
def px(o:Option ByteArray):ByteArray×Bool:=match o with | some v=>(v,true) | none=>(ByteArray.mk #[],false)
theorem ji{L:List ay}(hL:L.length≤1048577)(c:ByteArray)(y:Int):cy L c y=some (px (par L c y)):=by
 unfold cy cj iM bI
 rw[ix (by omega) (iZ c y) (fun i x hx=>by
  rw[bk,hx,Option.bind_some,cZ]
  unfold iZ
  cases x.Child.toList==c.toList<;>rfl)]
 unfold par
 rcases sf (iZ c y) L with⟨h1,h2⟩ | ⟨i,x,h1,h2,h3⟩
 ·rw[h1,h2]
  rfl
 ·rw[h1,h3,Option.bind_some,decide_eq_false (by omega),cond_false,bk,h2]
  rfl
theorem sK{L:List ay}(hL:L.length≤1048577)(c:ByteArray)(y:Int):eF L c y=some (px (par L c y)).1:=by
 unfold eF
 rw[fS (by omega) (fun _=>iZ c y) (fun _ x=>x.Parent) (fun i x hx=>by
  rw[bk,hx]
  simp only[Option.bind_some,eR]
  unfold iZ
  cases x.Child.toList==c.toList<;>rfl),qJ (iZ c y) ay.Parent]
 unfold par
 cases L.find? (iZ c y)<;>rfl
theorem any_eq{L:List ByteArray}{v:ByteArray}:(L.any fun x=>v.toList==x.toList)=true↔v∈L:=by
 rw[List.any_eq_true]
 refine⟨fun⟨x,h1,h2⟩=> ?_,fun h=>⟨v,h,kn.2 rfl⟩⟩
 rw[kn.1 h2]
 exact h1
theorem any_eq'{L:List ByteArray}{v:ByteArray}:(L.any fun x=>x.toList==v.toList)=true↔v∈L:=by
 rw[List.any_eq_true]
 refine⟨fun⟨x,h1,h2⟩=> ?_,fun h=>⟨v,h,kn.2 rfl⟩⟩
 rw[←kn.1 h2]
 exact h1
theorem contains_eq{L:List ByteArray}(hL:L.length≤1000000000)(v:ByteArray):cB L v=some (L.any fun x=>v.toList==x.toList):=by
 unfold cB fi
 rw[ix (by omega) (fun x=>v.toList==x.toList) (fun i x hx=>by rw[bk,hx];rfl),Option.bind_some,io]
theorem yA{L:List ByteArray}(hL:L.length≤1000000000)(v:ByteArray): ∃n:Int,hZ L v=some n∧decide (n≥0)=L.any fun x=>x.toList==v.toList:=by
 unfold hZ
 rw[ix (by omega) (fun x=>x.toList==v.toList) (fun i x hx=>by rw[bk,hx];rfl)]
 exact⟨_,rfl,io _ L⟩
theorem filter_lt{α:Type}{p q:α→Bool}(h: ∀x,q x=true→p x=true){a:α}(hp:p a=true)(hq:q a=false): ∀{L:List α},a∈L→(L.filter q).length<(L.filter p).length
 | x::L,ha=>by
  have hle: ∀M:List α,(M.filter q).length≤(M.filter p).length:=fun M=>by
   induction M with
   | nil=>exact Nat.le_refl _
   | cons z M ih=>
    rw[List.filter_cons,List.filter_cons]
    cases hz:q z
    ·cases p z<;>simp<;>omega
    ·rw[h z hz]
     simp
     omega
  rw[List.filter_cons,List.filter_cons]
  rcases List.mem_cons.1 ha with rfl | ha
  ·have:=hle L
   simp[hp,hq]
   omega
  ·have:=filter_lt h hp hq ha
   cases hz:q x
   ·cases p x<;>simp<;>omega
   ·rw[h x hz]
    simp
    omega
def nI(C out:List ByteArray):Nat:=(C.filter fun v=> !(out.any fun x=>v.toList==x.toList)).length
theorem pQ{C out:List ByteArray}{v:ByteArray}(h1:v∈C)(h2:v∉out):nI C (out++[v])<nI C out:=by
 unfold nI
 have hf: ∀{M:List ByteArray} {x:ByteArray},(!(M.any fun z=>x.toList==z.toList))=true↔x∉M:=fun{M x}=>by
  rw[Bool.not_eq_true',Bool.eq_false_iff,ne_eq,any_eq]
 refine filter_lt (fun x hx=> ?_) (a:=v) (hf.2 h2) ?_ h1
 ·rw[hf]at hx⊢
  exact fun h=>hx (List.mem_append_left _ h)
 ·rw[Bool.eq_false_iff,ne_eq,hf]
  simp
theorem Bh{L:List ay}(h: ∀x∈L,jr x=true){c:ByteArray}{y:Int}{v:ByteArray}(hv:par L c y=some v):1≤v.size∧v∈L.map ay.Parent:=by
 unfold par at hv
 rw[Option.map_eq_some_iff]at hv
 obtain⟨l,h1,rfl⟩:=hv
 have hm:=List.mem_of_find?_eq_some h1
 have h2:=h l hm
 unfold jr at h2
 simp only[Bool.and_eq_true]at h2
 exact⟨(gV h2.2.1).1,List.mem_map.2 ⟨l,hm,rfl⟩⟩
theorem E1{L:List ay}(hL:L.length≤1048576)(hc: ∀x∈L,jr x=true){place:ByteArray}(hp0:1≤place.size)(y:Int): ∃way b l,jQ L place y=some way∧((at' way (bF ((way.length:Int)- 1))).bind fun x2=>((cy L x2 y).bind fun x3=>some x3.2))=some b∧kj L place y=some (l,!b):=by
 have key: ∀(n:Nat) (out:List ByteArray) (v:ByteArray),nI (place::L.map ay.Parent) out≤n→v∈place::L.map ay.Parent→v∉out→1≤v.size→out.length+nI (place::L.map ay.Parent) out≤1048577→
   ∃way b l,loop (fun(s1:(List ByteArray))=>((at' s1 (bF ((s1.length:Int)- 1))).bind fun x3=>((cy L x3 y).bind fun x4=>(((bif(!x4.2)then some true else((cB s1 x4.1).bind fun x5=>some x5))).bind fun(j6:Bool)=>(bif j6 then some (.inr s1)else((c4 s1 ([x4.1]:List ByteArray)).bind fun x8=>some (.inl x8))))))) (out++[v])=some way∧
   ((at' way (bF ((way.length:Int)- 1))).bind fun x2=>((cy L x2 y).bind fun x3=>some x3.2))=some b∧
   ((loop (fun(s3:ByteArray×(List ByteArray))=>(bif(!(s3.1.toList==(ByteArray.mk #[]).toList))then((hZ s3.2 s3.1).bind fun x5=>(bif(decide (x5≥0))then some (.inr (.inr (([]:List ByteArray),false)))else((c4 s3.2 ([s3.1]:List ByteArray)).bind fun x6=>((eF L s3.1 y).bind fun x7=>some (.inl (x7,x6))))))else some (.inr (.inl s3.2)))) (v,out))).bind (Sum.elim (fun(j1:(List ByteArray))=>some (j1,true)) some)=some (l,!b):=by
  intro n
  induction n with
  | zero=>
   intro out v h1 h2 h3
   have:=pQ h2 h3
   omega
  | succ n ih=>
   intro out v h1 h2 h3 hv1 h13
   have hlt:=pQ h2 h3
   have hl:out.length≤1048577:=by omega
   have hlen:(out++[v]).length=out.length+1:=by simp
   have hat:at' (out++[v]) (bF (((out++[v]).length:Int)- 1))=some v:=by
    rw[bx (by omega) (by omega),hlen,show((out.length+1:Nat):Int)- 1=(out.length:Int) by omega,bk]
    simp
   obtain⟨m,hm,hm'⟩:=yA (L:=out) (by omega) v
   have hno:(out.any fun x=>x.toList==v.toList)=false:=by
    rw[Bool.eq_false_iff,ne_eq,any_eq']
    exact h3
   rw[hno]at hm'
   rw[dz]
   conv in loop _ (v,out)=>rw[dz]
   simp only[hat,Option.bind_some,ji (show L.length≤1048577 by omega),rS hv1,Bool.not_false,cond_true,hm,hm',cond_false,cL (show out.length+[v].length≤68719476736 by simp;omega),sK (show L.length≤1048577 by omega)]
   cases ht:par L v y with
   | none=>
    have e0:px none=(ByteArray.mk #[],false):=rfl
    have e2:((ByteArray.mk #[]).toList==(ByteArray.mk #[]).toList)=true:=kn.2 rfl
    rw[dz]
    simp only[e0,e2,Bool.not_false,Bool.not_true,cond_false,cond_true,Option.bind_some]
    refine⟨out++[v],false,out++[v],rfl,?_,rfl⟩
    rw[hat,Option.bind_some,ht]
    rfl
   | some u=>
    obtain⟨hu1,hu2⟩:=Bh hc ht
    have e1:px (some u)=(u,true):=rfl
    simp only[e1,Bool.not_true,cond_false,contains_eq (show(out++[v]).length≤1000000000 by omega),Option.bind_some]
    by_cases hin:u∈out++[v]
    ·obtain⟨m2,hm2,hm2'⟩:=yA (L:=out++[v]) (by omega) u
     rw[any_eq'.2 hin]at hm2'
     rw[dz]
     simp only[any_eq.2 hin,cond_true,rS hu1,Bool.not_false,hm2,Option.bind_some,hm2']
     refine⟨out++[v],true,[],rfl,?_,rfl⟩
     rw[hat,Option.bind_some,ht]
     rfl
    ·have hnot:((out++[v]).any fun x=>u.toList==x.toList)=false:=by
      rw[Bool.eq_false_iff,ne_eq,any_eq]
      exact hin
     simp only[hnot,cond_false,cL (show(out++[v]).length+[u].length≤68719476736 by simp;omega),Option.bind_some]
     have h9:=ih (out++[v]) u (by omega) (List.mem_cons_of_mem _ hu2) hin hu1 (by omega)
     simp only[ji (show L.length≤1048577 by omega),sK (show L.length≤1048577 by omega),Option.bind_some]at h9
     exact h9
 have h0:nI (place::L.map ay.Parent) []≤1048577:=by
  unfold nI
  have:=List.length_filter_le (fun v=> !(([]:List ByteArray).any fun x=>v.toList==x.toList)) (place::L.map ay.Parent)
  simp only[List.length_cons,List.length_map]at this
  omega
 exact key 1048577 [] place h0 List.mem_cons_self (by simp) hp0 (by simpa using h0)
noncomputable def nc(L:List ay)(p:ByteArray)(y:Int):Bool:=(dL L p y).getD false
theorem vD{L:List ay}(hL:L.length≤1048576)(hc: ∀x∈L,jr x=true){p:ByteArray}(hp:1≤p.size)(y:Int):dL L p y=some (nc L p y)∧ ∃l,kj L p y=some (l,!nc L p y):=by
 obtain⟨way,b,l,h1,h2,h3⟩:=E1 hL hc hp y
 have h4:dL L p y=some b:=by
  unfold dL
  rw[h1,Option.bind_some,h2]
 unfold nc
 rw[h4]
 exact⟨rfl,l,h3⟩
theorem Aj{L:List ay}(hL:L.length≤1048577){p:ByteArray}{y:Int}(h:nc L p y=true): ∃d∈L,iZ p y d=true:=by
 cases hp:par L p y with
 | some v=>
  unfold par at hp
  rw[Option.map_eq_some_iff]at hp
  obtain⟨l,h1,_⟩:=hp
  exact⟨l,List.mem_of_find?_eq_some h1,List.find?_some h1⟩
 | none=>
  unfold nc dL jQ at h
  have e0:px none=(ByteArray.mk #[],false):=rfl
  have hat:at' [p] (bF ((([p]:List ByteArray).length:Int)- 1))=some p:=by
   rw[bx (by simp) (by simp)]
   rfl
  rw[dz,hat,Option.bind_some,ji hL,hp]at h
  simp only[e0,Option.bind_some,Bool.not_false,cond_true,hat,ji hL,hp]at h
  cases h
def nu(l m:ay):Bool:=(m.Child.toList==l.Child.toList)&&(decide (m.Years.From≤l.Years.To)&&decide (l.Years.From≤m.Years.To))
def vw(L:List ay)(i:Nat)(l:ay):Bool:= !jr l || (L.take i).any (nu l)
def okL(L:List ay):Bool:= !(bZ (vw L) (fun _ _=>()) L 0).isSome
noncomputable def oF(L:List ay):Bool:=L.any fun l=>L.any fun m=>nc L m.Child l.Years.From
noncomputable def dP(L:List ay):Bool:=okL L&&(decide (L.length≤20)&& !oF L)
theorem qK{α:Type}{p:Nat→α→Bool}: ∀{L:List α} {k:Nat},(bZ p (fun _ _=>()) L k).isSome=false↔ ∀i x,L[i]? =some x→p (k+i) x=false
 | [],k=>by simp[bZ]
 | z::L,k=>by
  unfold bZ
  cases hz:p k z
  ·rw[cond_false,qK]
   constructor
   ·intro h i x hx
    cases i with
    | zero=>
     injection hx with hx
     subst hx
     exact hz
    | succ i=>rw[show k+(i+1)=k+1+i by omega];exact h i x hx
   ·intro h i x hx
    have:=h (i+1) x hx
    rwa [show k+(i+1)=k+1+i by omega]at this
  ·rw[cond_true]
   refine⟨fun h=>(by cases h),fun h=> ?_⟩
   have:=h 0 z rfl
   rw[Nat.add_zero,hz]at this
   cases this
theorem rF{L:List ay}:okL L=true↔(∀x∈L,jr x=true)∧ ∀(i j:Nat) x z,i<j→L[i]? =some z→L[j]? =some x→nu x z=false:=by
 unfold okL
 rw[Bool.not_eq_true',qK]
 unfold vw
 simp only[Nat.zero_add,Bool.or_eq_false_iff,Bool.not_eq_false',List.any_eq_false]
 constructor
 ·intro h
  refine⟨fun x hx=> ?_,fun i j x z hij hi hj=> ?_⟩
  ·obtain⟨i,hi,rfl⟩:=List.mem_iff_getElem.1 hx
   exact(h i _ (List.getElem?_eq_getElem hi)).1
  ·have:=(h j x hj).2 z (List.mem_of_getElem? (by rw[List.getElem?_take_of_lt hij];exact hi))
   simpa using this
 ·rintro⟨h1,h2⟩ i x hx
  refine⟨h1 x (List.mem_of_getElem? hx),fun z hz=> ?_⟩
  obtain⟨k,hk,rfl⟩:=List.mem_iff_getElem.1 hz
  rw[List.length_take]at hk
  have:=h2 k i x (L.take i)[k] (by omega) (by rw[List.getElem_take];exact List.getElem?_eq_getElem _) hx
  simpa using this
end Go.Proofs.YtdejeagdkfokfaaGreatDoor.Sh
namespace Go.Proofs.YtdejeagdkfokfaaGreatDoor.Sh
open Go.RowKit
section
variable {α : Type}
def qO(lt:α→α→Bool)(A:List α)(x:α):List α:=A.takeWhile (fun y=>lt y x)++x::A.dropWhile (fun y=>lt y x)
theorem zC{lt:α→α→Bool}{A:List α}{x z:α}:z∈qO lt A x↔z=x∨z∈A:=by
 unfold qO
 have:=List.takeWhile_append_dropWhile (p:=fun y=>lt y x) (l:=A)
 conv=>rhs;rw[←this]
 simp only[List.mem_append,List.mem_cons]
 constructor
 ·rintro(h | h | h)
  ·exact .inr (.inl h)
  ·exact .inl h
  ·exact .inr (.inr h)
 ·rintro(h | h | h)
  ·exact .inr (.inl h)
  ·exact .inl h
  ·exact .inr (.inr h)
theorem zB{lt:α→α→Bool}{A:List α}{x:α}:(qO lt A x).length=A.length+1:=by
 unfold qO
 have:=congrArg List.length (List.takeWhile_append_dropWhile (p:=fun y=>lt y x) (l:=A))
 rw[List.length_append]at this
 rw[List.length_append,List.length_cons]
 omega
theorem oo{lt:α→α→Bool}(tr: ∀a b c,lt a b=true→lt b c=true→lt a c=true){x:α}: ∀{A:List α},A.Pairwise (fun a b=>lt a b=true)→(∀y∈A,lt y x=true∨lt x y=true)→ ∀y∈A.dropWhile (fun y=>lt y x),lt x y=true
 | [],_,_,y,hy=>by cases hy
 | a::A,hp,ht,y,hy=>by
  rw[List.dropWhile_cons]at hy
  have hp2:=List.pairwise_cons.1 hp
  split at hy
  ·exact oo tr hp2.2 (fun z hz=>ht z (List.mem_cons_of_mem _ hz)) y hy
  ·rename_i hn
   have hx:lt x a=true:=(ht a List.mem_cons_self).resolve_left (by simpa using hn)
   rcases List.mem_cons.1 hy with rfl | hy
   ·exact hx
   ·exact tr _ _ _ hx (hp2.1 y hy)
theorem uS{lt:α→α→Bool}(tr: ∀a b c,lt a b=true→lt b c=true→lt a c=true){x:α}{A:List α}(hp:A.Pairwise (fun a b=>lt a b=true))(ht: ∀y∈A,lt y x=true∨lt x y=true):(qO lt A x).Pairwise (fun a b=>lt a b=true):=by
 have hd:=oo tr hp ht
 have hs:=List.takeWhile_append_dropWhile (p:=fun y=>lt y x) (l:=A)
 have htw: ∀y∈A.takeWhile (fun y=>lt y x),lt y x=true:=fun y hy=>by
  have:=List.all_takeWhile (p:=fun y=>lt y x) (l:=A)
  exact List.all_eq_true.1 this y hy
 unfold qO
 rw[←hs]at hp
 obtain⟨h1,h2,h3⟩:=List.pairwise_append.1 hp
 refine List.pairwise_append.2 ⟨h1,List.pairwise_cons.2 ⟨hd,h2⟩,fun a ha b hb=> ?_⟩
 rcases List.mem_cons.1 hb with rfl | hb
 ·exact htw a ha
 ·exact tr _ _ _ (htw a ha) (hd b hb)
theorem ow{lt:α→α→Bool}(asy: ∀a b,lt a b=true→lt b a=false): ∀{A B:List α},A.Pairwise (fun a b=>lt a b=true)→B.Pairwise (fun a b=>lt a b=true)→(∀z,z∈A↔z∈B)→A=B
 | [],[],_,_,_=>rfl
 | [],b::B,_,_,h=>by have:=(h b).2 List.mem_cons_self;cases this
 | a::A,[],_,_,h=>by have:=(h a).1 List.mem_cons_self;cases this
 | a::A,b::B,hA,hB,h=>by
  have hA2:=List.pairwise_cons.1 hA
  have hB2:=List.pairwise_cons.1 hB
  have irr: ∀x,lt x x=true→False:=fun x hx=>by
   have:=asy x x hx
   rw[hx]at this
   cases this
  have e:a=b:=by
   rcases List.mem_cons.1 ((h a).1 List.mem_cons_self)with h1 | h1
   ·exact h1
   ·rcases List.mem_cons.1 ((h b).2 List.mem_cons_self)with h2 | h2
    ·exact h2.symm
    ·have:=asy _ _ (hB2.1 a h1)
     rw[hA2.1 b h2]at this
     cases this
  subst e
  congr 1
  refine ow asy hA2.2 hB2.2 fun z=> ?_
  constructor
  ·intro hz
   rcases List.mem_cons.1 ((h z).1 (List.mem_cons_of_mem _ hz))with h1 | h1
   ·subst h1
    exact(irr _ (hA2.1 _ hz)).elim
   ·exact h1
  ·intro hz
   rcases List.mem_cons.1 ((h z).2 (List.mem_cons_of_mem _ hz))with h1 | h1
   ·subst h1
    exact(irr _ (hB2.1 _ hz)).elim
   ·exact h1
end
end Go.Proofs.YtdejeagdkfokfaaGreatDoor.Sh
namespace Go.Proofs.YtdejeagdkfokfaaGreatDoor.Sh
open Go.RowKit Go.Lib
theorem Ag: ∀{x y:List UInt8},Op.bytesLess x y=true↔x<y
 | [],[]=>by simp[Op.bytesLess]
 | [],b::y=>by simp[Op.bytesLess]
 | a::x,[]=>by simp[Op.bytesLess]
 | a::x,b::y=>by
  rw[o3,List.cons_lt_cons_iff,Ag,UInt8.lt_iff_toNat_lt]
theorem xP{x y:List UInt8}:decide (x≤y)= !Op.bytesLess y x:=by
 rw[Bool.eq_iff_iff,decide_eq_true_eq,Bool.not_eq_true',Bool.eq_false_iff,ne_eq,Ag,List.not_lt]
theorem vx{x y:List UInt8}(h:Op.bytesLess x y=true):Op.bytesLess y x=false:=by
 rw[Bool.eq_false_iff]
 intro k
 have:=na h k
 rw[nL]at this
 cases this
theorem vy{x y z:List UInt8}(h:Op.bytesLess y x=false)(k:Op.bytesLess y z=true):Op.bytesLess x z=true:=by
 cases hxy:Op.bytesLess x y
 ·rw[m9 hxy h]
  exact k
 ·exact na hxy k
theorem tn(L:List (List UInt8)):(L.mergeSort fun x y=>decide (x≤y)).Pairwise fun a b=>Op.bytesLess b a=false:=by
 have:=List.pairwise_mergeSort (le:=fun x y:List UInt8=>decide (x≤y)) (fun a b c h1 h2=> ?_) (fun a b=> ?_) L
 ·exact this.imp fun{a b} h=>by rw[xP]at h;simpa using h
 ·rw[xP,Bool.not_eq_true']at*
  cases hca:Op.bytesLess c a with
  | false=>rfl
  | true=>
   have:=vy h2 hca
   rw[h1]at this
   cases this
 ·rw[xP,xP]
  cases hab:Op.bytesLess a b
  ·simp
  ·rw[vx hab]
   simp
theorem rX{D:List (List UInt8)}(h:D.Pairwise fun a b=>Op.bytesLess b a=false):(Lib.compact D).Pairwise (fun a b=>Op.bytesLess a b=true):=by
 have hat: ∀j,j<D.length→D.toArray[j]! =D.getD j []:=fun j hj=>by
  rw[getElem!_pos D.toArray j (by simpa using hj)]
  simp[List.getD_eq_getElem?_getD,List.getElem?_eq_getElem hj]
 have hle: ∀i j,i<j→j<D.length→Op.bytesLess (D.getD j []) (D.getD i [])=false:=fun i j hij hj=>by
  rw[List.pairwise_iff_getElem]at h
  have:=h i j (by omega) hj hij
  simpa [List.getD_eq_getElem?_getD,List.getElem?_eq_getElem hj,List.getElem?_eq_getElem (show i<D.length by omega)]using this
 unfold Lib.compact Lib.compactUpTo
 rw[List.pairwise_map,List.pairwise_filter]
 refine(List.pairwise_lt_range (n:=D.length)).imp_of_mem fun{i j} hi hj hij _ hk=> ?_
 have hj:=List.mem_range.1 hj
 unfold Lib.keeps at hk
 rw[decide_eq_true_eq]at hk
 have hk:=hk.resolve_left (by omega)
 rw[hat j hj,hat (j - 1) (by omega)]at hk
 rw[hat i (by omega),hat j hj]
 have h1:=hle (j - 1) j (by omega) hj
 have h2:Op.bytesLess (D.getD (j - 1) []) (D.getD j [])=true:=by
  cases hb:Op.bytesLess (D.getD (j - 1) []) (D.getD j [])with
  | true=>rfl
  | false=>exact absurd (m9 h1 hb) hk
 by_cases hi1:i=j - 1
 ·rw[hi1]
  exact h2
 ·exact vy (hle i (j - 1) (by omega) (by omega)) h2
theorem qF{D:List (List UInt8)}{x:List UInt8}:x∈Lib.compact D↔x∈D:=by
 unfold Lib.compact Lib.compactUpTo
 rw[List.mem_map]
 constructor
 ·rintro⟨j,hj,rfl⟩
  rw[List.mem_filter,List.mem_range]at hj
  rw[getElem!_pos D.toArray j (by simpa using hj.1)]
  simp
 ·intro hx
  obtain⟨j,hj,rfl⟩:=List.mem_iff_getElem.1 hx
  have key: ∀k (hk:k<D.length),∃i,i<D.length∧Lib.keeps D.toArray i=true∧D.toArray[i]! =D[k]:=by
   intro k
   induction k with
   | zero=>
    intro hk
    refine⟨0,hk,Lib.keeps_lt_one _ 0 (by omega),?_⟩
    rw[getElem!_pos D.toArray 0 (by simpa using hk)]
    simp
   | succ k ih=>
    intro hk
    have e1:D.toArray[k+1]! =D[k+1]:=by
     rw[getElem!_pos D.toArray (k+1) (by simpa using hk)]
     simp
    have e2:D.toArray[k]! =D[k]:=by
     rw[getElem!_pos D.toArray k (by simp;omega)]
     simp
    by_cases he:D[k+1]=D[k]
    ·obtain⟨i,h1,h2,h3⟩:=ih (by omega)
     exact⟨i,h1,h2,by rw[h3,he]⟩
    ·refine⟨k+1,hk,Lib.keeps_pos ?_,e1⟩
     rw[e1,show k+1 - 1=k by omega,e2]
     exact he
  obtain⟨i,h1,h2,h3⟩:=key j hj
  exact⟨i,by rw[List.mem_filter,List.mem_range];exact⟨h1,h2⟩,h3⟩
theorem wk(x y:ByteArray):fY x y=Op.bytesLess x.data.toList y.data.toList:=by
 unfold fY
 rw[Lib.toList_data,Lib.toList_data]
theorem sJ(L:List ByteArray):(iP L).Pairwise fun a b=>fY a b=true:=by
 unfold iP qE lg
 rw[List.pairwise_map,List.map_map]
 have e:((fun s:ByteArray=>s.data.toList)∘fun l:List UInt8=>(⟨l.toArray⟩:ByteArray))=id:=by funext l;rfl
 rw[e,List.map_id]
 refine(rX (tn (L.map fun s=>s.data.toList))).imp fun{a b} h=> ?_
 rw[wk]
 simpa using h
theorem nA{L:List ByteArray}{s:ByteArray}:s∈iP L↔s∈L:=by
 unfold iP qE
 rw[List.mem_map]
 constructor
 ·rintro⟨l,hl,rfl⟩
  rw[qF]at hl
  obtain⟨t,ht,rfl⟩:=List.mem_map.1 hl
  exact qj.1 ht
 ·intro h
  refine⟨s.data.toList,qF.2 (List.mem_map.2 ⟨s,qj.2 h,rfl⟩),rfl⟩
theorem xr(x:ByteArray):fY x x=false:=nL _
theorem zw{x y z:ByteArray}(h:fY x y=true)(k:fY y z=true):fY x z=true:=na h k
theorem zu{x y:ByteArray}(h:fY x y=true):fY y x=false:=vx h
theorem zv{x y:ByteArray}(h:x≠y):fY x y=true∨fY y x=true:=by
 cases h1:fY x y with
 | true=>exact .inl rfl
 | false=>
  cases h2:fY y x with
  | true=>exact .inr rfl
  | false=>
   rw[wk]at h1 h2
   have:=m9 h1 h2
   exfalso
   apply h
   obtain⟨x⟩:=x
   obtain⟨y⟩:=y
   exact congrArg ByteArray.mk (Array.toList_inj.1 this)
theorem xK{A B:List ByteArray}(hA:A.Pairwise fun a b=>fY a b=true)(hB:B.Pairwise fun a b=>fY a b=true)(h: ∀z,z∈A↔z∈B):A=B:=ow (fun _ _=>zu) hA hB h
open Classical in
noncomputable def l8(A:List ByteArray)(x:ByteArray):List ByteArray:=if x∈A then A else qO fY A x
theorem vV{A:List ByteArray}{x z:ByteArray}:z∈l8 A x↔z=x∨z∈A:=by
 unfold l8
 by_cases h:x∈A
 ·rw[if_pos h]
  exact⟨.inr,fun h2=>h2.elim (fun e=>e▸h) id⟩
 ·rw[if_neg h,zC]
theorem vU(A:List ByteArray)(x:ByteArray):(l8 A x).length≤A.length+1:=by
 unfold l8
 split
 ·omega
 ·rw[zB];omega
theorem kf{A:List ByteArray}{x:ByteArray}(h:A.Pairwise fun a b=>fY a b=true):(l8 A x).Pairwise fun a b=>fY a b=true:=by
 unfold l8
 split
 ·exact h
 ·rename_i hx
  exact uS (lt:=fY) (fun _ _ _=>zw) h fun y hy=>zv fun e=>hx (by rw[←e];exact hy)
theorem DT{x:ByteArray}: ∀{A:List ByteArray},A.Pairwise (fun a b=>fY a b=true)→x∈A→A[(A.takeWhile fun y=>fY y x).length]? =some x
 | [],_,h=>by cases h
 | a::A,hp,h=>by
  have hp2:=List.pairwise_cons.1 hp
  rw[List.takeWhile_cons]
  rcases List.mem_cons.1 h with rfl | h
  ·rw[xr]
   rfl
  ·rw[hp2.1 x h]
   simpa using DT hp2.2 h
theorem tY{A:List ByteArray}{x:ByteArray}(hA:A.length≤1000000)(hs:A.Pairwise fun a b=>fY a b=true):dR A x=some (l8 A x):=by
 unfold dR
 have key: ∀(M D:List ByteArray),A=D++M→loop (fun(s3:Int)=>(((bif(decide (s3<(A.length:Int)))then((at' A s3).bind fun x5=>some (Op.bytesLess x5.toList x.toList))else some false)).bind fun(j6:Bool)=>(bif j6 then some (.inl (bF (s3+1)))else some (.inr s3)))) (D.length:Int)=some (((D.length+(M.takeWhile fun y=>fY y x).length:Nat)):Int):=by
  intro M
  induction M with
  | nil=>
   intro D hD
   rw[dz,decide_eq_false (show ¬(D.length:Int)<(A.length:Int) by rw[hD];simp)]
   rfl
  | cons y M ih=>
   intro D hD
   have hy:A[D.length]? =some y:=by rw[hD];simp
   have hlt:D.length<A.length:=(List.getElem?_eq_some_iff.1 hy).1
   rw[dz,decide_eq_true (show(D.length:Int)<(A.length:Int) by omega),cond_true,bk,hy,Option.bind_some,Option.bind_some,List.takeWhile_cons]
   have e:Op.bytesLess y.toList x.toList=fY y x:=rfl
   rw[e]
   cases hb:fY y x
   ·simp
   ·simp only[cond_true]
    rw[bx (by omega) (by omega)]
    have:=ih (D++[y]) (by rw[hD];simp)
    rw[List.length_append,List.length_singleton]at this
    rw[show(D.length:Int)+1=((D.length+1:Nat):Int) by omega,this]
    congr 2
    simp
    omega
 have k0:=key A [] rfl
 rw[List.length_nil,Nat.zero_add]at k0
 rw[show(0:Int)=((0:Nat):Int)from rfl,k0,Option.bind_some]
 have hs1:=List.takeWhile_append_dropWhile (p:=fun y=>fY y x) (l:=A)
 have hl:=congrArg List.length hs1
 rw[List.length_append]at hl
 unfold l8
 by_cases hx:x∈A
 ·have h1:=DT hs hx
  have hlt:=(List.getElem?_eq_some_iff.1 h1).1
  rw[if_pos hx,decide_eq_true (show(((A.takeWhile fun y=>fY y x).length:Nat):Int)<(A.length:Int) by omega),cond_true,bk,h1,Option.bind_some,Option.bind_some]
  simp
 ·rw[if_neg hx]
  have e1:A.take (A.takeWhile fun y=>fY y x).length=A.takeWhile fun y=>fY y x:=by
   conv=>lhs;arg 2;rw[←hs1]
   rw[List.take_left]
  have e2:A.drop (A.takeWhile fun y=>fY y x).length=A.dropWhile fun y=>fY y x:=by
   conv=>lhs;arg 2;rw[←hs1]
   rw[List.drop_left]
  have ht:(((bif(decide (((A.takeWhile fun y=>fY y x).length:Int)<(A.length:Int)))then((at' A ((A.takeWhile fun y=>fY y x).length:Int)).bind fun x8=>some (x8.toList==x.toList))else some false)):Option Bool)=some false:=by
   by_cases hlt:(A.takeWhile fun y=>fY y x).length<A.length
   ·have hy:A[(A.takeWhile fun y=>fY y x).length]? =some (A[(A.takeWhile fun y=>fY y x).length]'hlt):=List.getElem?_eq_getElem _
    generalize A[(A.takeWhile fun y=>fY y x).length]'hlt=y at hy
    rw[decide_eq_true (by omega),cond_true,bk,hy,Option.bind_some]
    cases hq:y.toList==x.toList with
    | false=>rfl
    | true=>
     exfalso
     apply hx
     have:y=x:=by
      rw[beq_iff_eq,Lib.toList_data,Lib.toList_data]at hq
      obtain⟨x⟩:=x
      obtain⟨y⟩:=y
      exact congrArg ByteArray.mk (Array.toList_inj.1 hq)
     rw[←this]
     exact List.mem_of_getElem? hy
   ·rw[decide_eq_false (by omega)]
    rfl
  rw[ht]
  simp only[Option.bind_some,cond_false]
  rw[nT (by omega) (by omega) (by omega),Option.bind_some]
  simp only[Int.toNat_natCast,List.drop_zero,Nat.sub_zero,e1]
  rw[cL (by simp;omega),Option.bind_some,List.nil_append,cL (by simp;omega),Option.bind_some,nT (by omega) (by omega) (by omega),Option.bind_some]
  simp only[Int.toNat_natCast,e2]
  have e3:(A.dropWhile fun y=>fY y x).take (A.length -(A.takeWhile fun y=>fY y x).length)=A.dropWhile fun y=>fY y x:=List.take_of_length_le (by omega)
  rw[e3,cL (by simp;omega),Option.bind_some]
  unfold qO
  simp
theorem wA(L:List ByteArray):(iP L).length≤L.length:=by
 unfold iP qE
 rw[List.length_map]
 have:=vG ((lg L).map fun s=>s.data.toList)
 rw[List.length_map,nY]at this
 exact this
end Go.Proofs.YtdejeagdkfokfaaGreatDoor.Sh
namespace Go.Proofs.YtdejeagdkfokfaaGreatDoor.Sh
open Go.RowKit Go.Lib
theorem B4{L:List ay}(hL:L.length≤1048576):(L.any fun l=>L.any fun m=>cX l.Years.From m.Years.From m.Years.To&&nc L m.Child l.Years.From)=oF L:=by
 unfold oF
 rw[Bool.eq_iff_iff]
 simp only[List.any_eq_true,Bool.and_eq_true]
 constructor
 ·rintro⟨l,hl,m,hm,_,h⟩
  exact⟨l,hl,m,hm,h⟩
 ·rintro⟨l,hl,m,hm,h⟩
  obtain⟨d,hd,h2⟩:=Aj (by omega) h
  unfold iZ at h2
  rw[Bool.and_eq_true]at h2
  refine⟨l,hl,d,hd,h2.2,?_⟩
  rw[kn.1 h2.1]
  exact h
theorem lQ{L:List ay}(hL:L.length≤1048576)(h: ∀x∈L,LkR x):eZ L=some (dP L):=by
 unfold eZ
 rw[fS (by omega) (vw L) (fun _ _=>false) (fun i x hx=>by
  have hi:i<L.length:=(List.getElem?_eq_some_iff.1 hx).1
  rw[bk,hx,Option.bind_some,zd (h x (List.mem_of_getElem? hx)),Option.bind_some]
  unfold vw
  cases jr x
  ·rfl
  rw[Bool.not_true,cond_false,nT (by omega) (by omega) (by omega),Option.bind_some]
  unfold bX ci iG eJ
  simp only[Int.toNat_zero,List.drop_zero,Int.toNat_natCast,Nat.sub_zero]
  rw[ix (L:=L.take i) (by rw[List.length_take];omega) (nu x) (fun k z hz=>by
   rw[bk,hz,Option.bind_some]
   unfold nu
   cases z.Child.toList==x.Child.toList<;>rfl)]
  simp only[Option.bind_some,io]
  cases (L.take i).any (nu x)<;>rfl),fO]
 unfold dP
 cases hf:(bZ (vw L) (fun _ _=>()) L 0).isSome
 ·have hok:okL L=true:=by unfold okL;rw[hf];rfl
  have hlk:=(rF.1 hok).1
  rw[hok,Bool.true_and]
  simp only[cond_false]
  rw[gh (by omega) (fun l=>L.any fun m=>cX l.Years.From m.Years.From m.Years.To&&nc L m.Child l.Years.From) false (fun i x hx=>by
   rw[bk,hx,Option.bind_some,nP (A:=Unit⊕Bool) hL (fun m=>cX x.Years.From m.Years.From m.Years.To&&nc L m.Child x.Years.From) (.inr false) (fun k m hm=>by
    have hmm:=List.mem_of_getElem? hm
    have h5:=hlk m hmm
    unfold jr at h5
    rw[Bool.and_eq_true]at h5
    rw[bk,hm,Option.bind_some]
    unfold bI
    rw[cZ,Option.bind_some,Option.bind_some,(vD hL hlk (gV h5.1).1 _).1,Option.bind_some]
    cases cX x.Years.From m.Years.From m.Years.To<;>cases nc L m.Child x.Years.From<;>rfl)]),B4 hL,show(20:Int)=((20:Nat):Int)from rfl,sw]
  cases oF L<;>cases decide (L.length≤20)<;>rfl
 ·have hok:okL L=false:=by unfold okL;rw[hf];rfl
  rw[hok]
  rfl
theorem iC{L:List ay}(hL:L.length≤1048576)(h: ∀x∈L,LkR x):dM L=some (dP L):=by
 unfold dM
 rw[fS (by omega) (vw L) (fun _ _=>false) (fun i x hx=>by
  have hi:i<L.length:=(List.getElem?_eq_some_iff.1 hx).1
  have hl:(L.take i).length=i:=by rw[List.length_take];omega
  rw[bk,hx,Option.bind_some,tZ (h x (List.mem_of_getElem? hx)),Option.bind_some]
  unfold vw
  cases jr x
  ·rfl
  have:=nP (A:=Unit⊕Bool) (L:=L.take i) (by omega) (B:=fun(i9:Int) (_:Unit)=>((((at' L i9).bind fun x13=>((some x).bind fun x14=>(bif(x13.Child.toList==x14.Child.toList)then((at' L i9).bind fun x15=>((some x).bind fun x16=>((ek x15.Years x16.Years).bind fun x17=>some x17)))else some false)))).bind fun(j18:Bool)=>(bif j18 then some (.inr (.inr (.inr false)))else some (.inl ())))) (nu x) (.inr false) (fun k z hz=>by
   have hz':L[k]? =some z:=by
    have hk:k<i:=by have:=(List.getElem?_eq_some_iff.1 hz).1;omega
    rw[←hz,List.getElem?_take_of_lt hk]
   unfold nu ek
   simp only[bk,hz',hx,Option.bind_some]
   cases z.Child.toList==x.Child.toList<;>rfl)
  rw[hl]at this
  exact this),fO]
 unfold dP
 cases hf:(bZ (vw L) (fun _ _=>()) L 0).isSome
 ·have hok:okL L=true:=by unfold okL;rw[hf];rfl
  have hlk:=(rF.1 hok).1
  rw[hok,Bool.true_and]
  simp only[cond_false]
  rw[gh (by omega) (fun l=>L.any fun m=>nc L m.Child l.Years.From) false (fun i x hx=>by
   rw[nP (A:=Unit⊕Bool) hL (fun m=>nc L m.Child x.Years.From) (.inr false) (fun k m hm=>by
    have hmm:=List.mem_of_getElem? hm
    have h5:=hlk m hmm
    unfold jr at h5
    rw[Bool.and_eq_true]at h5
    obtain⟨l,h6⟩:=(vD hL hlk (gV h5.1).1 x.Years.From).2
    simp only[bk,hm,hx,Option.bind_some,h6,Bool.not_not]
    try (cases nc L m.Child x.Years.From<;>rfl))])]
  have e:decide ((L.length:Int)>20)= !decide (L.length≤20):=by
   by_cases hh:L.length≤20
   ·rw[decide_eq_true hh,decide_eq_false (by omega)];rfl
   ·rw[decide_eq_false hh,decide_eq_true (by omega)];rfl
  rw[e]
  unfold oF
  cases (L.any fun l=>L.any fun m=>nc L m.Child l.Years.From)<;>cases decide (L.length≤20)<;>rfl
 ·have hok:okL L=false:=by unfold okL;rw[hf];rfl
  rw[hok]
  rfl
end Go.Proofs.YtdejeagdkfokfaaGreatDoor.Sh
namespace Go.Proofs.YtdejeagdkfokfaaGreatDoor.Sh
open Go.RowKit Go.Lib
noncomputable def mV(L:List ay)(c:ByteArray)(y:Int):Int:=bif dP L&&cg c then bif cX y (-3000) 3000 then 0 else 2 else 1
theorem xk{L:List ay}(hL:L.length≤1048576)(h: ∀x∈L,LkR x){c:ByteArray}(hc:c.size≤1048576)(y:Int):iw L y [c]=some (mV L c y):=by
 unfold iw mV
 rw[lQ hL h,Option.bind_some,jP _ (by simp) (fun x hx=>by
  obtain rfl:=List.mem_singleton.1 hx
  simp only[maxLen];omega)]
 unfold eQ
 simp only[Option.bind_some,cZ,List.all_cons,List.all_nil,Bool.and_true]
 cases dP L<;>cases cg c<;>cases cX y (-3000) 3000<;>rfl
theorem xE{L:List ay}(hL:L.length≤1048576)(h: ∀x∈L,LkR x){c:ByteArray}(hc:c.size≤1048576)(y:Int):jA L c y=some (mV L c y):=by
 unfold jA mV
 rw[iC hL h,Option.bind_some,fM _ (by simp only[maxLen];omega)]
 unfold dm
 simp only[Option.bind_some,eR]
 cases dP L<;>cases cg c<;>cases cX y (-3000) 3000<;>rfl
def uI(L:List ay)(c:ByteArray)(y:Int)(l:ay):Bool:=cX y l.Years.From l.Years.To&&((px (par L l.Child y)).1.toList==c.toList)
noncomputable def kids(L:List ay)(c:ByteArray)(y:Int):List ByteArray:=iP ((L.filter (uI L c y)).map ay.Child)
theorem ly{α β:Type}(p:α→Bool)(f:α→β): ∀L:List α,(L.flatMap fun x=>bif p x then[f x]else[])=(L.filter p).map f
 | []=>rfl
 | x::L=>by
  rw[List.flatMap_cons,ly p f L,List.filter_cons]
  cases p x<;>rfl
theorem o2{α:Type}(b:Bool)(x:α):(bif b then[x]else[]).length≤1:=by cases b<;>simp
theorem zc{L:List ay}(hL:L.length≤1048576)(c:ByteArray)(y:Int):b5 L y L y c=some (kids L c y):=by
 unfold b5 gy bI
 rw[eY hL (fun s=>s) (fun l=>bif uI L c y l then[l.Child]else[]) (fun x _=>o2 _ _) (fun i x s hx hs=>by
  simp only[bk,hx,Option.bind_some,cZ,ji (show L.length≤1048577 by omega)]
  unfold uI
  rw[cL (by simp;omega)]
  cases cX y x.Years.From x.Years.To<;>cases (px (par L x.Child y)).1.toList==c.toList<;>simp)]
 rw[ly,Option.bind_some]
 unfold ke kids
 rw[if_pos (by
  rw[List.length_map]
  have:=List.length_filter_le (uI L c y) L
  omega)]
 rfl
noncomputable def places(L:List ay):List ByteArray:=L.foldl (fun s l=>l8 (l8 s l.Child) l.Parent) []
theorem Bi: ∀(L:List ay) (A:List ByteArray),A.Pairwise (fun a b=>fY a b=true)→(L.foldl (fun s l=>l8 (l8 s l.Child) l.Parent) A).Pairwise (fun a b=>fY a b=true)∧ ∀z,z∈L.foldl (fun s l=>l8 (l8 s l.Child) l.Parent) A↔z∈A∨ ∃l∈L,z=l.Child∨z=l.Parent
 | [],A,h=>⟨h,fun z=>by simp⟩
 | l::L,A,h=>by
  obtain⟨h1,h2⟩:=Bi L (l8 (l8 A l.Child) l.Parent) (kf (kf h))
  refine⟨h1,fun z=> ?_⟩
  rw[List.foldl_cons,h2,vV,vV]
  constructor
  ·rintro((rfl | rfl | h) | ⟨m,hm,h⟩)
   ·exact .inr ⟨l,List.mem_cons_self,.inr rfl⟩
   ·exact .inr ⟨l,List.mem_cons_self,.inl rfl⟩
   ·exact .inl h
   ·exact .inr ⟨m,List.mem_cons_of_mem _ hm,h⟩
  ·rintro(h | ⟨m,hm,h⟩)
   ·exact .inl (.inr (.inr h))
   ·rcases List.mem_cons.1 hm with rfl | hm
    ·rcases h with rfl | rfl
     ·exact .inl (.inr (.inl rfl))
     ·exact .inl (.inl rfl)
    ·exact .inr ⟨m,hm,h⟩
theorem mD{α S A:Type}{L:List α}(hL:L.length≤9223372036854775807){B:Int→S→Option S}{D:S→A}(I:Nat→S→Prop)(g:S→α→S){s:S}(h: ∀(i:Nat) x s,L[i]? =some x→I i s→B (i:Int) s=some (g s x)∧I (i+1) (g s x))(h2:I 0 s):jH (L.length:Int) B D 0 s=some (D (L.foldl g s))∧I L.length (L.foldl g s):=by
 have key: ∀(M:List α) (k:Nat) (s:S),(∀j x s,M[j]? =some x→I (k+j) s→B ((k+j:Nat):Int) s=some (g s x)∧I (k+j+1) (g s x))→I k s→jm (fun i s=>(B (i:Int) s).map .inl) D M.length k s=some (D (M.foldl g s))∧I (k+M.length) (M.foldl g s):=by
  intro M
  induction M with
  | nil=>exact fun k s _ h=>⟨rfl,h⟩
  | cons x l ih=>
   intro k s h h2
   have h3:=h 0 x s rfl h2
   rw[Nat.add_zero]at h3
   show((B (k:Int) s).map .inl).bind (Sum.elim (jm (fun i s=>(B (i:Int) s).map .inl) D l.length (k+1)) some)=_∧_
   rw[h3.1]
   have:=ih (k+1) _ (fun j y s hy h5=>by
    have:=h (j+1) y s (by simpa using hy) (by rw[show k+(j+1)=k+1+j by omega];exact h5)
    rw[show k+1+j=k+(j+1)from by omega]
    exact this) h3.2
   rw[List.length_cons,show k+(l.length+1)=k+1+l.length by omega]
   exact this
 rw[nO,lZ _ hL]
 have:=key L 0 s (fun j x s hx hI=>by
  rw[Nat.zero_add]at hI⊢
  exact h j x s hx hI) h2
 rw[Nat.zero_add]at this
 exact this
theorem wE{L:List ay}(hL:L.length≤20):gR L=some (places L)∧(places L).length≤2*L.length:=by
 unfold gR
 obtain⟨h1,h2⟩:=mD (L:=L) (by omega) (B:=fun(i3:Int) (s3:(List ByteArray))=>((at' L i3).bind fun x7=>((dR s3 x7.Child).bind fun x8=>((at' L i3).bind fun x9=>((dR x8 x9.Parent).bind fun x10=>some x10))))) (D:=fun s=>s) (fun i (s:List ByteArray)=>s.Pairwise (fun a b=>fY a b=true)∧s.length≤2*i) (fun s l=>l8 (l8 s l.Child) l.Parent) (s:=[]) (fun i l s hl hs=>by
  have hi:=(List.getElem?_eq_some_iff.1 hl).1
  have e1:=vU s l.Child
  have e2:=vU (l8 s l.Child) l.Parent
  simp only[bk,hl,Option.bind_some,tY (show s.length≤1000000 by omega) hs.1,tY (show(l8 s l.Child).length≤1000000 by omega) (kf hs.1)]
  refine⟨?_,kf (kf hs.1),by omega⟩
  first | trivial | rfl) ⟨List.Pairwise.nil,by simp⟩
 rw[h1]
 exact⟨rfl,h2.2⟩
theorem BS{c:ByteArray}(h:cg c=true):c≠ByteArray.mk #[]:=fun e=>by
 have:=(gV h).1
 rw[e]at this
 simp[ByteArray.size]at this
theorem zz{L:List ay}{z c:ByteArray}{y:Int}(hc:cg c=true)(h:((px (par L z y)).1.toList==c.toList)=true): ∃l∈L,iZ z y l=true:=by
 cases hp:par L z y with
 | none=>
  rw[hp]at h
  exact absurd (kn.1 h).symm (BS hc)
 | some v=>
  unfold par at hp
  rw[Option.map_eq_some_iff]at hp
  obtain⟨l,h1,_⟩:=hp
  exact⟨l,List.mem_of_find?_eq_some h1,List.find?_some h1⟩
theorem zf{L:List ay}{c:ByteArray}(hc:cg c=true)(y:Int):((places L).flatMap fun z=>bif(px (par L z y)).1.toList==c.toList then[z]else[])=kids L c y:=by
 obtain⟨h1,h2⟩:=Bi L [] List.Pairwise.nil
 have h1:(places L).Pairwise (fun a b=>fY a b=true):=h1
 rw[ly (fun z=>(px (par L z y)).1.toList==c.toList) (fun z=>z),List.map_id']
 refine xK (h1.sublist List.filter_sublist) (sJ _) fun z=> ?_
 unfold kids
 rw[List.mem_filter,nA,List.mem_map]
 constructor
 ·rintro⟨_,h⟩
  obtain⟨l,hl,h3⟩:=zz hc h
  unfold iZ at h3
  rw[Bool.and_eq_true]at h3
  have h4:=kn.1 h3.1
  refine⟨l,List.mem_filter.2 ⟨hl,?_⟩,h4⟩
  unfold uI
  rw[h3.2,h4,h]
  rfl
 ·rintro⟨l,hl,rfl⟩
  obtain⟨hl,h3⟩:=List.mem_filter.1 hl
  unfold uI at h3
  rw[Bool.and_eq_true]at h3
  exact⟨(h2 _).2 (.inr ⟨l,hl,.inl rfl⟩),h3.2⟩
noncomputable def kD(L:List ay)(c:ByteArray)(y:Int):List ByteArray×Int:=bif mV L c y==0 then(kids L c y,0)else([],mV L c y)
theorem wY{L:List ay}{c:ByteArray}{y:Int}(h:(mV L c y==0)=true):dP L=true∧cg c=true∧cX y (-3000) 3000=true:=by
 unfold mV at h
 cases h1:dP L&&cg c
 ·rw[h1]at h
  simp at h
 ·rw[Bool.and_eq_true]at h1
  refine⟨h1.1,h1.2,?_⟩
  cases h2:cX y (-3000) 3000
  ·rw[h1.1,h1.2,h2]at h
   simp at h
  ·rfl
theorem mK{L:List ay}(h:dP L=true):okL L=true∧L.length≤20∧oF L=false:=by
 unfold dP at h
 simp only[Bool.and_eq_true,decide_eq_true_eq,Bool.not_eq_true']at h
 exact⟨h.1,h.2.1,h.2.2⟩
theorem ou{L:List ay}(hL:L.length≤1048576)(h: ∀x∈L,LkR x){c:ByteArray}(hc:c.size≤1048576)(y:Int):fZ L c y=some (kD L c y):=by
 unfold fZ kD
 rw[xk hL h hc,Option.bind_some,zc hL]
 cases hz:mV L c y==0
 ·simp only[bne,hz,Bool.not_false,cond_true,cond_false]
 ·simp only[bne,hz,Bool.not_true,cond_true,cond_false,Option.bind_some]
theorem tu{L:List ay}(hL:L.length≤1048576)(h: ∀x∈L,LkR x){c:ByteArray}(hc:c.size≤1048576)(y:Int):gl L c y=some (kD L c y):=by
 unfold gl kD
 rw[xE hL h hc,Option.bind_some]
 cases hz:mV L c y==0
 ·simp only[bne,hz,Bool.not_false,cond_true,cond_false]
 ·obtain⟨h1,h2,_⟩:=wY hz
  obtain⟨_,h3,_⟩:=mK h1
  obtain⟨h4,h5⟩:=wE h3
  simp only[bne,hz,Bool.not_true,cond_false,cond_true,h4,Option.bind_some]
  rw[eY (L:=places L) (by omega) (fun s=>s) (fun z=>bif(px (par L z y)).1.toList==c.toList then[z]else[]) (fun x _=>o2 _ _) (fun i x s hx hs=>by
   simp only[bk,hx,Option.bind_some,sK (show L.length≤1048577 by omega)]
   rw[cL (by simp;omega)]
   cases (px (par L x y)).1.toList==c.toList<;>simp),zf h2]
  rfl
def mz(c:ByteArray)(y:Int)(l:ay):List ay:=bif(l.Child.toList==c.toList) || (l.Parent.toList==c.toList)then(bif decide (l.Years.From≤bM l.Years.To (y - 1))then[ay.mk l.Child l.Parent (Span.mk l.Years.From (bM l.Years.To (y - 1)))]else[])else bif decide (l.Years.From≤l.Years.To)then[l]else[]
theorem o5(c:ByteArray)(y:Int)(l:ay):(mz c y l).length≤1:=by
 unfold mz
 cases (l.Child.toList==c.toList) || (l.Parent.toList==c.toList)<;>exact o2 _ _
theorem vL{c:ByteArray}{y:Int}(hy:cX y (-3000) 3000=true){s:List ay}(hs:s.length≤1048576)(x:ay):((((bif((x.Child.toList==c.toList) || (x.Parent.toList==c.toList))then some (ay.mk x.Child x.Parent (Span.mk x.Years.From (bM x.Years.To (bF (y - 1)))))else some x)).bind fun(j8:ay)=>(bif(decide (j8.Years.From≤j8.Years.To))then((c4 s ([j8]:List ay)).bind fun x10=>some x10)else some s)))=some (s++mz c y x):=by
 have h1:=bi.1 hy
 rw[bx (by omega) (by omega)]
 unfold mz
 cases (x.Child.toList==c.toList) || (x.Parent.toList==c.toList)
 ·simp only[cond_false,Option.bind_some]
  rw[cL (by simp;omega)]
  cases decide (x.Years.From≤x.Years.To)<;>simp
 ·simp only[cond_true,Option.bind_some]
  rw[cL (by simp;omega)]
  cases decide (x.Years.From≤bM x.Years.To (y - 1))<;>simp
theorem tM{L:List ay}(hL:L.length≤1048576)(c:ByteArray){y:Int}(hy:cX y (-3000) 3000=true):iv L c y=some (L.flatMap (mz c y)):=by
 unfold iv
 rw[eY hL (fun s=>s) (mz c y) (fun x _=>o5 c y x) (fun i x s hx hs=>by
  rw[bk,hx,Option.bind_some]
  exact vL hy hs x)]
 rfl
theorem zM{L:List ay}(hL:L.length≤1048576)(c:ByteArray){y:Int}(hy:cX y (-3000) 3000=true):iX L c y=some (L.flatMap (mz c y)):=by
 unfold iX
 rw[eY hL (fun s=>s) (mz c y) (fun x _=>o5 c y x) (fun i x s hx hs=>by
  rw[bk,hx,Option.bind_some]
  exact vL hy hs x)]
 rfl
end Go.Proofs.YtdejeagdkfokfaaGreatDoor.Sh
namespace Go.Proofs.YtdejeagdkfokfaaGreatDoor.Sh
open Go.RowKit Go.Lib
def dX(y:Int)(n:Name):Bool:=cX y n.Years.From n.Years.To
def fG(c:ByteArray)(y:Int)(n:Name):Bool:=((n.Status==0)&&(n.Language.toList==c.toList))&&dX y n
def kT(L:List Name)(c:ByteArray)(y:Int):Int:=bif dZ L&&jo c then bif cX y (-3000) 3000 then 0 else 2 else 1
theorem AR{L:List Name}(hL:L.length≤1048576)(h: ∀x∈L,NmR x){c:ByteArray}(hc:c.size≤1048576)(y:Int):gf L c y=some (bif kT L c y==0 then(bif decide (cK (fG c y) L<0)then(0,4)else(cK (fG c y) L,0))else(0,kT L c y)):=by
 unfold gf cb gz dd bI eQ kT
 rw[ot hL h,p7 _ (by simp only[maxLen];omega),ix (by omega) (fG c y) (fun i x hx=>by
  simp only[bk,hx,Option.bind_some,cZ]
  unfold fG dX
  cases x.Status==0<;>cases x.Language.toList==c.toList<;>rfl)]
 simp only[Option.bind_some,cZ]
 generalize cK (fG c y) L=k
 cases dZ L<;>cases jo c<;>cases cX y (-3000) 3000<;>cases decide (k<0)<;>rfl
theorem xF{L:List Name}(hL:L.length≤1048576)(h: ∀x∈L,NmR x){c:ByteArray}(hc:c.size≤1048576)(y:Int):jv L c y=some (kT L c y):=by
 unfold jv dm kT
 rw[jX hL h,Option.bind_some,qy _ (by simp only[maxLen];omega)]
 simp only[Option.bind_some,eR]
 cases dZ L<;>cases jo c<;>cases cX y (-3000) 3000<;>rfl
def kz{α:Type}(L:List α)(u:α→Bool)(i:Nat):List Int:=match L[i]? with
 | some x=>bif u x then[(i:Int)]else[]
 | none=>[]
theorem sU{α:Type}(L:List α)(u:α→Bool)(i:Nat):(kz L u i).length≤1:=by
 unfold kz
 cases L[i]? with
 | none=>simp
 | some x=>exact o2 _ _
theorem wN{α:Type}(L:List α)(u q:α→Bool): ∀(M:List α) (k m:Nat),L.drop k=M→bZ (fun _ (i:Int)=>(L[i.toNat]?).any q) (fun _ i=>i) ((List.range' k M.length).flatMap (kz L u)) m=bif decide (cK (fun x=>q x&&u x) M<0)then none else some (cK (fun x=>q x&&u x) M+k)
 | [],k,m,_=>rfl
 | x::M,k,m,hd=>by
  have hx:L[k]? =some x:=by
   have:=List.getElem?_drop (xs:=L) (i:=k) (j:=0)
   rw[hd]at this
   simpa using this.symm
  have hd':L.drop (k+1)=M:=by rw[←List.drop_drop,hd];rfl
  have ih:=fun m=>wN L u q M (k+1) m hd'
  have hf:kz L u k=bif u x then[(k:Int)]else[]:=by unfold kz;rw[hx]
  rw[List.length_cons,List.range'_succ,List.flatMap_cons,hf]
  have hlt:=(lz (fun x=>q x&&u x) M).1
  unfold cK
  cases hu:u x
  ·simp only[Bool.and_false,cond_false,List.nil_append]
   rw[ih m]
   by_cases h0:cK (fun x=>q x&&u x) M<0
   ·simp only[decide_eq_true h0,cond_true]
    rfl
   ·simp only[decide_eq_false h0,cond_false]
    rw[decide_eq_false (by omega),cond_false]
    congr 1
    omega
  ·simp only[Bool.and_true,cond_true,List.singleton_append]
   unfold bZ
   simp only[Int.toNat_natCast,hx,Option.any_some]
   cases hq:q x
   ·simp only[cond_false]
    rw[ih (m+1)]
    by_cases h0:cK (fun x=>q x&&u x) M<0
    ·simp only[decide_eq_true h0,cond_true]
     rfl
    ·simp only[decide_eq_false h0,cond_false]
     rw[decide_eq_false (by omega),cond_false]
     congr 1
     omega
   ·simp only[cond_true]
    rw[decide_eq_false (by omega),cond_false]
    simp
theorem Bq{L:List Name}(hL:L.length≤12)(c:ByteArray)(y:Int):fE L c y=some (cK (fG c y) L):=by
 unfold fE kJ
 rw[sb 100 (by omega) (by omega) (kz L (dX y)) (sU L _) [] (by simp;omega) (fun i s hi hs=>by
  have hx:L[i]? =some L[i]:=List.getElem?_eq_getElem hi
  simp only[bk,hx,Option.bind_some,eR]
  rw[cL (by simp;omega)]
  have hu:kz L (dX y) i=bif cX y L[i].Years.From L[i].Years.To then[(i:Int)]else[]:=by
   unfold kz
   rw[hx]
   rfl
  rw[hu]
  cases cX y L[i].Years.From L[i].Years.To<;>simp)]
 have hmem: ∀(k:Nat) (i:Int),((List.range L.length).flatMap (kz L (dX y)))[k]? =some i→ ∃(j:Nat) (x:Name),i=j∧L[j]? =some x:=fun k i h=>by
  obtain⟨j,hj,hi⟩:=List.mem_flatMap.1 (List.mem_of_getElem? h)
  have hx:L[j]? =some (L[j]'(List.mem_range.1 hj)):=List.getElem?_eq_getElem _
  refine⟨j,_,?_,hx⟩
  unfold kz at hi
  rw[hx]at hi
  simp only at hi
  cases hu:dX y (L[j]'(List.mem_range.1 hj))<;>rw[hu]at hi<;>simp at hi
  all_goals exact hi
 have hlen:((List.range L.length).flatMap (kz L (dX y))).length≤1000:=by
  have: ∀M:List Nat,(M.flatMap (kz L (dX y))).length≤M.length:=fun M=>by
   induction M with
   | nil=>simp
   | cons i M ih=>
    rw[List.flatMap_cons,List.length_append,List.length_cons]
    have:=sU L (dX y) i
    omega
  have:=this (List.range L.length)
  rw[List.length_range]at this
  omega
 simp only[List.nil_append,Option.bind_some]
 rw[fS (by omega) (fun _ (i:Int)=>(L[i.toNat]?).any fun n=>(n.Status==0)&&(n.Language.toList==c.toList)) (fun _ i=>i) (fun k i hk=>by
  obtain⟨j,x,rfl,hx⟩:=hmem k i hk
  simp only[bk,hk,hx,Option.bind_some,Int.toNat_natCast,Option.any_some])]
 rw[List.range_eq_range',wN L (dX y) (fun n=>(n.Status==0)&&(n.Language.toList==c.toList)) L 0 0 rfl]
 have e:cK (fun x=>((x.Status==0)&&(x.Language.toList==c.toList))&&dX y x) L=cK (fG c y) L:=rfl
 have hlt:=(lz (fG c y) L).1
 rw[e]
 by_cases h0:cK (fG c y) L<0
 ·rw[decide_eq_true h0]
  simp only[cond_true]
  congr 1
  omega
 ·rw[decide_eq_false h0]
  simp
end Go.Proofs.YtdejeagdkfokfaaGreatDoor.Sh
namespace Go.Proofs.YtdejeagdkfokfaaGreatDoor.Sh
open Go.RowKit Go.Lib
theorem sH{α:Type}{L:List α}{f:Nat→List α}: ∀(m a:Nat),a+m≤L.length→(∀i,a≤i→i<a+m→f i=(L[i]?).toList)→(List.range' a m).flatMap f=(L.drop a).take m
 | 0,a,_,_=>by simp
 | m+1,a,h,hf=>by
  rw[List.range'_succ,List.flatMap_cons,sH m (a+1) (by omega) (fun i h1 h2=>hf i (by omega) (by omega)),hf a (Nat.le_refl _) (by omega),List.getElem?_eq_getElem (by omega)]
  rw[show(L.drop a)=L[a]::L.drop (a+1)from List.drop_eq_getElem_cons (by omega)]
  rfl
theorem Da{α:Type}{L R:List α}{k:Nat}(hk:k<L.length){f:Nat→List α}(h1:f k=R)(h2: ∀i,i<L.length→i≠k→f i=(L[i]?).toList):(List.range L.length).flatMap f=L.take k++R++L.drop (k+1):=by
 have e:List.range L.length=List.range' 0 k++(k::List.range' (k+1) (L.length -(k+1))):=by
  rw[←List.range'_succ,show L.length -(k+1)+1=L.length - k by omega]
  have:=List.range'_append (s:=0) (m:=k) (n:=L.length - k) (step:=1)
  rw[Nat.one_mul,Nat.zero_add,show k+(L.length - k)=L.length by omega]at this
  rw[this,List.range_eq_range']
 have hd:(L.drop (k+1)).take (L.length -(k+1))=L.drop (k+1):=List.take_of_length_le (by rw[List.length_drop];exact Nat.le_refl _)
 rw[e,List.flatMap_append,List.flatMap_cons,h1,sH k 0 (by omega) (fun i _ h=>h2 i (by omega) (by omega)),sH (L.length -(k+1)) (k+1) (by omega) (fun i h h'=>h2 i (by omega) (by omega)),List.drop_zero,hd,List.append_assoc]
def gZ(L:List Name)(k:Nat)(x:Name)(y:Int):List Name:=L.take k++(bif x.Years.From==y then[]else[Name.mk x.Text x.Language x.Status (Span.mk x.Years.From (y - 1))])++L.drop (k+1)
def hG(x:Name)(y:Int)(t:ByteArray):Name:=Name.mk t x.Language 0 (Span.mk y x.Years.To)
theorem wl{L:List Name}{k:Nat}(hk:k<L.length)(x:Name)(y:Int):(gZ L k x y).length≤L.length:=by
 unfold gZ
 have:(bif x.Years.From==y then[]else[Name.mk x.Text x.Language x.Status (Span.mk x.Years.From (y - 1))]).length≤1:=by
  cases x.Years.From==y<;>simp
 simp only[List.length_append,List.length_take,List.length_drop]
 omega
theorem Dv{α:Type}{L:List α}{k:Nat}(hk:k<L.length)(x:α):L.set k x=L.take k++[x]++L.drop (k+1):=by
 rw[List.set_eq_take_append_cons_drop,if_pos hk,List.append_assoc]
 rfl
theorem q7{L:List Name}(hL:L.length≤12){k:Nat}{x:Name}(hx:L[k]? =some x){y:Int}(hy:cX y (-3000) 3000=true)(t:ByteArray):jj L (k:Int) y t=some (gZ L k x y++[hG x y t]):=by
 have hk:=(List.getElem?_eq_some_iff.1 hx).1
 have h1:=bi.1 hy
 unfold jj dW
 rw[if_pos (by omega)]
 simp only[Option.bind_some,bk,hx,Int.toNat_natCast]
 rw[bx (n:=y - 1) (by omega) (by omega)]
 have hs:(L.set k (Name.mk x.Text x.Language x.Status (Span.mk x.Years.From (y - 1))))[k]? =some (Name.mk x.Text x.Language x.Status (Span.mk x.Years.From (y - 1))):=by
  rw[List.getElem?_set_self hk]
 rw[hs]
 have hm:=wl hk x y
 have happ:=cL (show(gZ L k x y).length+[hG x y t].length≤68719476736 by simp;omega)
 unfold gZ hG at*
 simp only[Option.bind_some]
 cases hf:x.Years.From==y
 ·simp only[cond_false,Option.bind_some]
  rw[hf]at happ
  rw[Dv hk]
  simp only[cond_false]at happ
  rw[happ]
  rfl
 ·simp only[cond_true]
  rw[hf]at happ
  unfold eD
  rw[bx (by omega) (by omega),if_pos ⟨by omega,rfl,by rw[List.length_set];omega,by rw[List.length_set];omega⟩,Int.toNat_natCast]
  have he:(L.set k (Name.mk x.Text x.Language x.Status (Span.mk x.Years.From (y - 1)))).eraseIdx k=L.take k++[]++L.drop (k+1):=by
   rw[List.eraseIdx_set_eq,List.eraseIdx_eq_take_drop_succ,List.append_nil]
  simp only[Option.bind_some,he]
  simp only[cond_true]at happ
  rw[happ]
  rfl
theorem rn{L:List Name}(hL:L.length≤12){k:Nat}{x:Name}(hx:L[k]? =some x){y:Int}(hy:cX y (-3000) 3000=true)(t:ByteArray):gQ L (k:Int) y t=some (gZ L k x y++[hG x y t]):=by
 have hk:=(List.getElem?_eq_some_iff.1 hx).1
 have h1:=bi.1 hy
 unfold gQ
 rw[bk,hx,Option.bind_some,bx (n:=y - 1) (by omega) (by omega)]
 rw[sb 100 (by omega) (by omega) (fun i=>if i=k then(bif x.Years.From==y then[]else[Name.mk x.Text x.Language x.Status (Span.mk x.Years.From (y - 1))])else(L[i]?).toList) (fun i=>by
  split
  ·cases x.Years.From==y<;>simp
  ·cases L[i]? <;>simp) [] (by simp;omega) (fun i s hi hs=>by
  have hz:L[i]? =some L[i]:=List.getElem?_eq_getElem hi
  rw[bk,hz,Option.bind_some]
  have happ: ∀z:Name,c4 s [z]=some (s++[z]):=fun z=>cL (by simp;omega)
  by_cases hik:i=k
  ·subst hik
   have hxz:L[i]=x:=by rw[hx]at hz;injection hz with hz;exact hz.symm
   have:((i:Int)==(i:Int))=true:=by simp
   rw[this,if_pos rfl,hxz]
   cases x.Years.From==y<;>simp[happ]
  ·have:((i:Int)==(k:Int))=false:=by simp;omega
   rw[this,if_neg hik]
   simp[happ])]
 rw[Da hk (if_pos rfl) (fun i hi hne=>if_neg hne)]
 have hm:=wl hk x y
 have happ:=cL (show(gZ L k x y).length+[hG x y t].length≤68719476736 by simp;omega)
 unfold gZ hG at*
 simp only[List.nil_append,Option.bind_some]
 rw[happ]
 rfl
def m5(L:List Name)(c:ByteArray)(y:Int)(t:ByteArray):List Name×Int:=bif dA t then(bif kT L c y==0 then(match L[(cK (fG c y) L).toNat]? with
  | some x=>bif decide (cK (fG c y) L<0)then([],4)else bif decide ((gZ L (cK (fG c y) L).toNat x y++[hG x y t]).length>12)then([],3)else(gZ L (cK (fG c y) L).toNat x y++[hG x y t],0)
  | none=>([],4))else([],kT L c y))else([],1)
theorem rW{L:List Name}{c:ByteArray}{y:Int}(h:(kT L c y==0)=true):dZ L=true∧jo c=true∧cX y (-3000) 3000=true:=by
 unfold kT at h
 cases h1:dZ L&&jo c
 ·rw[h1]at h
  simp at h
 ·rw[Bool.and_eq_true]at h1
  refine⟨h1.1,h1.2,?_⟩
  cases h2:cX y (-3000) 3000
  ·rw[h1.1,h1.2,h2]at h
   simp at h
  ·rfl
theorem EA{α:Type}(L:List α)(k:Nat):decide ((L.length:Int)>(k:Int))=decide (L.length>k):=by
 by_cases h:L.length>k
 ·rw[decide_eq_true h,decide_eq_true (by omega)]
 ·rw[decide_eq_false h,decide_eq_false (by omega)]
theorem qP{L:List Name}(hL:L.length≤1048576)(h: ∀x∈L,NmR x){c t:ByteArray}(hc:c.size≤1048576)(ht:t.size≤4294967280)(y:Int):ir L c y t=some (m5 L c y t)∧iB L c y t=some (m5 L c y t):=by
 unfold ir iB m5
 rw[lS t ht,lV t ht,Option.bind_some,Option.bind_some]
 cases dA t
 ·exact⟨rfl,rfl⟩
 simp only[Bool.not_true,cond_false,cond_true]
 rw[AR hL h hc,xF hL h hc,Option.bind_some,Option.bind_some]
 cases hz:kT L c y==0
 ·simp only[cond_false,bne,hz,Bool.not_false,cond_true,and_self]
 obtain⟨hn,_,hy⟩:=rW hz
 have hl12:L.length≤12:=by
  unfold dZ at hn
  simp only[Bool.and_eq_true,decide_eq_true_eq]at hn
  exact hn.2
 simp only[cond_true,bne,hz,Bool.not_true,cond_false]
 rw[Bq hl12 c y,Option.bind_some]
 by_cases h0:cK (fG c y) L<0
 ·simp only[decide_eq_true h0,cond_true]
  cases L[(cK (fG c y) L).toNat]? <;>exact⟨rfl,rfl⟩
 ·obtain⟨k,hk⟩:=Int.eq_ofNat_of_zero_le (show 0≤cK (fG c y) L by omega)
  obtain⟨x,hx,_⟩:=pe (fG c y) hk
  simp only[decide_eq_false h0,cond_false]
  rw[hk]
  simp only[Int.toNat_natCast,hx,q7 hl12 hx hy,rn hl12 hx hy,Option.bind_some]
  have e:=EA (gZ L k x y++[hG x y t]) 12
  have e:decide (((gZ L k x y++[hG x y t]).length:Int)>12)=decide ((gZ L k x y++[hG x y t]).length>12):=e
  rw[e]
  have e2:decide ((Int.ofNat k)<0)=false:=decide_eq_false (by simp)
  cases decide ((gZ L k x y++[hG x y t]).length>12)<;>simp
end Go.Proofs.YtdejeagdkfokfaaGreatDoor.Sh
namespace Go.Proofs.YtdejeagdkfokfaaGreatDoor.Sh
open Go.RowKit Go.Lib
structure WlR (w:World):Prop where
 pl:w.Places.length≤1048576
 p: ∀x∈w.Places,PlR x
 ll:w.Links.length≤1048576
 l: ∀x∈w.Links,LkR x
structure ChR (x:Change):Prop where
 c:x.Code.size≤1048576
 o:x.Other.size≤1048576
 l:x.Language.size≤1048576
 t:x.Text.size≤1048576
theorem fy{L:List Place}(hr:ja L=true)(c:ByteArray):(L.any (bu c)=false∧L.find? (bu c)=none∧(∃k:Nat,cD L c=some ((k:Int),false))∧ct L c=some (-1))∨ ∃(k:Nat) (p:Place),L.any (bu c)=true∧L[k]? =some p∧p∈L∧bu c p=true∧L.find? (bu c)=some p∧cD L c=some ((k:Int),true)∧ct L c=some (k:Int):=by
 obtain⟨hs,_,hl⟩:=gL.1 hr
 obtain⟨k,h1,_,_,_,h2⟩:=oE hl hs c
 have h3:=mC (show L.length≤1048576 by omega) c
 rcases sf (bu c) L with⟨h4,h5⟩ | ⟨i,p,h4,h5,h6⟩
 ·left
  have ha:L.any (bu c)=false:=by
   rw[List.find?_eq_none]at h5
   rw[List.any_eq_false]
   exact fun x hx=>h5 x hx
  rw[ha]at h1
  exact⟨ha,h5,⟨k,h1⟩,by rw[h3,h4]⟩
 ·right
  have ha:L.any (bu c)=true:=List.any_eq_true.2 ⟨p,List.mem_of_find?_eq_some h6,List.find?_some h6⟩
  obtain⟨h7,h8⟩:=h2 ha
  rw[h4]at h7
  have h7:i=k:=by omega
  subst h7
  rw[ha]at h1
  exact⟨i,p,ha,h5,List.mem_of_find?_eq_some h6,List.find?_some h6,h6,h1,by rw[h3,h4]⟩
def ku(P:List Place)(c:ByteArray)(s:Span):Bool:=match P.find? (bu c)with
 | some p=>decide (p.Years.From≤s.From)&&decide (s.To≤p.Years.To)
 | none=>false
theorem qM{W:World}(hr:ja W.Places=true)(c:ByteArray)(s:Span):dU W c s=some (ku W.Places c s):=by
 unfold dU fq ku
 rcases fy hr c with⟨_,h2,⟨k,h3⟩,_⟩ | ⟨k,p,_,h2,_,_,h4,h5,_⟩
 ·rw[h2,h3]
  rfl
 ·rw[h4,h5]
  simp only[Option.bind_some,cond_true,bk,h2]
def inW(P:List Place)(l:ay):Bool:=ku P l.Child l.Years&&ku P l.Parent l.Years
noncomputable def dq(W:World):Bool:=ja W.Places&&(dP W.Links&&W.Links.all (inW W.Places))
theorem eP{W:World}(h:WlR W):dk W=some (dq W):=by
 unfold dk dq
 rw[xl h.pl h.p,lQ h.ll h.l]
 cases hr:ja W.Places
 ·rfl
 cases dP W.Links
 ·rfl
 unfold b9 cq jf
 have hl:=h.ll
 rw[ix (by omega) (fun l=> !inW W.Places l) (fun i x hx=>by
  rw[bk,hx,Option.bind_some,qM hr,qM hr]
  unfold inW
  cases ku W.Places x.Child x.Years<;>cases ku W.Places x.Parent x.Years<;>rfl)]
 simp only[Option.bind_some,io,cond_true,Bool.true_and]
 congr 1
 rw[Bool.eq_iff_iff]
 simp
theorem mR{W:World}(h:WlR W):fT W=some (dq W):=by
 unfold fT dq
 rw[mQ h.pl h.p,iC h.ll h.l]
 cases hr:ja W.Places
 ·rfl
 cases dP W.Links
 ·rfl
 have hl:=h.ll
 simp only[Bool.not_true,cond_false,Option.bind_some,Bool.true_and]
 rw[gh (by omega) (fun l=> !inW W.Places l) false (fun i x hx=>by
  rw[bk,hx,Option.bind_some]
  unfold inW ku
  rcases fy hr x.Child with⟨_,h2,_,h3⟩ | ⟨k,p,_,h2,_,_,h4,_,h5⟩
  ·have:decide ((-1:Int)<0)=true:=rfl
   rw[h2,h3,Option.bind_some]
   rcases fy hr x.Parent with⟨_,k2,_,k3⟩ | ⟨k',p',_,k2,_,_,k4,_,k5⟩
   ·rw[k3]
    rfl
   ·rw[k5]
    rfl
  ·rw[h4,h5,Option.bind_some,decide_eq_false (show ¬((k:Int)<0) by omega)]
   rcases fy hr x.Parent with⟨_,k2,_,k3⟩ | ⟨k',p',_,k2,_,_,k4,_,k5⟩
   ·rw[k2,k3]
    simp
   ·rw[k4,k5,Option.bind_some,decide_eq_false (show ¬((k':Int)<0) by omega)]
    simp only[cond_false,bk,h2,k2,Option.bind_some]
    have e:((bif decide (x.Years.From<uM p.Years.From p'.Years.From)then some true else some (decide (x.Years.To>bM p.Years.To p'.Years.To))):Option Bool)=some (!((decide (p.Years.From≤x.Years.From)&&decide (x.Years.To≤p.Years.To))&&(decide (p'.Years.From≤x.Years.From)&&decide (x.Years.To≤p'.Years.To)))):=by
     rw[←Bool.apply_cond some]
     congr 1
     rw[Bool.eq_iff_iff]
     unfold uM bM
     by_cases a1:p'.Years.From>p.Years.From<;>by_cases a2:p'.Years.To<p.Years.To<;>simp[a1,a2]<;>omega
    rw[e]
    rfl)]
 rw[Bool.eq_iff_iff.2 (show(W.Links.any fun l=> !inW W.Places l)=true↔(!(W.Links.all (inW W.Places)))=true by simp)]
 cases W.Links.all (inW W.Places)<;>rfl
end Go.Proofs.YtdejeagdkfokfaaGreatDoor.Sh
namespace Go.Proofs.YtdejeagdkfokfaaGreatDoor.Sh
open Go.RowKit Go.Lib
def oP(x:Change):Bool:=bif(x.Kind==2) || (x.Kind==3)then cg x.Other&& !(x.Other.toList==x.Code.toList)else x.Other.toList==(ByteArray.mk #[]).toList
def wL(x:Change):Bool:=bif x.Kind==0 then jo x.Language&&dA x.Text else(x.Language.toList==(ByteArray.mk #[]).toList)&&(x.Text.toList==(ByteArray.mk #[]).toList)
def eH(x:Change):Bool:=cX x.Year (-2999) 3000&&(cX x.Kind 0 3&&(cg x.Code&&(oP x&&wL x)))
theorem lR{x:Change}(h:ChR x):gq x=some (eH x):=by
 have h1:=h.c
 have h2:=h.o
 have h3:=h.l
 have h4:=h.t
 unfold gq cO eH
 rw[cZ,cZ,lC _ (by unfold maxLen;omega),lC _ (by unfold maxLen;omega),p7 _ (by unfold maxLen;omega),lS _ (by omega)]
 simp only[Option.bind_some]
 cases cX x.Year (-2999) 3000
 ·rfl
 cases cX x.Kind 0 3
 ·rfl
 cases cg x.Code
 ·rfl
 have e1:(bif(x.Kind==2) || (x.Kind==3)then(bif cg x.Other then some (!(x.Other.toList==x.Code.toList))else some false)else some (x.Other.toList==(ByteArray.mk #[]).toList))=some (oP x):=by
  unfold oP
  cases (x.Kind==2) || (x.Kind==3)<;>cases cg x.Other<;>rfl
 have e2:(bif x.Kind==0 then(bif jo x.Language then some (dA x.Text)else some false)else some ((x.Language.toList==(ByteArray.mk #[]).toList)&&(x.Text.toList==(ByteArray.mk #[]).toList)))=some (wL x):=by
  unfold wL
  cases x.Kind==0<;>cases jo x.Language<;>rfl
 rw[e1,e2]
 rfl
theorem tx{x:Change}(h:ChR x):iA x=some (eH x):=by
 have h1:=h.c
 have h2:=h.o
 have h3:=h.l
 have h4:=h.t
 unfold iA eH
 rw[eR,eR,fM _ (by unfold maxLen;omega),fM _ (by unfold maxLen;omega),qy _ (by unfold maxLen;omega),lV _ (by omega)]
 simp only[Option.bind_some]
 cases cX x.Year (-2999) 3000
 ·rfl
 cases cX x.Kind 0 3
 ·rfl
 cases cg x.Code
 ·rfl
 have e1:(bif(x.Kind==2) || (x.Kind==3)then((bif cg x.Other then some (!(x.Other.toList==x.Code.toList))else some false).bind fun(j:Bool)=>some j)else some (x.Other.toList==(ByteArray.mk #[]).toList))=some (oP x):=by
  unfold oP
  cases (x.Kind==2) || (x.Kind==3)<;>cases cg x.Other<;>rfl
 rw[e1]
 unfold wL
 cases x.Kind==0<;>cases jo x.Language<;>cases dA x.Text<;>cases (x.Language.toList==(ByteArray.mk #[]).toList)<;>cases (x.Text.toList==(ByteArray.mk #[]).toList)<;>cases oP x<;>rfl
def lP(x:Change):Bool:=(x.Kind==2) || (x.Kind==3)
theorem gF{x:Change}(h:eH x=true):cX x.Year (-2999) 3000=true∧cX x.Kind 0 3=true∧cg x.Code=true∧(lP x=true→cg x.Other=true∧(x.Other.toList==x.Code.toList)=false)∧(lP x=false→(x.Other.toList==(ByteArray.mk #[]).toList)=true)∧((x.Kind==0)=true→jo x.Language=true∧dA x.Text=true):=by
 unfold eH oP wL at h
 rw[Bool.and_eq_true,Bool.and_eq_true,Bool.and_eq_true,Bool.and_eq_true]at h
 obtain⟨a1,a2,a3,a4,a5⟩:=h
 refine⟨a1,a2,a3,fun hh=> ?_,fun hh=> ?_,fun hh=> ?_⟩
 ·rw[show((x.Kind==2) || (x.Kind==3))=true from hh,cond_true,Bool.and_eq_true,Bool.not_eq_true']at a4
  exact a4
 ·rw[show((x.Kind==2) || (x.Kind==3))=false from hh,cond_false]at a4
  exact a4
 ·rw[hh,cond_true,Bool.and_eq_true]at a5
  exact a5
theorem zy{x:Change}(h:eH x=true):(x.Other.toList==(ByteArray.mk #[]).toList)= !lP x:=by
 obtain⟨_,_,_,h4,h5,_⟩:=gF h
 cases hh:lP x
 ·exact h5 hh
 ·exact rS (gV (h4 hh).1).1
noncomputable def chC(W:World)(x:Change):Int:=bif dq W&&eH x then(match W.Places.find? (bu x.Code)with
 | none=>4
 | some p=>bif lP x then(match W.Places.find? (bu x.Other)with
  | none=>4
  | some q=>bif cX (x.Year - 1) p.Years.From p.Years.To&&(cX x.Year p.Years.From p.Years.To&&cX x.Year q.Years.From q.Years.To)then 0 else 5)
  else bif cX (x.Year - 1) p.Years.From p.Years.To&&((x.Kind==1) || cX x.Year p.Years.From p.Years.To)then 0 else 5)else 1
theorem vk{y l h:Int}(hy:cX y l h=true)(h1: -1000000≤l)(h2:h≤1000000):bF (y - 1)=y - 1:=by
 obtain⟨h3,h4⟩:=bi.1 hy
 exact bx (n:=y - 1) (by omega) (by omega)
theorem rB{x:Change}(h:lP x=true):(x.Kind==1)=false∧(x.Kind !=1)=true:=by
 unfold lP at h
 have:x.Kind=2∨x.Kind=3:=by simpa using h
 rcases this with e | e<;>rw[e]<;>exact⟨rfl,rfl⟩
theorem sg{W:World}{x:Change}(hW:WlR W)(hx:ChR x):gb W x=some (chC W x):=by
 unfold gb chC
 rw[eP hW,lR hx]
 cases hw:dq W
 ·rfl
 cases hc:eH x
 ·rfl
 have hr:ja W.Places=true:=by
  unfold dq at hw
  rw[Bool.and_eq_true]at hw
  exact hw.1
 rw[vk (gF hc).1 (by omega) (by omega)]
 unfold ef cv bI cO
 rw[show((x.Kind==2) || (x.Kind==3))=lP x from rfl]
 rcases fy hr x.Code with⟨_,h2,⟨k,h3⟩,_⟩ | ⟨k,p,_,h2,_,_,h4,h5,_⟩
 ·rw[h2,h3]
  rfl
 rw[h4,h5]
 simp only[Option.bind_some,cond_true,bk,h2,cZ,Bool.not_true,cond_false,Bool.and_self]
 cases ho:lP x
 ·simp only[Option.bind_some,cond_false,Sum.elim_inl]
  rw[show(x.Kind !=1)= !(x.Kind==1)from rfl]
  cases cX (x.Year - 1) p.Years.From p.Years.To<;>cases x.Kind==1<;>cases cX x.Year p.Years.From p.Years.To<;>rfl
 rw[(rB ho).1,(rB ho).2]
 rcases fy hr x.Other with⟨_,h2,⟨k,h3⟩,_⟩ | ⟨k,q,_,h2,_,_,h4,h5,_⟩
 ·rw[h2,h3]
  rfl
 rw[h4,h5]
 simp only[Option.bind_some,cond_true,bk,h2,Bool.not_true,Sum.elim_inl]
 cases cX (x.Year - 1) p.Years.From p.Years.To<;>cases cX x.Year p.Years.From p.Years.To<;>cases cX x.Year q.Years.From q.Years.To<;>rfl
theorem wC{W:World}{x:Change}(hW:WlR W)(hx:ChR x):jE W x=some (chC W x):=by
 unfold jE chC
 rw[mR hW,tx hx]
 cases hw:dq W
 ·rfl
 cases hc:eH x
 ·rfl
 have hr:ja W.Places=true:=by
  unfold dq at hw
  rw[Bool.and_eq_true]at hw
  exact hw.1
 rw[vk (gF hc).1 (by omega) (by omega),zy hc,Bool.not_not]
 unfold dp
 have n1:decide ((-1:Int)<0)=true:=rfl
 have hn: ∀k:Nat,decide ((k:Int)<0)=false:=fun k=>decide_eq_false (by omega)
 rcases fy hr x.Code with⟨_,h2,_,h3⟩ | ⟨k,p,_,h2,_,_,h4,_,h5⟩
 ·rw[h2,h3]
  rcases fy hr x.Other with⟨_,_,_,k3⟩ | ⟨_,_,_,_,_,_,_,_,k3⟩<;>rw[k3]<;>rfl
 rw[h4,h5]
 simp only[Option.bind_some,cond_true,bk,h2,eR,Bool.not_true,cond_false,Bool.and_self,hn,Bool.false_or]
 cases ho:lP x
 ·rcases fy hr x.Other with⟨_,_,_,k3⟩ | ⟨_,_,_,_,_,_,_,_,k3⟩<;>rw[k3]<;>simp only[Option.bind_some,cond_false,Bool.false_and]<;>rw[show(x.Kind !=1)= !(x.Kind==1)from rfl]<;>
  cases cX (x.Year - 1) p.Years.From p.Years.To<;>cases x.Kind==1<;>cases cX x.Year p.Years.From p.Years.To<;>rfl
 rw[(rB ho).2]
 rcases fy hr x.Other with⟨_,h2,_,h3⟩ | ⟨k,q,_,h2,_,_,h4,_,h5⟩
 ·rw[h2,h3]
  simp only[Option.bind_some,cond_true,n1,Bool.and_self]
 rw[h4,h5]
 simp only[Option.bind_some,cond_true,bk,h2,hn,Bool.and_false,cond_false]
 cases cX (x.Year - 1) p.Years.From p.Years.To<;>cases cX x.Year p.Years.From p.Years.To<;>cases cX x.Year q.Years.From q.Years.To<;>rfl
end Go.Proofs.YtdejeagdkfokfaaGreatDoor.Sh
namespace Go.Proofs.YtdejeagdkfokfaaGreatDoor.Sh
open Go.RowKit Go.Lib
theorem lT{L:List Place}(hr:ja L=true){c:ByteArray}{p:Place}(hp:L.find? (bu c)=some p): ∃k:Nat,L[k]? =some p∧p∈L∧bu c p=true∧cD L c=some ((k:Int),true)∧ct L c=some (k:Int):=by
 rcases fy hr c with⟨_,h2,_,_⟩ | ⟨k,q,_,h2,h3,h4,h5,h6,h7⟩
 ·rw[hp]at h2
  cases h2
 ·rw[hp]at h5
  cases h5
  exact⟨k,h2,h3,h4,h6,h7⟩
def toL(c:ByteArray)(y:Int)(t:Int)(l:ay):Int:=bif(l.Child.toList==c.toList)&&decide (l.Years.From>y)then bM t (bF (l.Years.From - 1))else t
def py(c:ByteArray)(y:Int)(l:ay):ay:=bif(l.Child.toList==c.toList)&&cX y l.Years.From l.Years.To then ay.mk l.Child l.Parent (Span.mk l.Years.From (y - 1))else l
def mA(c:ByteArray)(y:Int)(l:ay):List ay:=bif decide ((py c y l).Years.From≤(py c y l).Years.To)then[py c y l]else[]
theorem o6(c:ByteArray)(y:Int)(l:ay):(mA c y l).length≤1:=by
 unfold mA
 cases decide ((py c y l).Years.From≤(py c y l).Years.To)<;>simp
def mvL(L:List ay)(c o:ByteArray)(y t:Int):List ay:=L.flatMap (mA c y)++[ay.mk c o (Span.mk y (L.foldl (toL c y) t))]
noncomputable def mvC(L:List ay):Int:=bif decide ((L.length:Int)>20)then 3 else bif dP L then 0 else 5
theorem kX{α β:Type}(f:α→List β)(hf: ∀x,(f x).length≤1): ∀L:List α,(L.flatMap f).length≤L.length
 | []=>by simp
 | x::l=>by
  rw[List.flatMap_cons,List.length_append,List.length_cons]
  have:=hf x
  have:=kX f hf l
  omega
theorem yK{L:List ay}(hL:L.length≤1048576){c o:ByteArray}{y t:Int}:c4 (L.flatMap (mA c y)) [ay.mk c o (Span.mk y (L.foldl (toL c y) t))]=some (mvL L c o y t):=by
 have:=kX _ (o6 c y) L
 exact cL (by rw[List.length_singleton];omega)
theorem uN(L:List ay)(c o:ByteArray)(y t:Int):(mvL L c o y t).length≤L.length+1:=by
 unfold mvL
 have:=kX _ (o6 c y) L
 rw[List.length_append]
 simpa using this
theorem D2{c:ByteArray}{y:Int}{l x:ay}(hx:x∈mA c y l):x.Child=l.Child∧x.Parent=l.Parent:=by
 unfold mA at hx
 cases hd:decide ((py c y l).Years.From≤(py c y l).Years.To)
 ·rw[hd]at hx
  simp at hx
 ·rw[hd]at hx
  have:x=py c y l:=by simpa using hx
  rw[this]
  unfold py
  cases (l.Child.toList==c.toList)&&cX y l.Years.From l.Years.To<;>exact⟨rfl,rfl⟩
theorem Di{L:List ay}{c o:ByteArray}{y t:Int}{x:ay}(hx:x∈mvL L c o y t):(∃l∈L,x.Child=l.Child∧x.Parent=l.Parent)∨(x.Child=c∧x.Parent=o):=by
 unfold mvL at hx
 rcases List.mem_append.1 hx with hx | hx
 ·obtain⟨l,hl,hx⟩:=List.mem_flatMap.1 hx
  exact .inl ⟨l,hl,D2 hx⟩
 ·have:x=ay.mk c o (Span.mk y (L.foldl (toL c y) t)):=by simpa using hx
  rw[this]
  exact .inr ⟨rfl,rfl⟩
theorem yJ{L:List ay}(h: ∀x∈L,LkR x){c o:ByteArray}(hc:c.size≤1048576)(ho:o.size≤1048576)(y t:Int): ∀x∈mvL L c o y t,LkR x:=fun x hx=>by
 rcases Di hx with⟨l,hl,e1,e2⟩ | ⟨e1,e2⟩
 ·exact⟨e1▸(h l hl).c,e2▸(h l hl).p⟩
 ·exact⟨e1▸hc,e2▸ho⟩
theorem q6{P:List Place}{L:List ay}(hr:ja P=true)(hL:L.length≤1048576){c o:ByteArray}{p q:Place}(hp:P.find? (bu c)=some p)(hq:P.find? (bu o)=some q)(y:Int):eA (World.mk P L) c o y=some (ay.mk c o (Span.mk y (L.foldl (toL c y) (bM p.Years.To q.Years.To)))):=by
 obtain⟨k,h1,_,_,h2,_⟩:=lT hr hp
 obtain⟨m,h3,_,_,h4,_⟩:=lT hr hq
 unfold eA cv
 rw[h2,h4]
 simp only[Option.bind_some,bk,h1,h3]
 rw[(mD (L:=L) (by omega) (fun _ _=>True) (toL c y) (s:=bM p.Years.To q.Years.To) (fun i x s hx _=>by
  refine⟨?_,trivial⟩
  rw[bk,hx,Option.bind_some]
  unfold toL
  cases (x.Child.toList==c.toList)&&decide (x.Years.From>y)<;>rfl) trivial).1]
 rfl
theorem mH{P:List Place}{L:List ay}(hr:ja P=true)(hL:L.length≤1000000)(h: ∀x∈L,LkR x){c o:ByteArray}(hc:c.size≤1048576)(ho:o.size≤1048576)(hne:(c.toList==o.toList)=false){p q:Place}(hp:P.find? (bu c)=some p)(hq:P.find? (bu o)=some q){y:Int}(hy:cX y (-2999) 3000=true):c8 (World.mk P L) c o y=some (mvC (mvL L c o y (bM p.Years.To q.Years.To)),bif mvC (mvL L c o y (bM p.Years.To q.Years.To))==0 then World.mk P (mvL L c o y (bM p.Years.To q.Years.To))else World.mk P L):=by
 unfold c8
 rw[hne,cond_false,q6 hr (by omega) hp hq,Option.bind_some]
 rw[eY (L:=L) (by omega) (fun s=>s) (mA c y) (fun x _=>o6 c y x) (fun i x s hx hs=>by
  rw[bk,hx,Option.bind_some,vk hy (by omega) (by omega)]
  unfold mA py bI
  rw[cZ]
  have ha: ∀z:ay,c4 s [z]=some (s++[z]):=fun z=>cL (by simp;omega)
  cases hc:x.Child.toList==c.toList
  ·simp only[cond_false,Bool.false_and,Option.bind_some,ha]
   cases decide (x.Years.From≤x.Years.To)<;>simp
  ·simp only[cond_true,Bool.true_and,Option.bind_some]
   cases cX y x.Years.From x.Years.To
   ·simp only[cond_false,Option.bind_some,ha]
    cases decide (x.Years.From≤x.Years.To)<;>simp
   ·simp only[cond_true,Option.bind_some,ha]
    cases decide (x.Years.From≤y - 1)<;>simp)]
 have hM:=uN L c o y (bM p.Years.To q.Years.To)
 have hR:=yJ h hc ho y (bM p.Years.To q.Years.To)
 rw[Option.bind_some,yK (by omega),Option.bind_some]
 generalize mvL L c o y (bM p.Years.To q.Years.To)=M at hM hR⊢
 unfold mvC
 rw[lQ (by omega) hR]
 cases decide ((M.length:Int)>20)
 ·cases dP M<;>rfl
 ·rfl
theorem vS{c:ByteArray}{y:Int}: ∀(L:List ay) (t:Int) (M:List ay),L.foldl (fun(s:Int×List ay) x=>(toL c y s.1 x,s.2++mA c y x)) (t,M)=(L.foldl (toL c y) t,M++L.flatMap (mA c y))
 | [],t,M=>by simp
 | x::l,t,M=>by
  rw[List.foldl_cons,List.foldl_cons,List.flatMap_cons,vS l,List.append_assoc]
theorem pM{P:List Place}{L:List ay}(hr:ja P=true)(hL:L.length≤1000000){c o:ByteArray}{p q:Place}(hp:P.find? (bu c)=some p)(hq:P.find? (bu o)=some q){y:Int}(hy:cX y (-2999) 3000=true):eW (World.mk P L) c o y=some (mvL L c o y (bM p.Years.To q.Years.To)):=by
 obtain⟨k,h1,_,_,_,h2⟩:=lT hr hp
 obtain⟨m,h3,_,_,_,h4⟩:=lT hr hq
 unfold eW
 simp only[h2,h4,Option.bind_some,bk,h1,h3]
 obtain⟨e1,e2⟩:=mD (L:=L) (by omega) (B:=(fun(i7:Int) (s7:Int×(List ay))=>((at' L i7).bind fun x11=>(((bif(x11.Child.toList==c.toList)then(bif(decide (x11.Years.From>y))then some ((bM s7.1 (bF (x11.Years.From - 1))),x11)else some (s7.1,(ay.mk x11.Child x11.Parent (Span.mk x11.Years.From (bM x11.Years.To (bF (y - 1)))))))else some (s7.1,x11))).bind fun(j12:Int×ay)=>(bif(decide (j12.2.Years.From≤j12.2.Years.To))then((c4 s7.2 ([j12.2]:List ay)).bind fun x14=>some (j12.1,x14))else some (j12.1,s7.2)))))) (D:=fun(s7:Int×(List ay))=>(s7.1,s7.2)) (fun i (s:Int×List ay)=>s.2.length≤i) (fun s x=>(toL c y s.1 x,s.2++mA c y x)) (s:=(bM p.Years.To q.Years.To,[])) (fun i x s hx hI=>by
  have hi:=(List.getElem?_eq_some_iff.1 hx).1
  refine⟨?_,by
   show(s.2++mA c y x).length≤i+1
   have:=o6 c y x
   rw[List.length_append]
   omega⟩
  rw[bk,hx,Option.bind_some,vk hy (by omega) (by omega)]
  have ha: ∀z:ay,c4 s.2 [z]=some (s.2++[z]):=fun z=>cL (by simp;omega)
  have hset:py c y x=bif(x.Child.toList==c.toList)then(bif decide (x.Years.From>y)then x else ay.mk x.Child x.Parent (Span.mk x.Years.From (bM x.Years.To (y - 1))))else x:=by
   unfold py
   cases x.Child.toList==c.toList
   ·rfl
   ·by_cases hF:x.Years.From>y
    ·rw[decide_eq_true hF]
     have:cX y x.Years.From x.Years.To=false:=by
      rw[Bool.eq_false_iff]
      intro h5
      have:=(bi.1 h5).1
      omega
     rw[this]
     rfl
    ·rw[decide_eq_false hF]
     by_cases hT:y≤x.Years.To
     ·rw[bi.2 ⟨by omega,hT⟩]
      unfold bM
      rw[if_pos (by omega)]
      rfl
     ·have:cX y x.Years.From x.Years.To=false:=by
       rw[Bool.eq_false_iff]
       intro h5
       have:=(bi.1 h5).2
       omega
      rw[this]
      unfold bM
      rw[if_neg (by omega)]
      rfl
  unfold mA toL
  rw[hset]
  cases x.Child.toList==c.toList
  ·simp only[cond_false,Bool.false_and,Option.bind_some,ha]
   cases decide (x.Years.From≤x.Years.To)<;>simp
  ·simp only[cond_true,Bool.true_and]
   cases decide (x.Years.From>y)
   ·simp only[cond_false,Option.bind_some,ha]
    cases decide (x.Years.From≤bM x.Years.To (y - 1))<;>simp
   ·simp only[cond_true,Option.bind_some,ha]
    cases decide (x.Years.From≤x.Years.To)<;>simp) (by simp)
 rw[e1,Option.bind_some,vS]
 show(c4 ([]++L.flatMap (mA c y)) [ay.mk c o (Span.mk y (L.foldl (toL c y) (bM p.Years.To q.Years.To)))]).bind _=_
 rw[List.nil_append,yK (by omega)]
 rfl
theorem ox(P:List Place){L M:List ay}(hM:M.length≤1048576)(hR: ∀x∈M,LkR x):er (World.mk P L) M=some (bif mvC M==0 then World.mk P M else World.mk P L,mvC M):=by
 unfold er mvC
 rw[iC hM hR]
 cases decide ((M.length:Int)>20)
 ·cases dP M<;>rfl
 ·rfl
end Go.Proofs.YtdejeagdkfokfaaGreatDoor.Sh
namespace Go.Proofs.YtdejeagdkfokfaaGreatDoor.Sh
open Go.RowKit Go.Lib
theorem A1{L:List Name}{k:Nat}{x z:Name}{y:Int}(hz:z∈gZ L k x y):z∈L∨(z.Text=x.Text∧z.Language=x.Language):=by
 unfold gZ at hz
 rw[List.mem_append,List.mem_append]at hz
 rcases hz with(hz | hz) | hz
 ·exact .inl (List.mem_of_mem_take hz)
 ·cases hb:x.Years.From==y
  ·rw[hb]at hz
   have:z=Name.mk x.Text x.Language x.Status (Span.mk x.Years.From (y - 1)):=by simpa using hz
   rw[this]
   exact .inr ⟨rfl,rfl⟩
  ·rw[hb]at hz
   simp at hz
 ·exact .inl (List.mem_of_mem_drop hz)
theorem EC{L:List Name}(h: ∀x∈L,NmR x){c t:ByteArray}(ht:t.size≤1048576)(y:Int):(m5 L c y t).1.length≤1048576∧ ∀x∈(m5 L c y t).1,NmR x:=by
 unfold m5
 cases dA t
 ·exact⟨by simp,by simp⟩
 rw[cond_true]
 cases kT L c y==0
 ·exact⟨by simp,by simp⟩
 rw[cond_true]
 cases hx:L[(cK (fG c y) L).toNat]? with
 | none=>exact⟨by simp,by simp⟩
 | some x=>
  show((bif decide (cK (fG c y) L<0)then(([],4):List Name×Int)else bif decide ((gZ L (cK (fG c y) L).toNat x y++[hG x y t]).length>12)then([],3)else(gZ L (cK (fG c y) L).toNat x y++[hG x y t],0)).1.length≤1048576)∧ ∀z∈(bif decide (cK (fG c y) L<0)then(([],4):List Name×Int)else bif decide ((gZ L (cK (fG c y) L).toNat x y++[hG x y t]).length>12)then([],3)else(gZ L (cK (fG c y) L).toNat x y++[hG x y t],0)).1,NmR z
  cases decide (cK (fG c y) L<0)
  ·cases hd:decide ((gZ L (cK (fG c y) L).toNat x y++[hG x y t]).length>12)
   ·have:=of_decide_eq_false hd
    refine⟨by show(gZ L (cK (fG c y) L).toNat x y++[hG x y t]).length≤1048576;omega,fun z hz=> ?_⟩
    have hz:z∈gZ L (cK (fG c y) L).toNat x y++[hG x y t]:=hz
    have hxm:=h x (List.mem_of_getElem? hx)
    rcases List.mem_append.1 hz with hz | hz
    ·rcases A1 hz with hz | ⟨e1,e2⟩
     ·exact h z hz
     ·exact⟨e1▸hxm.t,e2▸hxm.l⟩
    ·have:z=hG x y t:=by simpa using hz
     rw[this]
     exact⟨ht,hxm.l⟩
   ·exact⟨by simp,by simp⟩
  ·exact⟨by simp,by simp⟩
theorem Ds{L:List Name}{c t:ByteArray}{y:Int}(h1:dA t=true)(h2:dZ L=true)(h3:jo c=true)(h4:cX y (-3000) 3000=true):(m5 L c y t).2≠1:=by
 have:kT L c y=0:=by
  unfold kT
  rw[h2,h3,h4]
  rfl
 unfold m5
 rw[h1,this]
 simp only[cond_true,BEq.rfl]
 cases hx:L[(cK (fG c y) L).toNat]? with
 | none=>simp
 | some x=>
  dsimp only
  cases decide (cK (fG c y) L<0)
  ·cases decide ((gZ L (cK (fG c y) L).toNat x y++[hG x y t]).length>12)<;>exact fun h=>by cases h
  ·exact fun h=>by cases h
structure td (P:List Place) (L:List ay):Prop where
 r:ja P=true
 p: ∀x∈P,PlR x
 ll:L.length≤20
 l: ∀x∈L,LkR x
theorem Am{c:ByteArray}{y:Int}{l x:ay}(hx:x∈mz c y l):x.Child=l.Child∧x.Parent=l.Parent:=by
 unfold mz at hx
 cases hb:(l.Child.toList==c.toList) || (l.Parent.toList==c.toList)<;>rw[hb]at hx
 ·cases hd:decide (l.Years.From≤l.Years.To)<;>rw[hd]at hx
  ·simp at hx
  ·have:x=l:=by simpa using hx
   rw[this]
   exact⟨rfl,rfl⟩
 ·cases hd:decide (l.Years.From≤bM l.Years.To (y - 1))<;>rw[hd]at hx
  ·simp at hx
  ·have:x=ay.mk l.Child l.Parent (Span.mk l.Years.From (bM l.Years.To (y - 1))):=by simpa using hx
   rw[this]
   exact⟨rfl,rfl⟩
theorem DR{P:List Place}(h: ∀x∈P,PlR x){k:Nat}{p:Place}(hp:PlR p): ∀x∈P.set k p,PlR x:=fun x hx=>by
 rcases List.mem_or_eq_of_mem_set hx with hx | rfl
 ·exact h x hx
 ·exact hp
theorem vJ{P:List Place}{M:List ay}(h:td P M){c:ByteArray}(hw:cg c=true){p:Place}(hp:P.find? (bu c)=some p){y:Int}(hy:cX y (-2999) 3000=true)(hh:cX (y - 1) p.Years.From p.Years.To=true): ∃V,dN (World.mk P M) c y=some V∧((gu P c y).bind fun x18=>((iX M c y).bind fun x19=>some ((World.mk x18.1 x19),(0:Int))))=some (V,0)∧WlR V:=by
 obtain⟨k,h1,h2,h3,h4,h5⟩:=lT h.r hp
 have hl:=(gL.1 h.r).2.2
 have hll:=h.ll
 have hy':cX y (-3000) 3000=true:=by
  obtain⟨a,b⟩:=bi.1 hy
  exact bi.2 ⟨by omega,b⟩
 have hc:c.size≤1048576:=by
  have:=(gV hw).2
  omega
 refine⟨World.mk (P.set k (ln y p)) (M.flatMap (mz c y)),?_,?_,?_⟩
 ·unfold dN
  rw[h4]
  simp only[Option.bind_some,bk,h1,ov (h.p p h2) hy',tM (show M.length≤1048576 by omega) c hy',Int.toNat_natCast]
 ·rw[pH (by omega) h.p hc,zM (by omega) c hy']
  have e:=mC (show P.length≤1048576 by omega) c
  rw[h5]at e
  have e:cK (bu c) P=(k:Int):=(Option.some.inj e).symm
  have e2:P.any (bu c)=true:=List.any_eq_true.2 ⟨p,h2,h3⟩
  unfold D4 uT
  rw[h.r,hw,hy',e,e2]
  simp only[Bool.and_self,cond_true,BEq.rfl,Int.toNat_natCast,h1,hh,Option.bind_some]
 ·refine⟨by show(P.set k (ln y p)).length≤1048576;rw[List.length_set];omega,DR h.p (Aw (h.p p h2) y),?_,fun x hx=> ?_⟩
  ·have:=kX _ (o5 c y) M
   show(M.flatMap (mz c y)).length≤1048576
   omega
  ·obtain⟨l,hl,hx⟩:=List.mem_flatMap.1 hx
   have:=h.l l hl
   exact⟨(Am hx).1▸this.c,(Am hx).2▸this.p⟩
theorem xA{P:List Place}{M:List ay}(h:td P M){x:Change}(hx:ChR x)(hb:eH x=true)(hk:(x.Kind==0)=true){p:Place}(hp:P.find? (bu x.Code)=some p): ∃V Z e,dV (World.mk P M) x=some (e,V)∧gS (World.mk P M) x=some (Z,e)∧e≠1∧(e=0→Z=V∧WlR V):=by
 obtain⟨k,h1,h2,h3,h4,h5⟩:=lT h.r hp
 obtain⟨_,hp2,hl⟩:=gL.1 h.r
 have hll:=h.ll
 obtain⟨b1,_,_,_,_,b6⟩:=gF hb
 obtain⟨b7,b8⟩:=b6 hk
 have hpr:=h.p p h2
 have hxt:=hx.t
 obtain⟨r1,r2⟩:=qP hpr.l hpr.n hx.l (show x.Text.size≤4294967280 by omega) x.Year
 have r3:=EC hpr.n (c:=x.Language) hx.t x.Year
 have r4:(m5 p.Names x.Language x.Year x.Text).2≠1:=Ds b8 (by
  have:=hp2 p h2
  unfold ea at this
  simp only[Bool.and_eq_true]at this
  exact this.2.2.2.1) b7 (by
  obtain⟨a,b⟩:=bi.1 b1
  exact bi.2 ⟨by omega,b⟩)
 unfold dV gS
 rw[h4,h5]
 simp only[Option.bind_some,bk,h1,r1,r2,Int.toNat_natCast]
 generalize m5 p.Names x.Language x.Year x.Text=r at r3 r4
 rw[cL (by rw[List.length_nil];omega)]
 simp only[Option.bind_some,List.nil_append,bk,h1]
 cases he:r.2==0
 ·refine⟨_,_,_,rfl,by rw[bne,he];rfl,r4,fun h0=> ?_⟩
  rw[h0]at he
  cases he
 ·refine⟨_,_,_,rfl,by rw[bne,he,show r.2=0 from by simpa using he];rfl,r4,fun _=>⟨rfl,?_⟩⟩
  exact⟨by show(P.set k _).length≤1048576;rw[List.length_set];omega,DR h.p ⟨hpr.c,r3.1,r3.2⟩,by show M.length≤1048576;omega,h.l⟩
noncomputable def runK(P:List Place)(q:Place)(o:ByteArray)(y:Int):List ByteArray→List ay→List ay⊕(Int×List ay)
 | [],L=> .inl L
 | k::ks,L=>bif k.toList==o.toList then .inr (5,L)else match P.find? (bu k)with
  | none=> .inr (9,L)
  | some p=>bif mvC (mvL L k o y (bM p.Years.To q.Years.To))==0 then runK P q o y ks (mvL L k o y (bM p.Years.To q.Years.To))else .inr (mvC (mvL L k o y (bM p.Years.To q.Years.To)),L)
theorem wm{L:List ay}(h:(mvC L==0)=true):L.length≤20:=by
 unfold mvC at h
 cases hd:decide ((L.length:Int)>20)
 ·have:=of_decide_eq_false hd
  omega
 ·rw[hd]at h
  cases h
theorem A3(L:List ay):mvC L≠1:=by
 unfold mvC
 cases decide ((L.length:Int)>20)<;>cases dP L<;>decide
def EE(P:List Place):List ay⊕(Int×List ay)→(List Place×List ay)⊕(Int×World)
 | .inl M=> .inl (P,M)
 | .inr (e,M)=> .inr (e,World.mk P M)
theorem si{P:List Place}{q:Place}{o:ByteArray}{y:Int}(hq:P.find? (bu o)=some q)(ho:o.size≤1048576)(hy:cX y (-2999) 3000=true): ∀(ks:List ByteArray) (i:Nat) (L:List ay),td P L→(∀k∈ks,k.size≤1048576∧ ∃p,P.find? (bu k)=some p)→jL (fun _ x (s:List Place×List ay)=>((c8 (World.mk s.1 s.2) x o y).bind fun x9=>(bif(x9.1 !=0)then some (.inr (.inr (x9.1,x9.2)))else some (.inl (x9.2.Places,x9.2.Links))))) (fun s=>(.inl (s.1,s.2):(List Place×List ay)⊕(Int×World))) ks i (P,L)=some (EE P (runK P q o y ks L))∧ ∀M,runK P q o y ks L= .inl M→td P M
 | [],_,L,h,_=>⟨rfl,fun M e=>by
  unfold runK at e
  cases e
  exact h⟩
 | k::ks,i,L,h,hk=>by
  obtain⟨k1,p,k2⟩:=hk k (by simp)
  have hll:=h.ll
  unfold jL runK
  cases hne:k.toList==o.toList
  ·rw[mH h.r (by omega) h.l k1 ho hne k2 hq hy,k2]
   simp only[cond_false,Option.bind_some]
   have hR:=yJ h.l k1 ho y (bM p.Years.To q.Years.To)
   generalize mvL L k o y (bM p.Years.To q.Years.To)=M at hR⊢
   cases he:mvC M==0
   ·rw[bne,he]
    exact⟨rfl,fun M e=>by cases e⟩
   ·rw[bne,he]
    exact si hq ho hy ks (i+1) M ⟨h.r,h.p,wm he,hR⟩ fun k hk'=>hk k (by simp[hk'])
  ·have:c8 (World.mk P L) k o y=some (5,World.mk P L):=by
    unfold c8
    rw[hne]
    rfl
   rw[this]
   exact⟨rfl,fun M e=>by cases e⟩
def EF(W A:World):List ay⊕(Int×List ay)→(World×World)⊕(World×Int)
 | .inl M=> .inl (A,World.mk W.Places M)
 | .inr (e,_)=> .inr (W,e)
theorem wF{W A:World}{P:List Place}(hP:W.Places=P){q:Place}{o:ByteArray}{y:Int}(hq:P.find? (bu o)=some q)(ho:o.size≤1048576)(hy:cX y (-2999) 3000=true): ∀(ks:List ByteArray) (i:Nat) (L:List ay),td P L→(∀k∈ks,k.size≤1048576∧ ∃p,P.find? (bu k)=some p)→jL (fun _ x (s:World×World)=>(bif(x.toList==o.toList)then some (.inr (.inr (W,5)))else((eW s.2 x o y).bind fun x16=>((er s.2 x16).bind fun x17=>(bif(x17.2 !=0)then some (.inr (.inr (W,x17.2)))else some (.inl (s.1,x17.1))))))) (fun s=>(.inl (s.1,s.2):(World×World)⊕(World×Int))) ks i (A,World.mk P L)=some (EF W A (runK P q o y ks L))
 | [],_,L,h,_=>by
  unfold jL runK EF
  rw[hP]
 | k::ks,i,L,h,hk=>by
  obtain⟨k1,p,k2⟩:=hk k (by simp)
  have hll:=h.ll
  unfold jL runK
  cases hne:k.toList==o.toList
  ·rw[pM h.r (by omega) k2 hq hy,k2]
   simp only[cond_false,Option.bind_some]
   have hR:=yJ h.l k1 ho y (bM p.Years.To q.Years.To)
   have hM:=uN L k o y (bM p.Years.To q.Years.To)
   generalize mvL L k o y (bM p.Years.To q.Years.To)=M at hR hM⊢
   rw[ox P (by omega) hR,Option.bind_some]
   cases he:mvC M==0
   ·rw[bne,he]
    rfl
   ·rw[bne,he]
    exact wF hP hq ho hy ks (i+1) M ⟨h.r,h.p,wm he,hR⟩ fun k hk'=>hk k (by simp[hk'])
  ·rfl
theorem uW(P:List Place)(q:Place)(o:ByteArray)(y:Int): ∀(ks:List ByteArray) (L:List ay) (e:Int) (M:List ay),runK P q o y ks L= .inr (e,M)→e≠0∧e≠1
 | [],_,_,_,h=>by
  unfold runK at h
  cases h
 | k::ks,L,e,M,h=>by
  unfold runK at h
  cases hne:k.toList==o.toList
  ·rw[hne,cond_false]at h
   cases hp:P.find? (bu k)with
   | none=>
    rw[hp]at h
    cases h
    exact⟨by decide,by decide⟩
   | some p=>
    rw[hp]at h
    simp only at h
    cases he:mvC (mvL L k o y (bM p.Years.To q.Years.To))==0
    ·rw[he,cond_false]at h
     cases h
     exact⟨fun h0=>(by rw[h0]at he;cases he),A3 _⟩
    ·rw[he,cond_true]at h
     exact uW P q o y ks _ e M h
  ·rw[hne,cond_true]at h
   cases h
   exact⟨by decide,by decide⟩
end Go.Proofs.YtdejeagdkfokfaaGreatDoor.Sh
namespace Go.Proofs.YtdejeagdkfokfaaGreatDoor.Sh
open Go.RowKit Go.Lib
theorem ed{W:World}:dq W=true↔ja W.Places=true∧dP W.Links=true∧ ∀l∈W.Links,inW W.Places l=true:=by
 unfold dq
 rw[Bool.and_eq_true,Bool.and_eq_true,List.all_eq_true]
theorem nQ{P:List Place}{c:ByteArray}{s:Span}(h:ku P c s=true): ∃p,P.find? (bu c)=some p:=by
 unfold ku at h
 cases hp:P.find? (bu c)with
 | none=>
  rw[hp]at h
  cases h
 | some p=>exact⟨p,rfl⟩
theorem yG{W:World}(hW:WlR W)(hw:dq W=true)(c:ByteArray)(y:Int):(kD W.Links c y).1.length≤1048576∧ ∀k∈(kD W.Links c y).1,k.size≤1048576∧ ∃p,W.Places.find? (bu k)=some p:=by
 obtain⟨_,h1,h2⟩:=ed.1 hw
 have hl:=hW.ll
 unfold kD
 cases mV W.Links c y==0
 ·exact⟨by simp,by simp⟩
 ·rw[cond_true]
  unfold kids
  constructor
  ·have:=wA ((W.Links.filter (uI W.Links c y)).map ay.Child)
   have h3:=List.length_filter_le (uI W.Links c y) W.Links
   rw[List.length_map]at this
   show(iP _).length≤_
   omega
  ·intro k hk
   have hk:=nA.1 hk
   obtain⟨l,hl,rfl⟩:=List.mem_map.1 hk
   have hl:=(List.mem_filter.1 hl).1
   refine⟨(hW.l l hl).c,?_⟩
   have:=h2 l hl
   unfold inW at this
   rw[Bool.and_eq_true]at this
   exact nQ this.1
theorem rV{W:World}{x:Change}(h:(chC W x==0)=true):dq W=true∧eH x=true∧ ∃p,W.Places.find? (bu x.Code)=some p∧cX (x.Year - 1) p.Years.From p.Years.To=true∧((x.Kind==1)=false→cX x.Year p.Years.From p.Years.To=true)∧(lP x=true→ ∃q,W.Places.find? (bu x.Other)=some q∧cX x.Year q.Years.From q.Years.To=true):=by
 unfold chC at h
 cases hb:dq W&&eH x
 ·rw[hb]at h
  cases h
 rw[hb,cond_true]at h
 rw[Bool.and_eq_true]at hb
 refine⟨hb.1,hb.2,?_⟩
 cases hp:W.Places.find? (bu x.Code)with
 | none=>
  rw[hp]at h
  cases h
 | some p=>
  rw[hp]at h
  dsimp only at h
  refine⟨p,rfl,?_⟩
  cases ho:lP x
  ·rw[ho,cond_false]at h
   cases h1:cX (x.Year - 1) p.Years.From p.Years.To
   ·rw[h1]at h
    cases h
   ·rw[h1,Bool.true_and]at h
    refine⟨rfl,fun hk=> ?_,fun h=>by cases h⟩
    rw[hk,Bool.false_or]at h
    cases h2:cX x.Year p.Years.From p.Years.To
    ·rw[h2]at h
     cases h
    ·rfl
  ·rw[ho,cond_true]at h
   cases hq:W.Places.find? (bu x.Other)with
   | none=>
    rw[hq]at h
    cases h
   | some q=>
    rw[hq]at h
    dsimp only at h
    cases h1:cX (x.Year - 1) p.Years.From p.Years.To
    ·rw[h1]at h
     cases h
    cases h2:cX x.Year p.Years.From p.Years.To
    ·rw[h1,h2]at h
     cases h
    cases h3:cX x.Year q.Years.From q.Years.To
    ·rw[h1,h2,h3]at h
     cases h
    exact⟨rfl,fun _=>rfl,fun _=>⟨q,rfl,h3⟩⟩
theorem B3{W:World}{x:Change}(h:(dq W&&eH x)=true):chC W x≠1:=by
 unfold chC
 rw[h,cond_true]
 cases W.Places.find? (bu x.Code)with
 | none=>exact fun h=>by cases h
 | some p=>
  dsimp only
  cases lP x
  ·cases cX (x.Year - 1) p.Years.From p.Years.To&&((x.Kind==1) || cX x.Year p.Years.From p.Years.To)<;>exact fun h=>by cases h
  ·cases W.Places.find? (bu x.Other)with
   | none=>exact fun h=>by cases h
   | some q=>
    dsimp only
    cases cX (x.Year - 1) p.Years.From p.Years.To&&(cX x.Year p.Years.From p.Years.To&&cX x.Year q.Years.From q.Years.To)<;>exact fun h=>by cases h
theorem pW{W:World}(hW:WlR W):eK W=some W:=by
 have:=hW.ll
 unfold eK gB
 rw[vE hW.pl hW.p,if_pos (by omega)]
 rfl
theorem B6{W:World}{x:Change}(hW:WlR W)(hx:ChR x)(hz:(chC W x==0)=true): ∃V Z e,cR W x=some (e,V)∧cz W x=some (Z,e)∧e≠1∧(e=0→Z=V∧WlR V):=by
 obtain⟨hw,hc,p,hp,hy1,hy2,ho⟩:=rV hz
 obtain⟨hr,hl,hin⟩:=ed.1 hw
 obtain⟨b1,b2,b3,b4,_,_⟩:=gF hc
 have hR:td W.Places W.Links:=⟨hr,hW.p,(mK hl).2.1,hW.l⟩
 obtain⟨P,L⟩:=W
 have hR:td P L:=hR
 have hz0:(chC (World.mk P L) x !=0)=false:=by rw[bne,hz];rfl
 unfold cR cz
 rw[wC hW hx,Option.bind_some,hz0,cond_false]
 cases h0:x.Kind==0
 ·cases h2:x.Kind==2
  ·simp only[cond_false,Option.bind_some,Sum.elim_inl]
   cases h3:x.Kind==3
   ·obtain⟨V,e1,e2,e3⟩:=vJ hR b3 hp b1 hy1
    simp only[cond_false,Option.bind_some,Sum.elim_inl]
    rw[e1,e2]
    exact⟨_,_,_,rfl,rfl,(show(0:Int)≠1 by decide),fun _=>⟨rfl,e3⟩⟩
   ·have hO:lP x=true:=by
     unfold lP
     rw[h3,Bool.or_true]
    obtain⟨q,hq,_⟩:=ho hO
    have hos:x.Other.size≤1048576:=hx.o
    obtain⟨k1,k2⟩:=yG hW hw x.Code x.Year
    simp only[cond_true,Option.bind_some]
    unfold fr
    dsimp only
    rw[ou (show L.length≤1048576 from hW.ll) hW.l hx.c,tu (show L.length≤1048576 from hW.ll) hW.l hx.c]
    simp only[Option.bind_some]
    have k1:(kD L x.Code x.Year).1.length≤1048576:=k1
    have k2: ∀k∈(kD L x.Code x.Year).1,k.size≤1048576∧ ∃p,P.find? (bu k)=some p:=k2
    generalize (kD L x.Code x.Year).1=ks at k1 k2⊢
    obtain⟨r1,r2⟩:=si hq hos b1 ks 0 L hR k2
    have r3:=wF (W:=World.mk P L) (A:=World.mk [] []) rfl hq hos b1 ks 0 L hR k2
    rw[jO ks (by omega) _ _ _ _ (fun j z s hz=>by rw[bk,hz,Option.bind_some])]
    rw[r1]
    rw[jO ks (by omega) _ (fun _ x_1 (s:World×World)=>(bif(x_1.toList==x.Other.toList)then some (.inr (.inr (World.mk P L,5)))else((eW s.2 x_1 x.Other x.Year).bind fun x16=>((er s.2 x16).bind fun x17=>(bif(x17.2 !=0)then some (.inr (.inr (World.mk P L,x17.2)))else some (.inl (s.1,x17.1))))))) _ _ (fun j z s hz=>by rw[bk,hz,Option.bind_some];cases z.toList==x.Other.toList<;>rfl)]
    rw[r3]
    have hne:=uW P q x.Other x.Year ks L
    cases hk:runK P q x.Other x.Year ks L with
    | inl M=>
     obtain⟨V,e1,e2,e3⟩:=vJ (r2 M hk) b3 hp b1 hy1
     unfold EE EF
     simp only[Option.bind_some,Sum.elim_inl]
     rw[e1,e2]
     exact⟨_,_,_,rfl,rfl,(show(0:Int)≠1 by decide),fun _=>⟨rfl,e3⟩⟩
    | inr eM=>
     obtain⟨e,M⟩:=eM
     obtain⟨n0,n1⟩:=hne e M hk
     exact⟨_,_,_,rfl,rfl,n1,fun h=>absurd h n0⟩
  ·have hO:lP x=true:=by
    unfold lP
    rw[h2,Bool.true_or]
   obtain⟨q,hq,_⟩:=ho hO
   have hos:x.Other.size≤1048576:=hx.o
   have hll:=hR.ll
   have hne:(x.Code.toList==x.Other.toList)=false:=by
    rw[Bool.eq_false_iff]
    intro h
    have h5:=(b4 hO).2
    rw[kn.1 h]at h5
    rw[kn.2 rfl]at h5
    cases h5
   have hM:=uN L x.Code x.Other x.Year (bM p.Years.To q.Years.To)
   have hMR:=yJ hR.l hx.c hos x.Year (bM p.Years.To q.Years.To)
   simp only[cond_false,cond_true]
   rw[mH hr (show L.length≤1000000 by omega) hR.l hx.c hos hne hp hq b1,pM hr (show L.length≤1000000 by omega) hp hq b1]
   generalize mvL L x.Code x.Other x.Year (bM p.Years.To q.Years.To)=M at hM hMR
   simp only[Option.bind_some]
   rw[ox P (by omega) hMR]
   refine⟨_,_,_,rfl,rfl,A3 M,fun h=> ?_⟩
   have h5:(mvC M==0)=true:=by rw[h];rfl
   rw[h5,cond_true]
   exact⟨rfl,hW.pl,hW.p,by show M.length≤1048576;omega,hMR⟩
 ·obtain⟨V,Z,e,e1,e2,e3,e4⟩:=xA hR hx hc h0 hp
  simp only[cond_true]
  rw[e1,e2]
  exact⟨_,_,_,rfl,rfl,e3,e4⟩
theorem my{W:World}{x:Change}(hW:WlR W)(hx:ChR x): ∃V Z e,bs W x=some (bif e==0 then V else World.mk [] [],e)∧cz W x=some (Z,e)∧(e=1→chC W x=1)∧(e=0→Z=V∧WlR V∧(chC W x==0)=true)∧((chC W x==0)=false→e=chC W x):=by
 cases hz:chC W x==0
 ·refine⟨World.mk [] [],W,chC W x,?_,?_,fun h=>h,fun h=> ?_,fun _=>rfl⟩
  ·unfold bs
   rw[sg hW hx,Option.bind_some,bne,hz]
   rfl
  ·unfold cz
   rw[wC hW hx,Option.bind_some,bne,hz]
   rfl
  ·rw[h]at hz
   cases hz
 ·obtain⟨V,Z,e,e1,e2,e3,e4⟩:=B6 hW hx hz
  refine⟨V,Z,e,?_,e2,fun h=>absurd h e3,fun h=>⟨(e4 h).1,(e4 h).2,rfl⟩,fun h=>by cases h⟩
  unfold bs
  rw[sg hW hx,Option.bind_some,bne,hz,Bool.not_true,cond_false,pW hW,Option.bind_some,e1,Option.bind_some]
  show(bif e !=0 then some (World.mk [] [],e)else some (V,0))=_
  cases he:e==0
  ·rw[bne,he]
   rfl
  ·rw[bne,he,show e=0 by simpa using he]
   rfl
theorem Ah{W:World}{x:Change}(hW:WlR W)(hx:ChR x): ∃r,e8 W x=some r∧iz W x=some r:=by
 obtain⟨V,Z,e,e1,e2,e3,e4,e5⟩:=my hW hx
 unfold e8 iz
 rw[eP hW,lR hx,e1,e2]
 have hv:((some (dq W)).bind fun x1=>(bif(!x1)then some true else((some (eH x)).bind fun x2=>some (!x2))))=some (!(dq W&&eH x)):=by
  cases dq W<;>rfl
 rw[hv]
 cases hb:dq W&&eH x
 ·have h1:chC W x=1:=by
   unfold chC
   rw[hb]
   rfl
  have h2:=e5 (by rw[h1];rfl)
  rw[h1]at h2
  rw[h2]
  exact⟨_,rfl,rfl⟩
 ·have h1:(e==1)=false:=by
   rw[Bool.eq_false_iff]
   intro h
   exact B3 hb (e3 (by simpa using h))
  simp only[Option.bind_some,Bool.not_true,cond_false,h1]
  exact⟨_,rfl,rfl⟩
end Go.Proofs.YtdejeagdkfokfaaGreatDoor.Sh
namespace Go.Proofs.YtdejeagdkfokfaaGreatDoor.Sh
open Go.RowKit Go.Lib
theorem PlR.of{p:Place}(h:uZ p):PlR p:=⟨h.s0,h.s4,fun x hx=>⟨(h.i4 x hx).s0,(h.i4 x hx).s1⟩⟩
theorem PlR.sm{p:Place}(h:PlR p):uZ p:=⟨h.c,h.l,fun x hx=>⟨(h.n x hx).t,(h.n x hx).l⟩⟩
theorem WlR.of{W:World}(h:rJ W):WlR W:=⟨h.s0,fun x hx=>PlR.of (h.i0 x hx),h.s1,fun x hx=>⟨(h.i1 x hx).s0,(h.i1 x hx).s1⟩⟩
theorem WlR.sm{W:World}(h:WlR W):rJ W:=⟨h.pl,h.ll,fun x hx=>(h.p x hx).sm,fun x hx=>⟨(h.l x hx).c,(h.l x hx).p⟩⟩
theorem ChR.of{x:Change}(h:Bo x):ChR x:=⟨h.s2,h.s3,h.s4,h.s5⟩
end Go.Proofs.YtdejeagdkfokfaaGreatDoor.Sh
namespace Go.Proofs.YtdejeagdkfokfaaGreatDoor.Sh
open Go.RowKit Go.Lib
theorem uQ{W:World}(h:WlR W):dS W=some W:=by
 have:=h.ll
 unfold dS
 rw[xx h.pl h.p,Option.bind_some,cL (by rw[List.length_nil];omega)]
 rfl
theorem A4:WlR (World.mk [] []):=⟨by show([]:List Place).length≤_;simp,fun x hx=>absurd hx (by simp),by show([]:List ay).length≤_;simp,fun x hx=>absurd hx (by simp)⟩
theorem Ae{W:World}{x:Change}(hW:WlR W)(hx:ChR x): ∃r,bs W x=some r∧fC W x=some r∧rJ r.1:=by
 obtain⟨V,Z,e,e1,e2,e3,e4,e5⟩:=my hW hx
 unfold fC
 rw[e1,e2,Option.bind_some]
 cases he:e==0
 ·exact⟨_,rfl,by rw[bne,he];rfl,A4.sm⟩
 ·obtain⟨h1,h2,h3⟩:=e4 (by simpa using he)
  refine⟨_,rfl,?_,h2.sm⟩
  rw[bne,he,Bool.not_true,cond_false,h1,uQ h2,show e=0 by simpa using he]
  rfl
end Go.Proofs.YtdejeagdkfokfaaGreatDoor.Sh
namespace Go.Proofs.YtdejeagdkfokfaaGreatDoor.Sh
open Go.RowKit Go.Lib
theorem Fl{A J:World}: ∀(L:List Change) (i:Nat) (W:World),WlR W→(∀x∈L,ChR x)→
  (∃V,WlR V∧jL (fun(i:Nat) x (s7:World×(List ay)×(List Place))=>((bs (World.mk s7.2.2 s7.2.1) x).bind fun x12=>(bif(x12.2 !=0)then some (.inr (.inr ((World.mk s7.2.2 s7.2.1),(i:Int),x12.2)))else some (.inl (s7.1,x12.1.Links,x12.1.Places))))) (fun(s7:World×(List ay)×(List Place))=>(.inl (s7.1,s7.2.1,s7.2.2):(World×(List ay)×(List Place))⊕(World×Int×Int))) L i (J,W.Links,W.Places)=some (.inl (J,V.Links,V.Places))∧
   jL (fun(i:Nat) x (s4:World×World)=>((cz s4.1 x).bind fun x9=>(bif(x9.2 !=0)then((dS s4.1).bind fun x10=>some (.inr (.inr (x10,(i:Int),x9.2))))else some (.inl (x9.1,s4.2))))) (fun(s4:World×World)=>(.inl (s4.1,s4.2):(World×World)⊕(World×Int×Int))) L i (W,A)=some (.inl (V,A)))∨
  (∃V k e,WlR V∧jL (fun(i:Nat) x (s7:World×(List ay)×(List Place))=>((bs (World.mk s7.2.2 s7.2.1) x).bind fun x12=>(bif(x12.2 !=0)then some (.inr (.inr ((World.mk s7.2.2 s7.2.1),(i:Int),x12.2)))else some (.inl (s7.1,x12.1.Links,x12.1.Places))))) (fun(s7:World×(List ay)×(List Place))=>(.inl (s7.1,s7.2.1,s7.2.2):(World×(List ay)×(List Place))⊕(World×Int×Int))) L i (J,W.Links,W.Places)=some (.inr (V,k,e))∧
   jL (fun(i:Nat) x (s4:World×World)=>((cz s4.1 x).bind fun x9=>(bif(x9.2 !=0)then((dS s4.1).bind fun x10=>some (.inr (.inr (x10,(i:Int),x9.2))))else some (.inl (x9.1,s4.2))))) (fun(s4:World×World)=>(.inl (s4.1,s4.2):(World×World)⊕(World×Int×Int))) L i (W,A)=some (.inr (V,k,e)))
 | [],_,W,hW,_=> .inl ⟨W,hW,rfl,rfl⟩
 | x::l,i,W,hW,h=>by
  obtain⟨V,Z,e,e1,e2,_,e4,_⟩:=my hW (h x (by simp))
  unfold jL
  cases he:e==0
  ·right
   refine⟨W,i,e,hW,?_,?_⟩
   ·show((bs W x).bind _).bind _=_
    rw[e1,Option.bind_some,bne,he]
    rfl
   ·show((cz W x).bind _).bind _=_
    rw[e2,Option.bind_some,bne,he,Bool.not_false,cond_true,uQ hW]
    rfl
  ·obtain⟨h1,h2,_⟩:=e4 (by simpa using he)
   have e1':((bs (World.mk W.Places W.Links) x).bind fun x12=>(bif(x12.2 !=0)then some (.inr (.inr ((World.mk W.Places W.Links),(i:Int),x12.2)))else some (.inl (J,x12.1.Links,x12.1.Places)):Option ((World×(List ay)×(List Place))⊕((World×(List ay)×(List Place))⊕(World×Int×Int)))))=some (.inl (J,V.Links,V.Places)):=by
    show((bs W x).bind _)=_
    rw[e1,Option.bind_some,bne,he]
    rfl
   have e2':((cz W x).bind fun x9=>(bif(x9.2 !=0)then((dS W).bind fun x10=>some (.inr (.inr (x10,(i:Int),x9.2))))else some (.inl (x9.1,A)):Option ((World×World)⊕((World×World)⊕(World×Int×Int)))))=some (.inl (V,A)):=by
    rw[e2,Option.bind_some,bne,he,h1]
    rfl
   dsimp only
   rw[e1',e2']
   exact Fl l (i+1) V h2 fun y hy=>h y (by simp[hy])
theorem wX{W:World}{L:List Change}(hW:WlR W)(hL:L.length≤1048576)(h: ∀x∈L,ChR x): ∃r,ee W L=some r∧eT W L=some r∧rJ r.1:=by
 unfold ee eT fR
 rw[eP hW,mR hW]
 cases dq W
 ·exact⟨_,rfl,rfl,A4.sm⟩
 simp only[Option.bind_some,Bool.not_true,cond_false]
 cases decide ((L.length:Int)>12)
 ·simp only[cond_false,Option.bind_some,Sum.elim_inl,pW hW]
  rw[yD L (by omega) (fun(i:Int) (x:Change) (s7:World×(List ay)×(List Place))=>(((bs (World.mk s7.2.2 s7.2.1) x).bind fun x12=>(bif(x12.2 !=0)then some (.inr (.inr ((World.mk s7.2.2 s7.2.1),i,x12.2)))else some (.inl (s7.1,x12.1.Links,x12.1.Places)))):Option ((World×(List ay)×(List Place))⊕((World×(List ay)×(List Place))⊕(World×Int×Int)))))]
  rw[yD L (by omega) (fun(i:Int) (x:Change) (s4:World×World)=>(((cz s4.1 x).bind fun x9=>(bif(x9.2 !=0)then((dS s4.1).bind fun x10=>some (.inr (.inr (x10,i,x9.2))))else some (.inl (x9.1,s4.2)))):Option ((World×World)⊕((World×World)⊕(World×Int×Int)))))]
  rcases Fl (A:=World.mk [] []) (J:=World.mk [] []) L 0 W hW h with⟨V,h1,h2,h3⟩ | ⟨V,k,e,h1,h2,h3⟩
  ·rw[h2,h3]
   simp only[Option.bind_some,Sum.elim_inl]
   rw[uQ h1]
   exact⟨_,rfl,rfl,h1.sm⟩
  ·rw[h2,h3]
   exact⟨_,rfl,rfl,h1.sm⟩
 ·exact⟨_,rfl,rfl,A4.sm⟩
end Go.Proofs.YtdejeagdkfokfaaGreatDoor.Sh
namespace Go.Proofs.YtdejeagdkfokfaaGreatDoor.Sh
open Go.RowKit
def bf(s:ag):Prop:=0≤s.at'∧s.at'≤s.code.length∧s.code.length≤4096∧(∀x∈s.code,0≤x∧x<256)∧0≤s.seed∧s.seed<2147483647
theorem iO{s:ag}(hs:bf s)(n:Int)(hn:n<9223372036854775808): ∃x s',aG s n=some (x,s')∧0≤x∧(x<n∨x=0)∧bf s':=by
 obtain⟨h1,h2,h3,h4,h5,h6⟩:=hs
 unfold aG
 by_cases hn1:n≤1
 ·rw[decide_eq_true hn1]
  exact⟨0,s,rfl,by omega,.inr rfl,h1,h2,h3,h4,h5,h6⟩
 ·rw[decide_eq_false hn1,cond_false]
  have hz:nz' n=some ():=Fg (by omega)
  have e1:bF (s.seed*48271)=s.seed*48271:=bx (by omega) (by omega)
  have e2:bF (s.seed*48271+29)=s.seed*48271+29:=bx (by omega) (by omega)
  rw[e1,e2]
  have hsd:0≤Int.tmod (s.seed*48271+29) 2147483647∧Int.tmod (s.seed*48271+29) 2147483647<2147483647:=by
   rw[Int.tmod_eq_emod_of_nonneg (by omega)];omega
  generalize Int.tmod (s.seed*48271+29) 2147483647=sd at*
  have e3:bF (Int.tdiv sd 31)=sd/31:=by
   rw[Int.tdiv_eq_ediv_of_nonneg hsd.1]
   exact bx (by omega) (by omega)
  rw[e3]
  have fin: ∀(y:Int) (s':ag),0≤y→bf s'→ ∃x s'',((nz' n).bind fun _=>some (Int.tmod y n,s'))=some (x,s'')∧0≤x∧(x<n∨x=0)∧bf s'':=by
   intro y s' hy hs'
   rw[hz]
   exact⟨_,_,rfl,Int.tmod_nonneg _ hy,.inl (Int.tmod_lt_of_pos _ (by omega)),hs'⟩
  by_cases hat:s.at'<(s.code.length:Int)
  ·rw[decide_eq_true hat,cond_true]
   obtain⟨x3,hx3,hg3⟩:=xO h1 hat
   have hb3:=h4 x3 (List.mem_of_getElem? hg3)
   have e4:bF (s.at'+1)=s.at'+1:=bx (by omega) (by omega)
   have e5:bF (s.at'+1 - 1)=s.at':=by rw[bx (by omega) (by omega)];omega
   have e6:bF x3=x3:=bx (by omega) (by omega)
   rw[hx3,Option.bind_some,e4,e5,hx3,e6]
   have hsrc:bf (ag.mk s.code (s.at'+1) sd):=⟨by simp;omega,by simp;omega,h3,h4,hsd.1,hsd.2⟩
   have e7:bF (sd/31+x3)=sd/31+x3:=bx (by omega) (by omega)
   rw[e7]
   cases (decide (n≤256)&&Int.tmod (s.at'+1) 2==0)
   ·exact fin _ _ (by omega) hsrc
   ·rw[cond_true,Option.bind_some,e6]
    exact fin _ _ (by omega) hsrc
  ·rw[decide_eq_false hat,cond_false]
   exact fin _ _ (by omega) ⟨h1,h2,h3,h4,hsd.1,hsd.2⟩
def rL(c:List Int):Prop:=c.length≤4096∧ ∀x∈c,0≤x∧x<256
theorem C8{c:List Int}(hc:rL c): ∃s,fU c=some s∧bf s:=by
 unfold fU vT
 generalize hb:loop _ _=m
 have key: ∃r,m=some r∧bf r:=by
  rw[←hb]
  refine nt (fun s:Int×ag=>0≤s.1∧s.1≤64∧bf s.2) (fun s=>(64 - s.1).toNat) bf (fun s hs=> ?_) ⟨by simp,by simp,by simp,by simp,hc.1,hc.2,by simp,by simp⟩
  obtain⟨h0,h64,h1,h2,h3,h4,h5,h6⟩:=hs
  by_cases hb:s.1<(c.length:Int)∧s.1<64
  ·left
   obtain⟨x,hx,hg⟩:=xO h0 hb.1
   have hxb:=hc.2 x (List.mem_of_getElem? hg)
   have e1:bF (s.2.seed*73)=s.2.seed*73:=bx (by omega) (by omega)
   have e2:bF x=x:=bx (by omega) (by omega)
   have e3:bF (s.2.seed*73+x)=s.2.seed*73+x:=bx (by omega) (by omega)
   have e4:bF (s.1+1)=s.1+1:=bx (by omega) (by omega)
   refine⟨(s.1+1,ag.mk s.2.code s.2.at' (Int.tmod (s.2.seed*73+x) 2147483647)),?_,⟨?_,?_,h1,h2,h3,h4,?_,?_⟩,?_⟩
   ·simp only[hb.1,hb.2,decide_true,Bool.and_self,cond_true,hx,Option.bind_some,e1,e2,e3,e4]
   ·dsimp only;omega
   ·dsimp only;omega
   ·dsimp only
    rw[Int.tmod_eq_emod_of_nonneg (by omega)];omega
   ·dsimp only
    rw[Int.tmod_eq_emod_of_nonneg (by omega)];omega
   ·dsimp only;omega
  ·right
   refine⟨s.2,?_,h1,h2,h3,h4,h5,h6⟩
   have:(decide (s.1<(c.length:Int))&&decide (s.1<64))=false:=by
    rw[Bool.and_eq_false_iff]
    by_cases h7:s.1<(c.length:Int)
    ·exact .inr (by simp;omega)
    ·exact .inl (by simpa using h7)
   simp only[this,cond_false]
 clear hb
 obtain⟨r,rfl,h⟩:=key
 exact⟨r,rfl,h⟩
theorem Dr{s:ag}(hs:bf s){l:List Int}(hl:l≠[])(hl2:l.length≤4096): ∃x s',cT s l=some (x,s')∧x∈l∧bf s':=by
 unfold cT
 have h0:0<l.length:=List.length_pos_iff.2 hl
 obtain⟨x,s',h1,h2,h3,h4⟩:=iO hs (l.length:Int) (by omega)
 rw[h1,Option.bind_some]
 obtain⟨y,hy,hg⟩:=xO (L:=l) h2 (by omega)
 rw[hy]
 exact⟨y,s',rfl,List.mem_of_getElem? hg,h4⟩
theorem sC{α:Type}(L:List α){i:Int}(h0:0≤i)(h:i<L.length∨i=0)(hL:0<L.length): ∃y,at' L i=some y∧y∈L:=by
 obtain⟨y,hy,hg⟩:=xO (L:=L) h0 (by omega)
 exact⟨y,hy,List.mem_of_getElem? hg⟩
end Go.Proofs.YtdejeagdkfokfaaGreatDoor.Sh
namespace Go.Proofs.YtdejeagdkfokfaaGreatDoor.Sh
open Go.RowKit
theorem yE{s:ag}(hs:bf s): ∃t s',eV s=some (t,s')∧t.size≤100∧bf s':=by
 unfold eV
 obtain⟨x1,s1,h1,h2,h3,h4⟩:=iO hs 3 (by omega)
 rw[h1,Option.bind_some]
 generalize hb:loop _ _=m
 have key: ∃r:ByteArray×ag,m=some r∧r.1.size≤100∧bf r.2:=by
  rw[←hb]
  refine nt (fun s:ByteArray×Int×ag=>0≤s.2.1∧s.2.1≤4∧(s.1.size:Int)+10*s.2.1≤50∧bf s.2.2) (fun s=>s.2.1.toNat) (fun r:ByteArray×ag=>r.1.size≤100∧bf r.2) (fun s hs=> ?_) ?_
  ·obtain⟨k1,k2,k3,k4⟩:=hs
   by_cases hp:s.2.1>0
   ·left
    obtain⟨i,s2,h5,h6,h7,h8⟩:=iO k4 16 (by omega)
    rw[decide_eq_true hp,cond_true]
    have hl: ∀L:List ByteArray,(L.length:Int)=16→(∀y∈L,y.size≤5)→ ∃s':ByteArray×Int×ag,(((aG s.2.2 (L.length:Int)).bind fun x8=>((at' L x8.1).bind fun x9=>((iS s.1 x9).bind fun x10=>some (x10,x8.2)))).bind fun(j6:ByteArray×ag)=>(some (.inl (j6.1,(bF (s.2.1 - 1)),j6.2)):Option ((ByteArray×Int×ag)⊕(ByteArray×ag))))=some (.inl s')∧(0≤s'.2.1∧s'.2.1≤4∧(s'.1.size:Int)+10*s'.2.1≤50∧bf s'.2.2)∧s'.2.1.toNat<s.2.1.toNat:=by
     intro L hL hLs
     obtain⟨y,hy,hm⟩:=sC L h6 (by omega) (by omega)
     have hys:=hLs y hm
     rw[hL,h5,Option.bind_some,hy,Option.bind_some]
     unfold iS
     rw[if_pos (by omega),bx (by omega) (by omega)]
     refine⟨_,rfl,⟨by dsimp only;omega,by dsimp only;omega,?_,h8⟩,by dsimp only;omega⟩
     dsimp only
     rw[ByteArray.size_append]
     omega
    exact hl _ rfl (by decide)
   ·right
    rw[decide_eq_false hp,cond_false]
    exact⟨_,rfl,by dsimp only;omega,k4⟩
  ·dsimp only
   rw[bx (by omega) (by omega)]
   refine⟨by omega,by omega,?_,h4⟩
   show((0:Nat):Int)+_≤_
   omega
 clear hb
 obtain⟨r,rfl,h5,h6⟩:=key
 exact⟨_,_,rfl,h5,h6⟩
theorem vI{s:ag}(hs:bf s): ∃t s',dH s=some (t,s')∧t.size≤100∧bf s':=by
 unfold dH
 obtain⟨x1,s1,h1,h2,h3,h4⟩:=iO hs 30 (by omega)
 rw[h1,Option.bind_some]
 cases x1==0
 ·obtain⟨t,s2,h5,h6,h7⟩:=yE h4
  simp only[cond_false,h5,Option.bind_some]
  exact⟨_,_,rfl,h6,h7⟩
 ·obtain⟨x2,s2,h5,h6,h7,h8⟩:=iO h4 6 (by omega)
  simp only[cond_true,h5,Option.bind_some]
  have hl: ∀L:List ByteArray,L.length=6→(∀y∈L,y.size≤20)→ ∃t s',((at' L x2).bind fun x3=>some (x3,s2))=some (t,s')∧t.size≤100∧bf s':=by
   intro L hL hLs
   obtain⟨y,hy,hm⟩:=sC L h6 (by omega) (by omega)
   have hys:=hLs y hm
   rw[hy]
   exact⟨_,_,rfl,by omega,h8⟩
  exact hl _ rfl (by decide)
end Go.Proofs.YtdejeagdkfokfaaGreatDoor.Sh
namespace Go.Proofs.YtdejeagdkfokfaaGreatDoor.Sh
open Go.RowKit
theorem BU{L:List ByteArray}(hL:L.length≤100)(hs: ∀x∈L,x.size≤100): ∃t,fg L=some t∧t.size≤101*L.length:=by
 unfold fg
 have key: ∀(M P:List ByteArray) (t:ByteArray),L=P++M→t.size≤101*P.length→ ∃r,jm (fun(i:Nat) (s3:ByteArray)=>((((bif(decide ((i:Int)>0))then((iS s3 (ByteArray.mk #[32])).bind fun x9=>some x9)else some s3)).bind fun(j7:ByteArray)=>((at' L (i:Int)).bind fun x10=>((iS j7 x10).bind fun x11=>some x11)))).map (Sum.inl (β:=ByteArray))) (fun s=>s) M.length P.length t=some r∧r.size≤101*L.length:=by
  intro M
  induction M with
  | nil=>exact fun P t h ht=>⟨t,rfl,by rw[h];simpa using ht⟩
  | cons x M ih=>
   intro P t h ht
   have hx:=hs x (by rw[h];simp)
   have hpl:P.length≤L.length:=by rw[h];simp
   have hat:at' L ((P.length:Nat):Int)=some x:=by rw[bk,h];simp
   have c1:iS t (ByteArray.mk #[32])=some (t++ByteArray.mk #[32]):=by
    unfold iS
    rw[if_pos (by show t.size+1≤_;omega)]
   have hstep: ∃t',(((bif(decide (((P.length:Nat):Int)>0))then((iS t (ByteArray.mk #[32])).bind fun x9=>some x9)else some t)).bind fun(j7:ByteArray)=>((at' L ((P.length:Nat):Int)).bind fun x10=>((iS j7 x10).bind fun x11=>some x11)))=some t'∧t'.size≤101*(P++[x]).length:=by
    rw[hat]
    cases hd:decide (((P.length:Nat):Int)>0)
    ·simp only[cond_false,Option.bind_some]
     unfold iS
     rw[if_pos (by omega)]
     refine⟨_,rfl,?_⟩
     rw[ByteArray.size_append,List.length_append,List.length_singleton]
     omega
    ·simp only[cond_true,c1,Option.bind_some]
     unfold iS
     have hz:(t++ByteArray.mk #[32]).size=t.size+1:=by rw[ByteArray.size_append];rfl
     rw[if_pos (by omega)]
     refine⟨_,rfl,?_⟩
     rw[ByteArray.size_append,hz,List.length_append,List.length_singleton]
     omega
   obtain⟨t',e,ht'⟩:=hstep
   rw[show(x::M).length=M.length+1 from rfl]
   unfold jm
   rw[e,Option.map_some,Option.bind_some,Sum.elim_inl]
   have:=ih (P++[x]) t' (by rw[h];simp) ht'
   rw[List.length_append,List.length_singleton]at this
   exact this
 rw[nO,lZ _ (by omega)]
 obtain⟨r,e,hr⟩:=key L [] (ByteArray.mk #[]) rfl (Nat.zero_le _)
 rw[List.length_nil]at e
 rw[e]
 exact⟨r,rfl,hr⟩
theorem oq{s:ag}(hs:bf s): ∃t s',bW s=some (t,s')∧t.size≤1000∧bf s':=by
 unfold bW
 obtain⟨x1,s1,h1,h2,h3,h4⟩:=iO hs 3 (by omega)
 rw[h1,Option.bind_some]
 generalize hb:loop _ _=m
 have key: ∃r:List ByteArray×ag,m=some r∧r.1.length≤5∧(∀x∈r.1,x.size≤100)∧bf r.2:=by
  rw[←hb]
  refine nt (fun s:Int×List ByteArray×ag=>0≤s.1∧(s.2.1.length:Int)+s.1≤5∧(∀x∈s.2.1,x.size≤100)∧bf s.2.2) (fun s=>s.1.toNat) (fun r:List ByteArray×ag=>r.1.length≤5∧(∀x∈r.1,x.size≤100)∧bf r.2) (fun s hs=> ?_) ?_
  ·obtain⟨k1,k2,k3,k4⟩:=hs
   by_cases hp:s.1>0
   ·left
    obtain⟨t,s2,h5,h6,h7⟩:=yE k4
    rw[decide_eq_true hp,cond_true,h5,Option.bind_some,cL (by simp;omega),bx (n:=s.1 - 1) (by omega) (by omega)]
    refine⟨_,rfl,⟨by dsimp only;omega,by simp;omega,fun x hx=> ?_,h7⟩,by dsimp only;omega⟩
    rcases List.mem_append.1 hx with hx | hx
    ·exact k3 x hx
    ·rw[List.mem_singleton.1 hx];exact h6
   ·right
    rw[decide_eq_false hp,cond_false]
    exact⟨_,rfl,by dsimp only;omega,k3,k4⟩
  ·rw[bx (by omega) (by omega)]
   exact⟨by dsimp only;omega,by simp;omega,by simp,h4⟩
 clear hb
 obtain⟨r,rfl,h5,h6,h7⟩:=key
 obtain⟨t,h8,h9⟩:=BU (L:=r.1) (by omega) h6
 simp only[Option.bind_some,h8]
 exact⟨t,_,rfl,by omega,h7⟩
theorem y6{s:ag}(hs:bf s){t:ByteArray}(ht:t.size≤1000000): ∃u s',gN s t=some (u,s')∧u.size≤t.size+10∧bf s':=by
 unfold gN
 rw[bx (n:=(t.size:Int)+1) (by omega) (by omega)]
 obtain⟨x1,s1,h1,a1,b1,c1⟩:=iO hs ((t.size:Int)+1) (by omega)
 obtain⟨x2,s2,h2,a2,b2,c2⟩:=iO c1 8 (by omega)
 obtain⟨k,rfl⟩:=Int.eq_ofNat_of_zero_le a1
 have hk:k≤t.size:=by omega
 have e1: ∀(a b:Nat),a≤b→b≤t.size→ ∃u,lW t (a:Int) (b:Int)=some u∧u.size=b - a:=fun a b h1 h2=>by
  unfold lW
  rw[if_pos ⟨by omega,by omega,by omega⟩]
  refine⟨_,rfl,?_⟩
  rw[ByteArray.size_extract]
  simp only[Int.toNat_natCast]
  omega
 have ec: ∀(u v:ByteArray),u.size≤10000000→v.size≤10000000→ ∃w,iS u v=some w∧w.size=u.size+v.size:=fun u v h1 h2=>by
  unfold iS
  rw[if_pos (by omega)]
  exact⟨_,rfl,ByteArray.size_append⟩
 obtain⟨u1,f1,g1⟩:=e1 0 k (by omega) hk
 obtain⟨u2,f2,g2⟩:=e1 k t.size hk (Nat.le_refl _)
 rw[show((0:Nat):Int)=0 from rfl]at f1
 simp only[h1,h2,Option.bind_some,f1,f2]
 cases x2==0
 ·cases x2==1
  ·cases x2==2
   ·exact⟨_,_,rfl,by omega,c2⟩
   ·by_cases hlt:(k:Int)<(t.size:Int)
    ·have e3:bF ((k:Int)+1)=((k+1:Nat):Int):=by rw[bx (by omega) (by omega)];omega
     obtain⟨u3,f3,g3⟩:=e1 (k+1) t.size (by omega) (Nat.le_refl _)
     obtain⟨u4,f4,g4⟩:=ec u1 u3 (by omega) (by omega)
     simp only[cond_false,cond_true,decide_eq_true hlt,e3,f3,f4,Option.bind_some]
     exact⟨_,_,rfl,by omega,c2⟩
    ·simp only[cond_false,cond_true,decide_eq_false hlt]
     exact⟨_,_,rfl,by omega,c2⟩
  ·obtain⟨x3,s3,h3,a3,b3,c3⟩:=iO c2 8 (by omega)
   have hl: ∀(L:List ByteArray),L.length=8→(∀y∈L,y.size≤1)→ ∃u s',((at' L x3).bind fun x8=>((iS u1 x8).bind fun x9=>((iS x9 u2).bind fun x11=>some (Sum.inr (x11,s3):ag⊕(ByteArray×ag))))).bind (Sum.elim (fun(j3:ag)=>some (t,j3)) some)=some (u,s')∧u.size≤t.size+10∧bf s':=fun L hL hy=>by
    obtain⟨y,e,hm⟩:=sC L a3 (by omega) (by omega)
    have hys:=hy y hm
    obtain⟨u5,f5,g5⟩:=ec u1 y (by omega) (by omega)
    obtain⟨u6,f6,g6⟩:=ec u5 u2 (by omega) (by omega)
    simp only[e,f5,f6,Option.bind_some]
    exact⟨_,_,rfl,by omega,c3⟩
   simp only[cond_false,cond_true,h3,Option.bind_some]
   exact hl _ rfl (by decide)
 ·simp only[cond_true,Option.bind_some]
  exact⟨_,_,rfl,by omega,c2⟩
theorem th{s:ag}(hs:bf s): ∃t s',db s=some (t,s')∧t.size≤2000∧bf s':=by
 unfold db
 obtain⟨t,s1,h1,h2,h3⟩:=oq hs
 obtain⟨x2,s2,h4,a2,b2,c2⟩:=iO h3 20 (by omega)
 simp only[h1,h4,Option.bind_some]
 cases x2==0
 ·cases x2==1
  ·exact⟨_,_,rfl,by omega,c2⟩
  ·obtain⟨x3,s3,h5,a3,b3,c3⟩:=iO c2 5 (by omega)
   have hl: ∀(L:List ByteArray),L.length=5→(∀y∈L,y.size≤20)→ ∃u s',((at' L x3).bind fun x7=>some (Sum.inr (x7,s3):ag⊕(ByteArray×ag))).bind (Sum.elim (fun(j3:ag)=>some (t,j3)) some)=some (u,s')∧u.size≤2000∧bf s':=fun L hL hy=>by
    obtain⟨y,e,hm⟩:=sC L a3 (by omega) (by omega)
    have hys:=hy y hm
    simp only[e,Option.bind_some]
    exact⟨_,_,rfl,by omega,c3⟩
   simp only[cond_false,cond_true,h5,Option.bind_some]
   exact hl _ rfl (by decide)
 ·obtain⟨u,s3,h5,h6,h7⟩:=y6 c2 (t:=t) (by omega)
  simp only[cond_true,h5,Option.bind_some]
  exact⟨_,_,rfl,by omega,h7⟩
end Go.Proofs.YtdejeagdkfokfaaGreatDoor.Sh
namespace Go.Proofs.YtdejeagdkfokfaaGreatDoor.Sh
open Go.RowKit
def Gv{α:Type}(o:Option α)(P:α→Prop):Prop:= ∃y,o=some y∧P y
theorem Gv.bind{α β:Type}{o:Option α}{P:α→Prop}{f:α→Option β}{Q:β→Prop}(h:Gv o P)(k: ∀y,P y→Gv (f y) Q):Gv (o.bind f) Q:=by
 obtain⟨y,rfl,hy⟩:=h
 exact k y hy
theorem Gv.some{α:Type}{y:α}{P:α→Prop}(h:P y):Gv (some y) P:=⟨y,rfl,h⟩
theorem Gv.cond{α:Type}{b:Bool}{x y:Option α}{P:α→Prop}(h:b=true→Gv x P)(k:b=false→Gv y P):Gv (bif b then x else y) P:=by
 cases b
 ·exact k rfl
 ·exact h rfl
theorem Gv.imp{α:Type}{o:Option α}{P Q:α→Prop}(h:Gv o P)(k: ∀y,P y→Q y):Gv o Q:=by
 obtain⟨y,e,hy⟩:=h
 exact⟨y,e,k y hy⟩
theorem Gv.lp{α A:Type}{body:α→Option (α⊕A)}(I:α→Prop)(μ:α→Nat){Q:A→Prop}(h: ∀s,I s→Gv (body s) (fun r=>match r with
  | .inl s'=>I s'∧μ s'<μ s
  | .inr r=>Q r)) {s:α} (hs:I s):Gv (loop body s) Q:=by
 obtain⟨r,e,hr⟩:=nt I μ Q (fun s hs=>by
  obtain⟨y,e,hy⟩:=h s hs
  cases y with
  | inl s'=>exact .inl ⟨s',e,hy⟩
  | inr r=>exact .inr ⟨r,e,hy⟩) hs
 exact⟨r,e,hr⟩
theorem Gv.FE{S A:Type}{n:Nat}(hn:n≤1000000000){B:Int→S→Option S}{D:S→A}(I:Nat→S→Prop)(hB: ∀(i:Nat) s,i<n→I i s→Gv (B (i:Int) s) (I (i+1))){s:S}(hs:I 0 s){Q:A→Prop}(hQ: ∀s,I n s→Q (D s)):Gv (jH (n:Int) B D 0 s) Q:=by
 have key: ∀(m i:Nat) s,i+m=n→I i s→Gv (jH (n:Int) B D (i:Int) s) Q:=by
  intro m
  induction m with
  | zero=>
   intro i s him hi
   obtain rfl:i=n:=by omega
   unfold jH
   rw[dz]
   simp only[decide_eq_false (show ¬(i:Int)<i by omega),cond_false]
   exact⟨_,rfl,hQ s hi⟩
  | succ m ih=>
   intro i s him hi
   obtain⟨s',e,hs'⟩:=hB i s (by omega) hi
   have:=ih (i+1) s' (by omega) hs'
   unfold jH at this⊢
   rw[dz]
   simp only[decide_eq_true (show(i:Int)<n by omega),cond_true,e,Option.bind_some]
   rw[bx (by omega) (by omega)]
   simpa using this
 exact key n 0 s (by omega) hs
theorem Gv.next{s:ag}(hs:bf s)(n:Int)(hn:n<9223372036854775808):Gv (aG s n) (fun r=>(0≤r.1∧(r.1<n∨r.1=0))∧bf r.2):=by
 obtain⟨x,s',h1,h2,h3,h4⟩:=iO hs n hn
 exact⟨_,h1,⟨h2,h3⟩,h4⟩
theorem Gv.pick{s:ag}(hs:bf s){l:List Int}(hl:l≠[])(hl2:l.length≤4096):Gv (cT s l) (fun r=>r.1∈l∧bf r.2):=by
 obtain⟨x,s',h1,h2,h3⟩:=Dr hs hl hl2
 exact⟨_,h1,h2,h3⟩
theorem Gv.at{α:Type}{L:List α}{P:α→Prop}{i:Int}(h0:0≤i∧(i<L.length∨i=0))(hL:0<L.length)(hP: ∀x∈L,P x):Gv (at' L i) P:=by
 obtain⟨y,e,hy⟩:=sC L h0.1 h0.2 hL
 exact⟨y,e,hP y hy⟩
theorem Gv.cat{u v:ByteArray}(h:u.size+v.size≤1000000):Gv (iS u v) (fun w=>w.size=u.size+v.size):=by
 refine⟨u++v,?_,ByteArray.size_append⟩
 unfold iS
 rw[if_pos (by omega)]
theorem Gv.app{α:Type}{L M:List α}(h:L.length+M.length≤1000000):Gv (c4 L M) (fun r=>r=L++M):=⟨_,cL (by omega),rfl⟩
theorem Gv.sub{u:ByteArray}{l h:Int}(h0:0≤l)(h1:l≤h)(h2:h≤u.size):Gv (lW u l h) (fun w=>w.size≤u.size):=by
 refine⟨_,by unfold lW;rw[if_pos ⟨h0,h1,h2⟩],?_⟩
 show(u.extract l.toNat h.toNat).size≤u.size
 rw[ByteArray.size_extract]
 omega
theorem Gv.from{c:List Int}(hc:rL c):Gv (fU c) bf:=by
 obtain⟨s,h1,h2⟩:=C8 hc
 exact⟨_,h1,h2⟩
end Go.Proofs.YtdejeagdkfokfaaGreatDoor.Sh
namespace Go.Proofs.YtdejeagdkfokfaaGreatDoor.Sh
open Go.RowKit Go.Lib
def we(s:ByteArray):Bool:=s.data.toList.all small
theorem AY{u v:ByteArray}(hu:we u=true)(hv:we v=true):we (u++v)=true:=by
 unfold we at*
 rw[ByteArray.data_append,Array.toList_append,List.all_append,hu,hv]
 rfl
theorem BT{s:ByteArray}(h1:we s=true)(h2:1≤s.size)(h3:s.size≤16):cg s=true:=by
 unfold cg
 rw[bi.2 ⟨by omega,by omega⟩,Bool.true_and]
 exact h1
theorem Ez{s:ag}(hs:bf s):Gv (eV s) (fun r=>cg r.1=true∧bf r.2):=by
 unfold eV
 refine(Gv.next hs 3 (by omega)).bind fun x1 h1=> ?_
 rw[bx (n:=1+x1.1) (by omega) (by omega)]
 refine Gv.bind (P:=fun r:ByteArray×ag=>cg r.1=true∧bf r.2) ?_ fun r hr=> .some hr
 refine Gv.lp (fun s:ByteArray×Int×ag=>(0≤s.2.1∧s.2.1≤3)∧(we s.1=true∧s.1.size+4*s.2.1.toNat≤12∧(s.2.1=0→1≤s.1.size))∧bf s.2.2) (fun s=>s.2.1.toNat) (fun s h=> ?_) ⟨⟨by show 0≤1+x1.1;omega,by show 1+x1.1≤3;omega⟩,⟨rfl,by show 0+4*(1+x1.1).toNat≤12;omega,fun h=>by have:1+x1.1=0:=h;omega⟩,h1.2⟩
 obtain⟨⟨k1,k2⟩,⟨k3,k4,k5⟩,k6⟩:=h
 refine Gv.cond (fun hp=> ?_) fun hp=> .some ⟨BT k3 (k5 (by have:=of_decide_eq_false hp;omega)) (by show s.1.size≤16;omega),k6⟩
 have hp':s.2.1>0:=by simpa using hp
 rw[bx (n:=s.2.1 - 1) (by omega) (by omega)]
 refine Gv.bind (P:=fun r:ByteArray×ag=>(we r.1=true∧r.1.size+4*(s.2.1 - 1).toNat≤12∧1≤r.1.size)∧bf r.2) ?_ fun r hr=> .some ⟨⟨⟨by show 0≤s.2.1 - 1;omega,by show s.2.1 - 1≤3;omega⟩,⟨hr.1.1,hr.1.2.1,fun _=>hr.1.2.2⟩,hr.2⟩,by show(s.2.1 - 1).toNat<s.2.1.toNat;omega⟩
 refine(Gv.next k6 _ (by simp)).bind fun x8 h8=>Gv.bind (Gv.at (P:=fun x:ByteArray=>we x=true∧1≤x.size∧x.size≤4) ⟨h8.1.1,h8.1.2⟩ (by simp) (by decide)) fun x9 h9=> ?_
 refine⟨(s.1++x9,x8.2),?_,?_⟩
 ·unfold iS
  rw[if_pos (by omega)]
  rfl
 ·have:=ByteArray.size_append (a:=s.1) (b:=x9)
  exact⟨⟨AY k3 h9.1,by show(s.1++x9).size+4*(s.2.1 - 1).toNat≤12;omega,by show 1≤(s.1++x9).size;omega⟩,h8.2⟩
def jn(L:List ByteArray):List UInt8:=match L with
 | []=>[]
 | x::l=>x.data.toList++l.flatMap fun z=>32::z.data.toList
theorem Db{L:List ByteArray}{x:ByteArray}(h:L≠[]):jn (L++[x])=jn L++32::x.data.toList:=by
 cases L with
 | nil=>exact absurd rfl h
 | cons a l=>simp[jn]
theorem Br{L:List ByteArray}(h: ∀x∈L,(32:UInt8)∉x.data.toList):L≠[]→dT 32 (jn L)=L.map fun x=>x.data.toList:=by
 induction L with
 | nil=>exact fun h=>absurd rfl h
 | cons a l ih=>
  intro _
  have ha:=h a (by simp)
  cases l with
  | nil=>simp[jn,lJ ha]
  | cons b m=>
   have e:jn (a::b::m)=a.data.toList++32::jn (b::m):=by simp[jn]
   rw[e,mS ha,ih (fun x hx=>h x (by simp[hx])) (by simp)]
   rfl
theorem zZ{s:ByteArray}(h:cg s=true):(32:UInt8)∉s.data.toList:=by
 unfold cg at h
 rw[Bool.and_eq_true,List.all_eq_true]at h
 intro hm
 have:=h.2 _ hm
 revert this
 decide
theorem DC{L:List ByteArray}(hL:L.length≤100)(hs: ∀x∈L,cg x=true): ∃t,fg L=some t∧t.data.toList=jn L∧t.size≤17*L.length:=by
 have hsz: ∀x∈L,x.size≤16:=fun x hx=>(gV (hs x hx)).2
 unfold fg
 have key:Gv (jH (L.length:Int) (fun(i3:Int) (s3:ByteArray)=>(((bif(decide (i3>0))then((iS s3 (ByteArray.mk #[32])).bind fun x9=>some x9)else some s3)).bind fun(j7:ByteArray)=>((at' L i3).bind fun x10=>((iS j7 x10).bind fun x11=>some x11)))) (fun(s3:ByteArray)=>s3) 0 (ByteArray.mk #[])) (fun t=>t.data.toList=jn L∧t.size≤17*L.length):=by
  refine Gv.FE (n:=L.length) (by omega) (fun i t=>t.data.toList=jn (L.take i)∧t.size≤17*i) (fun i t hi ht=> ?_) ⟨by simp[jn],by show 0≤_;omega⟩ fun t ht=>by rw[List.take_of_length_le (Nat.le_refl _)]at ht;exact ht
  obtain⟨h1,h2⟩:=ht
  have hx:L[i]? =some L[i]:=List.getElem?_eq_getElem hi
  have hxs:=hsz L[i] (List.getElem_mem hi)
  have htk:L.take (i+1)=L.take i++[L[i]]:=by rw[List.take_add_one,hx];rfl
  rw[bk,hx]
  unfold iS
  cases hd:decide ((i:Int)>0)
  ·have h0:i=0:=by have:=of_decide_eq_false hd;omega
   subst h0
   have ht0:t.data.toList=[]:=by simpa [jn]using h1
   rw[cond_false,Option.bind_some,Option.bind_some,if_pos (by omega),Option.bind_some]
   have:=ByteArray.size_append (a:=t) (b:=L[0])
   refine .some ⟨?_,by show(t++L[0]).size≤_;omega⟩
   show(t++L[0]).data.toList=_
   rw[ByteArray.data_append,Array.toList_append,ht0,htk]
   simp[jn]
  ·have h0:0<i:=by have:=of_decide_eq_true hd;omega
   have z:(ByteArray.mk #[32]).size=1:=rfl
   have s1:=ByteArray.size_append (a:=t) (b:=ByteArray.mk #[32])
   have s2:=ByteArray.size_append (a:=t++ByteArray.mk #[32]) (b:=L[i])
   rw[cond_true,if_pos (by omega),Option.bind_some,Option.bind_some,Option.bind_some,if_pos (by omega),Option.bind_some]
   refine .some ⟨?_,by show(t++ByteArray.mk #[32]++L[i]).size≤_;omega⟩
   show(t++ByteArray.mk #[32]++L[i]).data.toList=_
   rw[ByteArray.data_append,Array.toList_append,ByteArray.data_append,Array.toList_append,h1,htk,Db (by intro h;have:=congrArg List.length h;rw[List.length_take,List.length_nil]at this;omega)]
   simp
 obtain⟨t,e,ht⟩:=key
 exact⟨t,by rw[e];rfl,ht⟩
theorem xy{t:ByteArray}{L:List ByteArray}(hL:L≠[])(h8:L.length≤8)(hs: ∀x∈L,cg x=true)(ht:t.data.toList=jn L):dA t=true:=by
 unfold dA dc
 rw[ht,Br (fun x hx=>zZ (hs x hx)) hL,List.map_map]
 have:(L.map ((fun l=>(⟨l.toArray⟩:ByteArray))∘fun x=>x.data.toList))=L:=by
  conv=>rhs;rw[←List.map_id L]
  apply List.map_congr_left
  intro x _
  simp
 rw[this,Bool.and_eq_true,List.all_eq_true]
 exact⟨decide_eq_true h8,hs⟩
theorem uF{s:ag}(hs:bf s):Gv (bW s) (fun r=>(dA r.1=true∧r.1.size≤1000)∧bf r.2):=by
 unfold bW
 refine(Gv.next hs 3 (by omega)).bind fun x1 h1=> ?_
 rw[bx (n:=1+x1.1) (by omega) (by omega)]
 refine Gv.bind (P:=fun r:List ByteArray×ag=>(r.1≠[]∧r.1.length≤3∧ ∀x∈r.1,cg x=true)∧bf r.2) ?_ fun r hr=> ?_
 ·refine Gv.lp (fun s:Int×List ByteArray×ag=>(0≤s.1∧s.1+s.2.1.length≤3)∧(s.1=0→s.2.1≠[])∧(∀x∈s.2.1,cg x=true)∧bf s.2.2) (fun s=>s.1.toNat) (fun s h=> ?_) ⟨⟨by show 0≤1+x1.1;omega,by show 1+x1.1+((0:Nat):Int)≤3;omega⟩,fun h=>by have:1+x1.1=0:=h;omega,fun x hx=>absurd hx (by simp),h1.2⟩
  obtain⟨⟨k1,k2⟩,k3,k4,k5⟩:=h
  refine Gv.cond (fun hp=> ?_) fun hp=> .some ⟨⟨k3 (by have:=of_decide_eq_false hp;omega),by show s.2.1.length≤3;omega,k4⟩,k5⟩
  have hp':s.1>0:=by simpa using hp
  rw[bx (n:=s.1 - 1) (by omega) (by omega)]
  refine Gv.bind (P:=fun r:List ByteArray×ag=>(r.1≠[]∧s.1 - 1+r.1.length≤3∧ ∀x∈r.1,cg x=true)∧bf r.2) ?_ fun r hr=> .some ⟨⟨⟨by show 0≤s.1 - 1;omega,hr.1.2.1⟩,fun _=>hr.1.1,hr.1.2.2,hr.2⟩,by show(s.1 - 1).toNat<s.1.toNat;omega⟩
  refine(Ez k5).bind fun x8 h8=>(Gv.app (by simp;omega)).bind fun r hr=> ?_
  subst hr
  refine .some ⟨⟨by simp,by show s.1 - 1+((s.2.1++[x8.1]).length:Int)≤3;rw[List.length_append,List.length_singleton];omega,fun x hx=> ?_⟩,h8.2⟩
  rcases List.mem_append.1 hx with hx | hx
  ·exact k4 x hx
  ·rw[List.mem_singleton.1 hx];exact h8.1
 ·obtain⟨t,e,h2,h3⟩:=DC (L:=r.1) (by omega) hr.1.2.2
  rw[e,Option.bind_some]
  exact .some ⟨⟨xy hr.1.1 (by omega) hr.1.2.2 h2,by show t.size≤1000;have:=hr.1.2.1;omega⟩,hr.2⟩
end Go.Proofs.YtdejeagdkfokfaaGreatDoor.Sh
namespace Go.Proofs.YtdejeagdkfokfaaGreatDoor.Sh
open Go.RowKit Go.Lib
def qa(L:List Place)(k:Nat)(p:Place):List Place:=L.take k++[p]++L.drop k
theorem pq{L:List Place}{k:Nat}{p x:Place}:x∈qa L k p↔x=p∨x∈L:=by
 have h:=List.take_append_drop k L
 unfold qa
 rw[List.mem_append,List.mem_append,List.mem_singleton]
 constructor
 ·rintro((h1 | h1) | h1)
  ·exact .inr (List.mem_of_mem_take h1)
  ·exact .inl h1
  ·exact .inr (List.mem_of_mem_drop h1)
 ·rintro(h1 | h1)
  ·exact .inl (.inr h1)
  ·rw[←h]at h1
   rcases List.mem_append.1 h1 with h1 | h1
   ·exact .inl (.inl h1)
   ·exact .inr h1
theorem po{L:List Place}{k:Nat}(hk:k≤L.length){p:Place}:(qa L k p).length=L.length+1:=by
 unfold qa
 simp only[List.length_append,List.length_take,List.length_drop,List.length_singleton]
 omega
theorem nz{L:List Place}:pC L↔L.Pairwise fun x y=>fY x.Code y.Code=true:=by
 rw[List.pairwise_iff_getElem]
 constructor
 ·intro h i j hi hj hij
  exact h i j _ _ hij (List.getElem?_eq_getElem hi) (List.getElem?_eq_getElem hj)
 ·intro h i j x y hij hx hy
  obtain⟨hi,rfl⟩:=List.getElem?_eq_some_iff.1 hx
  obtain⟨hj,rfl⟩:=List.getElem?_eq_some_iff.1 hy
  exact h i j hi hj hij
theorem zt{x y:ByteArray}(h:x≠y):fY x y=true∨fY y x=true:=by
 cases h1:fY x y with
 | true=>exact .inl rfl
 | false=>
  cases h2:fY y x with
  | true=>exact .inr rfl
  | false=>exact absurd (kn.1 (beq_iff_eq.2 (m9 h1 h2))) h
theorem xm{L:List Place}{k:Nat}{p:Place}(hs:pC L)(hlt: ∀(i:Nat) x,i<k→L[i]? =some x→fY x.Code p.Code=true)(hge: ∀(i:Nat) x,k≤i→L[i]? =some x→fY x.Code p.Code=false):pC (qa L k p)↔L.any (bu p.Code)=false:=by
 have hmt: ∀x∈L.take k,fY x.Code p.Code=true:=fun x hx=>by
  obtain⟨i,hi,rfl⟩:=List.mem_iff_getElem.1 hx
  rw[List.length_take]at hi
  exact hlt i _ (by omega) (by rw[List.getElem_take];exact List.getElem?_eq_getElem (by omega))
 have hmd: ∀x∈L.drop k,fY x.Code p.Code=false:=fun x hx=>by
  obtain⟨i,hi,rfl⟩:=List.mem_iff_getElem.1 hx
  rw[List.length_drop]at hi
  exact hge (k+i) _ (by omega) (by rw[List.getElem_drop];exact List.getElem?_eq_getElem (by omega))
 have hL: ∀x∈L,x∈L.take k∨x∈L.drop k:=fun x hx=>by
  rw[←List.take_append_drop k L]at hx
  exact List.mem_append.1 hx
 constructor
 ·intro h
  rw[nz]at h
  unfold qa at h
  rw[List.append_assoc]at h
  have h1:=(List.pairwise_append.1 h).2.1
  have h2:=(List.pairwise_cons.1 (show([p]++L.drop k).Pairwise _ from h1)).1
  rw[List.any_eq_false]
  intro x hx hc
  have hc:x.Code=p.Code:=kn.1 hc
  rcases hL x hx with h3 | h3
  ·have:=hmt x h3
   rw[hc,la]at this
   cases this
  ·have:=h2 x h3
   rw[hc,la]at this
   cases this
 ·intro h
  rw[List.any_eq_false]at h
  rw[nz]at hs⊢
  rw[←List.take_append_drop k L]at hs
  obtain⟨h1,h2,h3⟩:=List.pairwise_append.1 hs
  unfold qa
  rw[List.append_assoc]
  refine List.pairwise_append.2 ⟨h1,List.pairwise_cons.2 ⟨fun y hy=> ?_,h2⟩,fun x hx y hy=> ?_⟩
  ·have h4:=hmd y hy
   have h5:y.Code≠p.Code:=fun e=>h y (List.mem_of_mem_drop hy) (kn.2 e)
   rcases zt h5 with h6 | h6
   ·rw[h6]at h4;cases h4
   ·exact h6
  ·rcases List.mem_cons.1 (show y∈p::L.drop k from hy)with rfl | hy
   ·exact hmt x hx
   ·exact h3 x hx y hy
theorem zL{L:List Place}(hL:L.length≤1048576){k:Nat}{c:ByteArray}(hk:k≤L.length)(hlt: ∀(i:Nat) x,i<k→L[i]? =some x→fY x.Code c=true)(hge: ∀(i:Nat) x,k≤i→L[i]? =some x→fY x.Code c=false):
  (loop (fun(s7:Int)=>(((bif(decide (s7<(L.length:Int)))then((at' L s7).bind fun x9=>some (Op.bytesLess x9.Code.toList c.toList))else some false)).bind fun(j10:Bool)=>(bif j10 then some (.inl (bF (s7+1)))else some (.inr s7)))) 0:Option Int)=some (k:Int):=by
 have key: ∀(d i:Nat),i+d=k→(loop (fun(s7:Int)=>(((bif(decide (s7<(L.length:Int)))then((at' L s7).bind fun x9=>some (Op.bytesLess x9.Code.toList c.toList))else some false)).bind fun(j10:Bool)=>(bif j10 then some (.inl (bF (s7+1)))else some (.inr s7)))) (i:Int):Option Int)=some (k:Int):=by
  intro d
  induction d with
  | zero=>
   intro i hi
   have hik:i=k:=by omega
   subst hik
   rw[dz]
   by_cases h:i<L.length
   ·have hx:L[i]? =some L[i]:=List.getElem?_eq_getElem h
    have hb:Op.bytesLess L[i].Code.toList c.toList=false:=hge i _ (Nat.le_refl _) hx
    simp only[decide_eq_true (show(i:Int)<L.length by omega),cond_true,bk,hx,Option.bind_some,hb,cond_false]
   ·simp only[decide_eq_false (show ¬(i:Int)<L.length by omega),cond_false,Option.bind_some]
  | succ d ih=>
   intro i hi
   have h:i<L.length:=by omega
   have hx:L[i]? =some L[i]:=List.getElem?_eq_getElem h
   have hb:Op.bytesLess L[i].Code.toList c.toList=true:=hlt i _ (by omega) hx
   have:=ih (i+1) (by omega)
   rw[dz]
   simp only[decide_eq_true (show(i:Int)<L.length by omega),cond_true,bk,hx,Option.bind_some,hb]
   rw[bx (by omega) (by omega)]
   exact this
 exact key k 0 (by omega)
def ShN(n:Name):Prop:=n.Text.size≤2000∧n.Language.size≤100
theorem ShN.r{n:Name}(h:ShN n):NmR n:=⟨by have:=h.1;omega,by have:=h.2;omega⟩
def m8(k:Nat)(L:List Name):Prop:=L.length≤k∧ ∀x∈L,ShN x
theorem m8.snoc{k:Nat}{L:List Name}{x:Name}(h:m8 k L)(hx:ShN x):m8 (k+1) (L++[x]):=by
 refine⟨by simp;exact h.1,fun y hy=> ?_⟩
 rcases List.mem_append.1 hy with hy | hy
 ·exact h.2 y hy
 ·rw[List.mem_singleton.1 hy];exact hx
theorem m8.mono{k l:Nat}{L:List Name}(h:m8 k L)(hk:k≤l):m8 l L:=⟨Nat.le_trans h.1 hk,h.2⟩
def ShP(p:Place):Prop:=p.Code.size≤100∧m8 40 p.Names
theorem ShP.r{p:Place}(h:ShP p):PlR p:=⟨by have:=h.1;omega,by have:=h.2.1;omega,fun x hx=>(h.2.2 x hx).r⟩
def kP(k:Nat)(L:List Place):Prop:=L.length≤k∧ ∀x∈L,ShP x
theorem kP.snoc{k:Nat}{L:List Place}{x:Place}(h:kP k L)(hx:ShP x):kP (k+1) (L++[x]):=by
 refine⟨by simp;exact h.1,fun y hy=> ?_⟩
 rcases List.mem_append.1 hy with hy | hy
 ·exact h.2 y hy
 ·rw[List.mem_singleton.1 hy];exact hx
theorem kP.mono{k l:Nat}{L:List Place}(h:kP k L)(hk:k≤l):kP l L:=⟨Nat.le_trans h.1 hk,h.2⟩
theorem kP.r{k:Nat}{L:List Place}(h:kP k L): ∀x∈L,PlR x:=fun x hx=>(h.2 x hx).r
theorem DL{s:ag}(hs:bf s):Gv (bW s) (fun r=>r.1.size≤1000∧bf r.2):=by
 obtain⟨t,s',h1,h2,h3⟩:=oq hs
 exact⟨_,h1,h2,h3⟩
theorem DM{s:ag}(hs:bf s):Gv (db s) (fun r=>r.1.size≤2000∧bf r.2):=by
 obtain⟨t,s',h1,h2,h3⟩:=th hs
 exact⟨_,h1,h2,h3⟩
theorem DN{s:ag}(hs:bf s):Gv (dH s) (fun r=>r.1.size≤100∧bf r.2):=by
 obtain⟨t,s',h1,h2,h3⟩:=vI hs
 exact⟨_,h1,h2,h3⟩
theorem su{s:ag}(hs:bf s):Gv (hU s) (fun r=>bf r.2):=by
 unfold hU
 exact(Gv.next hs _ (by omega)).bind fun x1 h1=>(Gv.next h1.2 _ (by omega)).bind fun x2 h2=>(Gv.next h2.2 _ (by omega)).bind fun x3 h3=>(Gv.pick h3.2 (by simp) (by simp)).bind fun x4 h4=> .some h4.2
theorem oK{s:ag}(hs:bf s):Gv (fV s) (fun r=>bf r.2):=by
 unfold fV
 refine(su hs).bind fun x1 h1=>(Gv.next h1 20 (by omega)).bind fun x2 h2=>Gv.bind (P:=fun r:Span×ag=>bf r.2) ?_ fun r hr=> .some hr
 refine Gv.cond (fun _=> .some h2.2) fun _=>Gv.cond (fun _=> ?_) fun _=>Gv.cond (fun _=> ?_) fun _=> .some h2.2
 ·exact(Gv.pick h2.2 (by simp) (by simp)).bind fun x5 h5=> .some h5.2
 ·exact(Gv.pick h2.2 (by simp) (by simp)).bind fun x5 h5=> .some h5.2
theorem qc{s:ag}(hs:bf s):Gv (fW s) (fun r=>ShN r.1∧bf r.2):=by
 unfold fW
 refine(DL hs).bind fun x1 h1=>(Gv.next h1.2 4 (by omega)).bind fun x2 h2=>Gv.bind (Gv.at (P:=fun x:ByteArray=>x.size≤100) ⟨h2.1.1,by simpa using h2.1.2⟩ (by simp) (by decide)) fun l hl=> ?_
 refine(Gv.pick h2.2 (by simp) (by simp)).bind fun x4 h4=>(su h4.2).bind fun x5 h5=>(Gv.next h5 30 (by omega)).bind fun x6 h6=> ?_
 have ht:x1.1.size≤2000:=by have:=h1.1;omega
 refine Gv.bind (P:=fun r:Name×ag=>ShN r.1∧bf r.2) (Gv.cond (fun _=> ?_) fun _=>Gv.cond (fun _=> ?_) fun _=>Gv.cond (fun _=> ?_) fun _=>Gv.cond (fun _=> ?_) fun _=> .some ⟨⟨ht,hl⟩,h6.2⟩) fun r hr=> .some hr
 ·exact(DM h6.2).bind fun x9 h9=> .some ⟨⟨h9.1,hl⟩,h9.2⟩
 ·exact(Gv.next h6.2 4 (by omega)).bind fun x10 h10=>Gv.bind (Gv.at (P:=fun x:ByteArray=>x.size≤100) ⟨h10.1.1,by simpa using h10.1.2⟩ (by simp) (by decide)) fun m hm=> .some ⟨⟨ht,hm⟩,h10.2⟩
 ·exact(Gv.pick h6.2 (by simp) (by simp)).bind fun x12 h12=> .some ⟨⟨ht,hl⟩,h12.2⟩
 ·exact(oK h6.2).bind fun x13 h13=> .some ⟨⟨ht,hl⟩,h13⟩
theorem zi{s:ag}(hs:bf s):Gv (jw s) (fun r=>m8 30 r.1∧bf r.2):=by
 unfold jw
 refine(Gv.next hs 6 (by omega)).bind fun x1 h1=> ?_
 refine Gv.bind (P:=fun r:(List Name)×ag=>m8 6 r.1∧bf r.2) ?_ fun j hj=> ?_
 ·refine Gv.lp (fun s:Int×(List Name)×ag=>(0≤s.1∧s.1≤6)∧m8 (6 - s.1.toNat) s.2.1∧bf s.2.2) (fun s=>s.1.toNat) (fun s h=> ?_) ⟨⟨h1.1.1,by show x1.1≤6;omega⟩,⟨Nat.zero_le _,by simp⟩,h1.2⟩
  obtain⟨⟨h0,h4⟩,h2,h3⟩:=h
  refine Gv.cond (fun hp=> ?_) fun _=> .some ⟨h2.mono (by omega),h3⟩
  have hp':s.1>0:=by simpa using hp
  have hl:=h2.1
  rw[bx (n:=s.1 - 1) (by omega) (by omega)]
  refine Gv.bind (P:=fun r:(List Name)×ag=>m8 (6 -(s.1 - 1).toNat) r.1∧bf r.2) ?_ fun r hr=> .some ⟨⟨⟨by show 0≤s.1 - 1;omega,by show s.1 - 1≤6;omega⟩,hr.1,hr.2⟩,by show(s.1 - 1).toNat<s.1.toNat;omega⟩
  refine(Gv.app (by simp;omega)).bind fun a ha=>(qc h3).bind fun x9 h9=> ?_
  rw[List.nil_append]at ha
  subst ha
  refine(Gv.app (by simp;omega)).bind fun b hb=> ?_
  subst hb
  have hsn:=h2.snoc h9.1
  rw[jX (by have:=hsn.1;omega) (fun x hx=>(hsn.2 x hx).r),Option.bind_some]
  exact Gv.cond (fun _=> .some ⟨hsn.mono (by omega),h9.2⟩) fun _=> .some ⟨h2.mono (by omega),h9.2⟩
 ·refine(Gv.next hj.2 24 (by omega)).bind fun x12 h12=>Gv.bind (P:=fun r:(List Name)×ag=>m8 30 r.1∧bf r.2) (Gv.cond (fun _=> ?_) fun _=>Gv.cond (fun _=> ?_) fun _=> .some ⟨hj.1.mono (by omega),h12.2⟩) fun r hr=> .some hr
  ·refine(qc h12.2).bind fun x15 h15=>(Gv.app (by have:=hj.1.1;simp;omega)).bind fun r hr=> ?_
   subst hr
   exact .some ⟨(hj.1.snoc h15.1).mono (by omega),h15.2⟩
  ·refine Gv.lp (fun s:(List Name)×ag=>m8 14 s.1∧bf s.2) (fun s=>20 - s.1.length) (fun s h=> ?_) ⟨hj.1.mono (by omega),h12.2⟩
   refine(Gv.next h.2 2 (by omega)).bind fun x19 h19=>Gv.cond (fun hc=> ?_) fun _=> .some ⟨h.1.mono (by omega),h19.2⟩
   rw[bx (n:=12+x19.1) (by omega) (by omega)]at hc
   have hc':(s.1.length:Int)<12+x19.1:=by simpa using hc
   refine(Gv.app (by simp;omega)).bind fun r hr=> ?_
   subst hr
   have hl: ∀x:Name,(s.1++[x]).length=s.1.length+1:=fun x=>by simp
   have z1:(ByteArray.mk #[111,108,100,32,97,115,104]).size≤2000:=by decide
   have z2:(ByteArray.mk #[108,97,116]).size≤100:=by decide
   exact .some ⟨⟨⟨by rw[hl];omega,(h.1.snoc (x:=Name.mk (ByteArray.mk #[111,108,100,32,97,115,104]) (ByteArray.mk #[108,97,116]) 2 (Span.mk 1 9)) ⟨z1,z2⟩).2⟩,h19.2⟩,by show 20 -(s.1++[_]).length<20 - s.1.length;rw[hl];omega⟩
def InS(f t:Int)(L:List Name):Prop:=dZ L=true∧ ∀n∈L,f≤n.Years.From∧n.Years.To≤t
theorem qd{s:ag}(hs:bf s):Gv (fX s) (fun r=>(ShP r.1∧ea r.1=true)∧bf r.2):=by
 unfold fX
 refine(Gv.next hs 8 (by omega)).bind fun x1 h1=>Gv.bind (Gv.at (P:=fun x:ByteArray=>cg x=true) ⟨h1.1.1,by simpa using h1.1.2⟩ (by simp) (by decide)) fun c hc=> ?_
 refine(Gv.next h1.2 6 (by omega)).bind fun x3 h3=>(Gv.next h3.2 600 (by omega)).bind fun x4 h4=>(Gv.next h4.2 1000 (by omega)).bind fun x5 h5=>(Gv.next h5.2 4 (by omega)).bind fun x6 h6=> ?_
 rw[bx (n:=1000+x4.1) (by omega) (by omega),bx (n:=1000+x4.1+100) (by omega) (by omega),bx (n:=1000+x4.1+100+x5.1) (by omega) (by omega)]
 refine Gv.bind (P:=fun r:ByteArray×Int×Int×Int×(List Name)×ag=>(r.1=c∧r.2.1=x3.1∧r.2.2.1=1000+x4.1∧r.2.2.2.1=1000+x4.1+100+x5.1)∧InS (1000+x4.1) (1000+x4.1+100+x5.1) r.2.2.2.2.1∧m8 4 r.2.2.2.2.1∧bf r.2.2.2.2.2) ?_ fun r hr=> ?_
 ·refine Gv.lp (fun s:Int×ByteArray×Int×Int×Int×(List Name)×ag=>(0≤s.1∧s.1≤4)∧(s.2.1=c∧s.2.2.1=x3.1∧s.2.2.2.1=1000+x4.1∧s.2.2.2.2.1=1000+x4.1+100+x5.1)∧InS (1000+x4.1) (1000+x4.1+100+x5.1) s.2.2.2.2.2.1∧m8 (4 - s.1.toNat) s.2.2.2.2.2.1∧bf s.2.2.2.2.2.2) (fun s=>s.1.toNat) (fun s h=> ?_) ⟨⟨h6.1.1,by show x6.1≤4;omega⟩,⟨rfl,rfl,rfl,rfl⟩,⟨rfl,by simp⟩,⟨Nat.zero_le _,by simp⟩,h6.2⟩
  obtain⟨⟨h0,h4'⟩,⟨e1,e2,e3,e4⟩,hin,h2,h3'⟩:=h
  refine Gv.cond (fun hp=> ?_) fun _=> .some ⟨⟨e1,e2,e3,e4⟩,hin,h2.mono (by omega),h3'⟩
  have hp':s.1>0:=by simpa using hp
  have hl:=h2.1
  rw[bx (n:=s.1 - 1) (by omega) (by omega)]
  refine Gv.bind (P:=fun r:ByteArray×Int×Int×Int×(List Name)×ag=>(r.1=c∧r.2.1=x3.1∧r.2.2.1=1000+x4.1∧r.2.2.2.1=1000+x4.1+100+x5.1)∧InS (1000+x4.1) (1000+x4.1+100+x5.1) r.2.2.2.2.1∧m8 (4 -(s.1 - 1).toNat) r.2.2.2.2.1∧bf r.2.2.2.2.2) ?_ fun r hr=> .some ⟨⟨⟨by show 0≤s.1 - 1;omega,by show s.1 - 1≤4;omega⟩,hr.1,hr.2.1,hr.2.2.1,hr.2.2.2⟩,by show(s.1 - 1).toNat<s.1.toNat;omega⟩
  refine(qc h3').bind fun x13 h13=>(Gv.next h13.2 60 (by omega)).bind fun x14 h14=>(Gv.next h14.2 30 (by omega)).bind fun x15 h15=>(Gv.pick h15.2 (by simp) (by simp)).bind fun x16 h16=>(Gv.next h16.2 3 (by omega)).bind fun x17 h17=> ?_
  have hx16:0≤x16.1∧x16.1≤30:=by
   rcases List.mem_cons.1 h16.1 with h | h
   ·omega
   ·have:=List.mem_singleton.1 h;omega
  rw[e3,e4,bx (n:=1000+x4.1+x14.1) (by omega) (by omega),bx (n:=1000+x4.1+100+x5.1 - x16.1) (by omega) (by omega)]
  refine Gv.bind (P:=fun r:Name×ag=>(ShN r.1∧1000+x4.1≤r.1.Years.From∧r.1.Years.To≤1000+x4.1+100+x5.1)∧bf r.2) (Gv.cond (fun _=> ?_) fun _=> .some ⟨⟨⟨h13.1.1,h13.1.2⟩,by show 1000+x4.1≤1000+x4.1+x14.1;omega,by show 1000+x4.1+100+x5.1 - x16.1≤1000+x4.1+100+x5.1;omega⟩,h17.2⟩) fun j18 h18=> ?_
  ·exact(Gv.next h17.2 2 (by omega)).bind fun x20 h20=>Gv.bind (Gv.at (P:=fun x:ByteArray=>x.size≤2000) ⟨h20.1.1,by simpa using h20.1.2⟩ (by simp) (by decide)) fun t ht=> .some ⟨⟨⟨ht,h13.1.2⟩,by show 1000+x4.1≤1000+x4.1+x14.1;omega,by show 1000+x4.1+100+x5.1 - x16.1≤1000+x4.1+100+x5.1;omega⟩,h20.2⟩
  ·refine(Gv.app (by simp;omega)).bind fun a ha=> ?_
   rw[List.nil_append]at ha
   subst ha
   refine(Gv.app (by simp;omega)).bind fun b hb=> ?_
   subst hb
   have hsn:=h2.snoc h18.1.1
   rw[jX (by have:=hsn.1;omega) (fun x hx=>(hsn.2 x hx).r),Option.bind_some]
   refine Gv.bind (P:=fun j:Bool=>j=true→dZ (s.2.2.2.2.2.1++[j18.1])=true) (Gv.cond (fun h=> .some fun _=>h) fun _=> .some fun h=>by cases h) fun j hj=>Gv.cond (fun hjt=> .some ⟨⟨e1,e2,rfl,rfl⟩,⟨hj hjt,fun n hn=> ?_⟩,hsn.mono (by omega),h18.2⟩) fun _=> .some ⟨⟨e1,e2,rfl,rfl⟩,hin,h2.mono (by omega),h18.2⟩
   rcases List.mem_append.1 hn with hn | hn
   ·exact hin.2 n hn
   ·rw[List.mem_singleton.1 hn];exact h18.1.2
 ·obtain⟨⟨e1,e2,e3,e4⟩,hin,hsh,hs'⟩:=hr
  refine .some ⟨⟨⟨?_,hsh.mono (by omega)⟩,?_⟩,hs'⟩
  ·show r.1.size≤100
   rw[e1]
   have:=(gV hc).2
   omega
  ·unfold ea
   simp only[Bool.and_eq_true]
   refine⟨by rw[e1];exact hc,?_,?_,hin.1,?_⟩
   ·rw[e2]
    exact bi.2 ⟨h3.1.1,by omega⟩
   ·unfold ii
    simp only[Bool.and_eq_true]
    rw[e3,e4]
    exact⟨bi.2 ⟨by omega,by omega⟩,bi.2 ⟨by omega,by omega⟩,decide_eq_true (by show 1000+x4.1≤1000+x4.1+100+x5.1;omega)⟩
   ·rw[List.all_eq_true]
    intro n hn
    have:=hin.2 n hn
    unfold gD
    rw[e3,e4,decide_eq_true this.1,decide_eq_true this.2]
    rfl
theorem zj{s:ag}(hs:bf s):Gv (jy s) (fun r=>ShP r.1∧bf r.2):=by
 unfold jy
 refine(qd hs).bind fun x1 h1=>(Gv.next h1.2 24 (by omega)).bind fun x2 h2=>Gv.bind (P:=fun r:ByteArray×Int×Int×Int×(List Name)×ag=>r.1.size≤100∧m8 40 r.2.2.2.2.1∧bf r.2.2.2.2.2) (Gv.cond (fun _=> ?_) fun _=>Gv.cond (fun _=> ?_) fun _=>Gv.cond (fun _=> ?_) fun _=>Gv.cond (fun _=> ?_) fun _=> .some ⟨h1.1.1.1,h1.1.1.2,h2.2⟩) fun r hr=> .some ⟨⟨hr.1,hr.2.1⟩,hr.2.2⟩
 ·exact(DN h2.2).bind fun x5 h5=> .some ⟨h5.1,h1.1.1.2,h5.2⟩
 ·exact(Gv.pick h2.2 (by simp) (by simp)).bind fun x6 h6=> .some ⟨h1.1.1.1,h1.1.1.2,h6.2⟩
 ·exact(oK h2.2).bind fun x7 h7=> .some ⟨h1.1.1.1,h1.1.1.2,h7⟩
 ·exact(zi h2.2).bind fun x8 h8=> .some ⟨h1.1.1.1,h8.1.mono (by omega),h8.2⟩
theorem tE{L:List Place}(hL:L.length≤1048576)(hR: ∀x∈L,PlR x){p:Place}(hpR:PlR p): ∃r,gr L p=some r∧((r.2≠0∧r.1=[])∨(r.2=0∧ja L=true∧ea p=true∧ ∃k,k≤L.length∧r.1=qa L k p∧ja (qa L k p)=true))∧(L=[]→ea p=true→r.2=0):=by
 unfold gr
 rw[mQ hL hR,pI hpR]
 cases hreg:ja L
 ·exact⟨_,rfl,.inl ⟨by decide,rfl⟩,fun h=>by rw[h]at hreg;cases hreg⟩
 cases hpl:ea p
 ·exact⟨_,rfl,.inl ⟨by decide,rfl⟩,fun _ h=>by cases h⟩
 obtain⟨hs,hpb,h10⟩:=gL.1 hreg
 obtain⟨k,k1,k2,k3,k4,_⟩:=oE h10 hs p.Code
 have hlen:=po k2 (p:=p)
 have hRi: ∀x∈qa L k p,PlR x:=fun x hx=>by
  rcases pq.1 hx with rfl | hx
  ·exact hpR
  ·exact hR x hx
 have hregi:ja (qa L k p)=(!(L.any (bu p.Code))&& !((L.length:Int)==10)):=by
  rw[Bool.eq_iff_iff,gL,xm hs k3 k4,hlen,Bool.and_eq_true,Bool.not_eq_true',Bool.not_eq_true',beq_eq_false_iff_ne]
  constructor
  ·rintro⟨h1,_,h3⟩
   exact⟨h1,by omega⟩
  ·rintro⟨h1,h3⟩
   refine⟨h1,fun x hx=> ?_,by omega⟩
   rcases pq.1 hx with rfl | hx
   ·exact hpl
   ·exact hpb x hx
 simp only[Option.bind_some,Bool.not_true,cond_false]
 rw[zL hL k2 k3 k4,Option.bind_some,nT (by omega) (by omega) (by omega),Option.bind_some]
 simp only[Int.toNat_zero,List.drop_zero,Int.toNat_natCast,Nat.sub_zero]
 rw[cL (by simp;omega),Option.bind_some,List.nil_append,cL (by simp;omega),Option.bind_some,nT (by omega) (by omega) (by omega),Option.bind_some]
 simp only[Int.toNat_natCast]
 rw[List.take_of_length_le (l:=L.drop k) (by rw[List.length_drop];omega),cL (by simp;omega),Option.bind_some]
 show ∃r,((c9 (qa L k p)).bind fun x17=>(bif(!x17)then some (([]:List Place),5)else((fN (qa L k p)).bind fun x18=>some (x18,0))))=some r∧_∧_
 rw[mQ (by omega) hRi,Option.bind_some,hregi]
 cases hany:L.any (bu p.Code)
 ·cases h10b:((L.length:Int)==10)
  ·rw[xx (by omega) hRi]
   refine⟨_,rfl,.inr ⟨rfl,trivial,trivial,k,k2,rfl,?_⟩,fun _ _=>rfl⟩
   rw[hany,h10b]at hregi
   exact hregi
  ·exact⟨_,rfl,.inl ⟨by decide,rfl⟩,fun h=>by rw[h]at h10b;cases h10b⟩
 ·exact⟨_,rfl,.inl ⟨by decide,rfl⟩,fun h=>by rw[h]at hany;cases hany⟩
theorem zk{s:ag}(hs:bf s):Gv (jz s) (fun r=>kP 30 r.1∧bf r.2):=by
 unfold jz
 refine(Gv.next hs 7 (by omega)).bind fun x1 h1=> ?_
 refine Gv.bind (P:=fun r:(List Place)×ag=>kP 7 r.1∧bf r.2) ?_ fun j hj=> ?_
 ·refine Gv.lp (fun s:Int×(List Place)×ag=>(0≤s.1∧s.1≤7)∧kP (7 - s.1.toNat) s.2.1∧bf s.2.2) (fun s=>s.1.toNat) (fun s h=> ?_) ⟨⟨h1.1.1,by show x1.1≤7;omega⟩,⟨Nat.zero_le _,by simp⟩,h1.2⟩
  obtain⟨⟨h0,h4⟩,h2,h3⟩:=h
  refine Gv.cond (fun hp=> ?_) fun _=> .some ⟨h2.mono (by omega),h3⟩
  have hp':s.1>0:=by simpa using hp
  have hl:=h2.1
  rw[bx (n:=s.1 - 1) (by omega) (by omega)]
  refine Gv.bind (P:=fun r:(List Place)×ag=>kP (7 -(s.1 - 1).toNat) r.1∧bf r.2) ?_ fun r hr=> .some ⟨⟨⟨by show 0≤s.1 - 1;omega,by show s.1 - 1≤7;omega⟩,hr.1,hr.2⟩,by show(s.1 - 1).toNat<s.1.toNat;omega⟩
  have hle:s.2.1.length+1≤7 -(s.1 - 1).toNat:=by omega
  have hle2:7 - s.1.toNat≤7 -(s.1 - 1).toNat:=by omega
  refine(qd h3).bind fun x8 h8=> ?_
  obtain⟨r,r2,hr,_⟩:=tE (L:=s.2.1) (by omega) h2.r h8.1.1.r
  rw[r2,Option.bind_some]
  refine Gv.cond (fun he=> .some ⟨?_,h8.2⟩) fun _=> .some ⟨h2.mono hle2,h8.2⟩
  rcases hr with⟨h5,_⟩ | ⟨_,_,_,k,hk,h6,_⟩
  ·exact absurd (beq_iff_eq.1 he) h5
  ·show kP _ r.1
   rw[h6]
   refine⟨by rw[po hk];exact hle,fun x hx=> ?_⟩
   rcases pq.1 hx with rfl | hx
   ·exact h8.1.1
   ·exact h2.2 x hx
 ·refine(Gv.next hj.2 24 (by omega)).bind fun x10 h10=>Gv.bind (P:=fun r:(List Place)×ag=>kP 30 r.1∧bf r.2) (Gv.cond (fun _=> ?_) fun _=>Gv.cond (fun _=> ?_) fun _=> .some ⟨hj.1.mono (by omega),h10.2⟩) fun r hr=> .some hr
  ·refine(zj h10.2).bind fun x13 h13=>(Gv.app (by have:=hj.1.1;simp;omega)).bind fun r hr=> ?_
   subst hr
   exact .some ⟨(hj.1.snoc h13.1).mono (by omega),h13.2⟩
  ·refine Gv.lp (fun s:Int×(List Place)×ag=>(0≤s.1∧s.1≤12)∧kP (7+s.1.toNat) s.2.1∧bf s.2.2) (fun s=>12 - s.1.toNat) (fun s h=> ?_) ⟨⟨Int.le_refl _,by omega⟩,hj.1,h10.2⟩
   obtain⟨⟨h0,h1'⟩,h2,h3⟩:=h
   refine Gv.bind (P:=fun r:Bool×ag=>(r.1=true→s.1<12)∧bf r.2) ?_ fun j18 h18=>Gv.cond (fun ht=> ?_) fun _=> .some ⟨h2.mono (by omega),h18.2⟩
   ·exact(Gv.next h3 2 (by omega)).bind fun a ha=>Gv.cond (fun _=> .some ⟨fun h=>by simpa using h,ha.2⟩) fun _=> .some ⟨fun h=>(by cases h),ha.2⟩
   ·have hlt:=h18.1 ht
    have z:(ByteArray.mk #[97,98,99,100,101,102,103,104,105,106,107,108]).size=12:=rfl
    have z1:(ByteArray.mk #[122]).size=1:=rfl
    rw[bx (n:=s.1+1) (by omega) (by omega)]
    refine Gv.bind (P:=fun r:List Place=>kP (7+(s.1+1).toNat) r) ?_ fun r hr=> .some ⟨⟨⟨by show 0≤s.1+1;omega,by show s.1+1≤12;omega⟩,hr,h18.2⟩,by show 12 -(s.1+1).toNat<12 - s.1.toNat;omega⟩
    refine(Gv.sub h0 (by omega) (by omega)).bind fun u hu=>(Gv.cat (by omega)).bind fun v hv=>(Gv.app (by have:=h2.1;simp;omega)).bind fun r hr=> ?_
    subst hr
    exact .some ((h2.snoc (x:=Place.mk v 0 (Span.mk 1500 1600) []) ⟨by show v.size≤100;omega,Nat.zero_le _,by simp⟩).mono (by omega))
end Go.Proofs.YtdejeagdkfokfaaGreatDoor.Sh
namespace Go.Proofs.YtdejeagdkfokfaaGreatDoor.Sh
open Go.RowKit Go.Lib
def ShL(l:ay):Prop:=l.Child.size≤100∧l.Parent.size≤100
theorem ShL.r{l:ay}(h:ShL l):LkR l:=⟨by have:=h.1;omega,by have:=h.2;omega⟩
def lm(k:Nat)(L:List ay):Prop:=L.length≤k∧ ∀x∈L,ShL x
theorem lm.snoc{k:Nat}{L:List ay}{x:ay}(h:lm k L)(hx:ShL x):lm (k+1) (L++[x]):=by
 refine⟨by simp;exact h.1,fun y hy=> ?_⟩
 rcases List.mem_append.1 hy with hy | hy
 ·exact h.2 y hy
 ·rw[List.mem_singleton.1 hy];exact hx
theorem lm.mono{k l:Nat}{L:List ay}(h:lm k L)(hk:k≤l):lm l L:=⟨Nat.le_trans h.1 hk,h.2⟩
theorem lm.r{k:Nat}{L:List ay}(h:lm k L): ∀x∈L,LkR x:=fun x hx=>(h.2 x hx).r
theorem tD{L:List ay}(hL:L.length≤1000000)(hR: ∀x∈L,LkR x){l:ay}(hl:LkR l): ∃r,hJ L l=some r∧(r.2=0→r.1=L++[l]):=by
 unfold hJ
 rw[iC (by omega) hR,tZ hl]
 cases dP L
 ·exact⟨_,rfl,fun h=>by cases h⟩
 cases jr l
 ·exact⟨_,rfl,fun h=>by cases h⟩
 simp only[Option.bind_some,Bool.not_true,cond_false]
 rw[cL (by simp;omega),Option.bind_some,List.nil_append,cL (by simp;omega),Option.bind_some,iC (by simp;omega) (fun x hx=>by
  rcases List.mem_append.1 hx with hx | hx
  ·exact hR x hx
  ·rw[List.mem_singleton.1 hx];exact hl)]
 cases dP (L++[l])
 ·exact⟨_,rfl,fun h=>by cases h⟩
 ·exact⟨_,rfl,fun _=>rfl⟩
theorem tO{s:ag}(hs:bf s):Gv (ia s) (fun r=>ShL r.1∧bf r.2):=by
 unfold ia
 exact(Gv.next hs 8 (by omega)).bind fun x1 h1=>Gv.bind (Gv.at (P:=fun x:ByteArray=>x.size≤100) ⟨h1.1.1,by simpa using h1.1.2⟩ (by simp) (by decide)) fun c hc=>(Gv.next h1.2 8 (by omega)).bind fun x3 h3=>Gv.bind (Gv.at (P:=fun x:ByteArray=>x.size≤100) ⟨h3.1.1,by simpa using h3.1.2⟩ (by simp) (by decide)) fun d hd=>(Gv.next h3.2 _ (by omega)).bind fun x5 h5=>(Gv.next h5.2 _ (by omega)).bind fun x6 h6=> .some ⟨⟨hc,hd⟩,h6.2⟩
theorem zm{s:ag}(hs:bf s):Gv (jB s) (fun r=>ShL r.1∧bf r.2):=by
 unfold jB
 refine(tO hs).bind fun x1 h1=>(Gv.next h1.2 24 (by omega)).bind fun x2 h2=>Gv.bind (P:=fun r:ay×ag=>ShL r.1∧bf r.2) (Gv.cond (fun _=> ?_) fun _=>Gv.cond (fun _=> ?_) fun _=> .some ⟨h1.1,h2.2⟩) fun r hr=> .some hr
 ·exact(DN h2.2).bind fun x5 h5=> .some ⟨⟨h1.1.1,h5.1⟩,h5.2⟩
 ·exact(oK h2.2).bind fun x6 h6=> .some ⟨h1.1,h6⟩
theorem zn{s:ag}(hs:bf s):Gv (jC s) (fun r=>lm 40 r.1∧bf r.2):=by
 unfold jC
 refine(Gv.next hs 10 (by omega)).bind fun x1 h1=> ?_
 refine Gv.bind (P:=fun r:(List ay)×ag=>lm 10 r.1∧bf r.2) ?_ fun j hj=> ?_
 ·refine Gv.lp (fun s:Int×(List ay)×ag=>(0≤s.1∧s.1≤10)∧lm (10 - s.1.toNat) s.2.1∧bf s.2.2) (fun s=>s.1.toNat) (fun s h=> ?_) ⟨⟨h1.1.1,by show x1.1≤10;omega⟩,⟨Nat.zero_le _,by simp⟩,h1.2⟩
  obtain⟨⟨h0,h4⟩,h2,h3⟩:=h
  refine Gv.cond (fun hp=> ?_) fun _=> .some ⟨h2.mono (by omega),h3⟩
  have hp':s.1>0:=by simpa using hp
  have hl:=h2.1
  rw[bx (n:=s.1 - 1) (by omega) (by omega)]
  refine Gv.bind (P:=fun r:(List ay)×ag=>lm (10 -(s.1 - 1).toNat) r.1∧bf r.2) ?_ fun r hr=> .some ⟨⟨⟨by show 0≤s.1 - 1;omega,by show s.1 - 1≤10;omega⟩,hr.1,hr.2⟩,by show(s.1 - 1).toNat<s.1.toNat;omega⟩
  refine(tO h3).bind fun x8 h8=> ?_
  obtain⟨r,r2,hr⟩:=tD (L:=s.2.1) (by omega) h2.r h8.1.r
  rw[r2,Option.bind_some]
  refine Gv.cond (fun he=> .some ⟨?_,h8.2⟩) fun _=> .some ⟨h2.mono (by omega),h8.2⟩
  show lm _ r.1
  rw[hr (by simpa using he)]
  exact(h2.snoc h8.1).mono (by omega)
 ·refine(Gv.next hj.2 24 (by omega)).bind fun x10 h10=>Gv.bind (P:=fun r:(List ay)×ag=>lm 40 r.1∧bf r.2) (Gv.cond (fun _=> ?_) fun _=>Gv.cond (fun _=> ?_) fun _=> .some ⟨hj.1.mono (by omega),h10.2⟩) fun r hr=> .some hr
  ·refine(zm h10.2).bind fun x13 h13=>(Gv.app (by have:=hj.1.1;simp;omega)).bind fun r hr=> ?_
   subst hr
   exact .some ⟨(hj.1.snoc h13.1).mono (by omega),h13.2⟩
  ·refine Gv.lp (fun s:Int×(List ay)×ag=>(0≤s.1∧s.1=s.2.1.length - j.1.length)∧lm 21 s.2.1∧bf s.2.2) (fun s=>21 - s.2.1.length) (fun s h=> ?_) ⟨⟨Int.le_refl _,by show(0:Int)=(j.1.length:Int)- j.1.length;omega⟩,hj.1.mono (by omega),h10.2⟩
   obtain⟨⟨h0,h1'⟩,h2,h3⟩:=h
   have hl:=h2.1
   have hjl:=hj.1.1
   refine(Gv.next h3 2 (by omega)).bind fun x17 h17=> ?_
   rw[bx (n:=20+x17.1) (by omega) (by omega),bx (n:=s.1+1) (by omega) (by omega)]
   refine Gv.cond (fun hlt=> ?_) fun _=> .some ⟨h2.mono (by omega),h17.2⟩
   have hlt:=of_decide_eq_true hlt
   refine Gv.bind (P:=fun r:List ay=>r.length=s.2.1.length+1∧lm 21 r) ?_ fun r hr=> .some ⟨⟨⟨by show 0≤s.1+1;omega,by show s.1+1=(r.length:Int)- j.1.length;rw[hr.1];omega⟩,hr.2,h17.2⟩,by show 21 - r.length<21 - s.2.1.length;rw[hr.1];omega⟩
   refine(Gv.app (by simp;omega)).bind fun r hr=> ?_
   subst hr
   refine .some ⟨by simp,by simp;omega,fun x hx=> ?_⟩
   rcases List.mem_append.1 hx with hx | hx
   ·exact h2.2 x hx
   ·rw[List.mem_singleton.1 hx]
    exact⟨show(ByteArray.mk #[122,101,100]).size≤100 by decide,show(ByteArray.mk #[97,115,104]).size≤100 by decide⟩
theorem Ba{t:ByteArray}(ht:dA t=true){f e:Int}(h1: -3000≤f)(h2:f≤e)(h3:e≤3000):dZ [Name.mk t (ByteArray.mk #[101,110]) 0 (Span.mk f e)]=true:=by
 unfold dZ bZ bZ pV js ii
 rw[ht]
 have hl:jo (ByteArray.mk #[101,110])=true:=by decide
 rw[hl]
 dsimp only
 rw[show cX f (-3000) 3000=true from bi.2 ⟨h1,by omega⟩,show cX e (-3000) 3000=true from bi.2 ⟨by omega,h3⟩,decide_eq_true h2]
 rfl
theorem zo{s:ag}(hs:bf s):Gv (jF s) (fun r=>(kP 7 r.1.Places∧lm 7 r.1.Links)∧bf r.2):=by
 unfold jF
 refine(Gv.next hs 6 (by omega)).bind fun x1 h1=> ?_
 rw[bx (n:=2+x1.1) (by omega) (by omega)]
 refine Gv.bind (P:=fun r:(List Place)×(List ay)×ag=>kP 7 r.1∧r.1≠[]∧r.2.1=[]∧bf r.2.2) ?_ fun j hj=> ?_
 ·refine Gv.lp (fun s:Int×(List Place)×(List ay)×ag=>(0≤s.1∧s.1≤7)∧kP (7 - s.1.toNat) s.2.1∧(s.2.1=[]→1≤s.1)∧s.2.2.1=[]∧bf s.2.2.2) (fun s=>s.1.toNat) (fun s h=> ?_) ⟨⟨by show 0≤2+x1.1;omega,by show 2+x1.1≤7;omega⟩,⟨Nat.zero_le _,by simp⟩,fun _=>by show 1≤2+x1.1;omega,rfl,h1.2⟩
  obtain⟨⟨h0,h4⟩,h2,hne,hnl,h3⟩:=h
  refine Gv.cond (fun hp=> ?_) fun hp=> .some ⟨h2.mono (by omega),fun h=>(by have:=hne h;have:=of_decide_eq_false hp;omega),hnl,h3⟩
  have hp':s.1>0:=by simpa using hp
  have hl:=h2.1
  rw[bx (n:=s.1 - 1) (by omega) (by omega)]
  refine Gv.bind (P:=fun r:(List Place)×(List ay)×ag=>kP (7 -(s.1 - 1).toNat) r.1∧r.1≠[]∧r.2.1=[]∧bf r.2.2) ?_ fun r hr=> .some ⟨⟨⟨by show 0≤s.1 - 1;omega,by show s.1 - 1≤7;omega⟩,hr.1,fun h=>absurd h hr.2.1,hr.2.2.1,hr.2.2.2⟩,by show(s.1 - 1).toNat<s.1.toNat;omega⟩
  refine(qd h3).bind fun x8 h8=>(Gv.next h8.2 3 (by omega)).bind fun x9 h9=> ?_
  refine Gv.bind (P:=fun r:ByteArray×Int×Int×Int×(List Name)×ag=>(ShP (Place.mk r.1 r.2.1 (Span.mk r.2.2.1 r.2.2.2.1) r.2.2.2.2.1)∧ea (Place.mk r.1 r.2.1 (Span.mk r.2.2.1 r.2.2.2.1) r.2.2.2.2.1)=true)∧bf r.2.2.2.2.2) (Gv.cond (fun _=> ?_) fun _=> .some ⟨h8.1,h9.2⟩) fun j10 h10=> ?_
  ·refine(Gv.next h9.2 100 (by omega)).bind fun x12 h12=>(Gv.next h12.2 100 (by omega)).bind fun x13 h13=>(uF h13.2).bind fun x14 h14=> ?_
   rw[bx (n:=1000+x12.1) (by omega) (by omega),bx (n:=2000+x13.1) (by omega) (by omega)]
   have hpb:=h8.1.2
   unfold ea at hpb
   simp only[Bool.and_eq_true]at hpb
   refine .some ⟨⟨⟨h8.1.1.1,by show 1≤40;omega,fun x hx=> ?_⟩,?_⟩,h14.2⟩
   ·have hx:x∈[Name.mk x14.1 (ByteArray.mk #[101,110]) 0 (Span.mk (1000+x12.1) (2000+x13.1))]:=hx
    rw[List.mem_singleton.1 hx]
    exact⟨by show x14.1.size≤2000;have:=h14.1.2;omega,(by decide:(ByteArray.mk #[101,110]).size≤100)⟩
   ·unfold ea
    simp only[Bool.and_eq_true]
    refine⟨hpb.1,hpb.2.1,?_,Ba h14.1.1 (by omega) (by omega) (by omega),?_⟩
    ·unfold ii
     simp only[Bool.and_eq_true]
     exact⟨bi.2 ⟨by show -3000≤1000+x12.1;omega,by show 1000+x12.1≤3000;omega⟩,bi.2 ⟨by show -3000≤2000+x13.1;omega,by show 2000+x13.1≤3000;omega⟩,decide_eq_true (by show 1000+x12.1≤2000+x13.1;omega)⟩
    ·unfold gD
     simp
  ·have hle:s.2.1.length+1≤7 -(s.1 - 1).toNat:=by omega
   have hle2:7 - s.1.toNat≤7 -(s.1 - 1).toNat:=by omega
   obtain⟨r,r2,hr,hr0⟩:=tE (L:=s.2.1) (by omega) h2.r h10.1.1.r
   rw[r2,Option.bind_some]
   refine Gv.cond (fun he=> .some ⟨?_,?_,hnl,h10.2⟩) fun he=> .some ⟨h2.mono hle2,fun h=>(by rw[hr0 h h10.1.2]at he;cases he),hnl,h10.2⟩
   ·rcases hr with⟨h5,_⟩ | ⟨_,_,_,k,hk,h6,_⟩
    ·exact absurd (beq_iff_eq.1 he) h5
    ·show kP _ r.1
     rw[h6]
     refine⟨by rw[po hk];exact hle,fun x hx=> ?_⟩
     rcases pq.1 hx with rfl | hx
     ·exact h10.1.1
     ·exact h2.2 x hx
   ·rcases hr with⟨h5,_⟩ | ⟨_,_,_,k,hk,h6,_⟩
    ·exact absurd (beq_iff_eq.1 he) h5
    ·show r.1≠[]
     rw[h6]
     intro h
     have:=congrArg List.length h
     rw[po hk]at this
     cases this
 ·obtain⟨hjp,hjn,hjl,hjs⟩:=hj
  refine(Gv.next hjs 8 (by omega)).bind fun x16 h16=> ?_
  refine Gv.bind (P:=fun r:(List Place)×(List ay)×ag=>kP 7 r.1∧lm 7 r.2.1∧bf r.2.2) ?_ fun r hr=> .some ⟨⟨hr.1,hr.2.1⟩,hr.2.2⟩
  refine Gv.lp (fun s:Int×(List Place)×(List ay)×ag=>(0≤s.1∧s.1≤7)∧s.2.1=j.1∧lm (7 - s.1.toNat) s.2.2.1∧bf s.2.2.2) (fun s=>s.1.toNat) (fun s h=> ?_) ⟨⟨h16.1.1,by show x16.1≤7;omega⟩,rfl,by rw[hjl];exact⟨Nat.zero_le _,by simp⟩,h16.2⟩
  obtain⟨⟨h0,h4⟩,hp1,h2,h3⟩:=h
  rw[hp1]
  refine Gv.cond (fun hp=> ?_) fun _=> .some ⟨hjp,h2.mono (by omega),h3⟩
  have hp':s.1>0:=by simpa using hp
  have hl:=h2.1
  rw[bx (n:=s.1 - 1) (by omega) (by omega)]
  refine Gv.bind (P:=fun r:(List Place)×(List ay)×ag=>r.1=j.1∧lm (7 -(s.1 - 1).toNat) r.2.1∧bf r.2.2) ?_ fun r hr=> .some ⟨⟨⟨by show 0≤s.1 - 1;omega,by show s.1 - 1≤7;omega⟩,hr.1,hr.2.1,hr.2.2⟩,by show(s.1 - 1).toNat<s.1.toNat;omega⟩
  have hjlen:=hjp.1
  have hjpos:0<j.1.length:=List.length_pos_iff.2 hjn
  refine(Gv.next h3 _ (by omega)).bind fun x23 h23=>Gv.bind (Gv.at h23.1 hjpos hjp.2) fun p hpS=>(Gv.next h23.2 _ (by omega)).bind fun x25 h25=>Gv.bind (Gv.at h25.1 hjpos hjp.2) fun q hqS=> ?_
  refine Gv.bind (P:=fun r:Bool×ag=>bf r.2) ((Gv.next h25.2 2 (by omega)).bind fun x27 h27=>Gv.cond (fun _=> .some h27.2) fun _=> .some h27.2) fun j28 h28=> ?_
  refine Gv.bind (P:=fun r:Int×ag=>bf r.2) (Gv.cond (fun _=>(Gv.next h28 _ (by exact E0 _)).bind fun x32 h32=> .some h32.2) fun _=> .some h28) fun j30 h30=> ?_
  obtain⟨r,r2,hr⟩:=tD (L:=s.2.2.1) (by omega) h2.r (l:=ay.mk p.Code q.Code (Span.mk j30.1 (bM p.Years.To q.Years.To))) (ShL.r ⟨hpS.1,hqS.1⟩)
  rw[r2,Option.bind_some]
  refine Gv.cond (fun he=> .some ⟨rfl,?_,h30⟩) fun _=> .some ⟨rfl,h2.mono (by omega),h30⟩
  show lm _ r.1
  rw[hr (by simpa using he)]
  exact(h2.snoc (x:=ay.mk p.Code q.Code (Span.mk j30.1 (bM p.Years.To q.Years.To))) ⟨hpS.1,hqS.1⟩).mono (by omega)
def ShW(W:World):Prop:=kP 30 W.Places∧lm 40 W.Links
theorem ShW.r{W:World}(h:ShW W):WlR W:=⟨by have:=h.1.1;omega,h.1.r,by have:=h.2.1;omega,h.2.r⟩
theorem tP{s:ag}(hs:bf s):Gv (ib s) (fun r=>ShW r.1∧bf r.2):=by
 unfold ib
 refine(zo hs).bind fun x1 h1=>(Gv.next h1.2 24 (by omega)).bind fun x2 h2=>Gv.bind (P:=fun r:World×ag=>ShW r.1∧bf r.2) (Gv.cond (fun _=> ?_) fun _=>Gv.cond (fun _=> ?_) fun _=> .some ⟨⟨h1.1.1.mono (by omega),h1.1.2.mono (by omega)⟩,h2.2⟩) fun r hr=> .some hr
 ·exact(zk h2.2).bind fun x5 h5=> .some ⟨⟨h5.1,h1.1.2.mono (by omega)⟩,h5.2⟩
 ·exact(zn h2.2).bind fun x6 h6=> .some ⟨⟨h1.1.1.mono (by omega),h6.1⟩,h6.2⟩
theorem zl{s:ag}(hs:bf s):Gv (fF s) (fun r=>r.1.size≤100∧bf r.2):=by
 unfold fF
 exact(Gv.next hs 11 (by omega)).bind fun x1 h1=>Gv.bind (Gv.at (P:=fun x:ByteArray=>x.size≤100) ⟨h1.1.1,by simpa using h1.1.2⟩ (by simp) (by decide)) fun c hc=> .some ⟨hc,h1.2⟩
theorem tQ{s:ag}(hs:bf s){W:World}(hW:ShW W):Gv (ic s W) (fun r=>r.1.size≤100∧bf r.2):=by
 unfold ic
 have hl:=hW.1.1
 refine Gv.bind (P:=fun r:Bool×ag=>(r.1=true→W.Places≠[])∧bf r.2) (Gv.cond (fun hp=> ?_) fun _=> .some ⟨fun h=>(by cases h),hs⟩) fun j2 h2=>Gv.cond (fun hj=> ?_) fun _=> ?_
 ·exact(Gv.next hs 12 (by omega)).bind fun x1 h1=> .some ⟨fun _ h=>(by rw[h]at hp;cases hp),h1.2⟩
 ·have hpos:0<W.Places.length:=List.length_pos_iff.2 (h2.1 hj)
  exact(Gv.next h2.2 _ (by omega)).bind fun x4 h4=>Gv.bind (Gv.at h4.1 hpos hW.1.2) fun p hpS=> .some ⟨hpS.1,h4.2⟩
 ·exact(zl h2.2).bind fun x6 h6=> .some h6
def ShC(x:Change):Prop:=x.Code.size≤2000∧x.Other.size≤2000∧x.Language.size≤2000∧x.Text.size≤2000
theorem ShC.r{x:Change}(h:ShC x):ChR x:=⟨by have:=h.1;omega,by have:=h.2.1;omega,by have:=h.2.2.1;omega,by have:=h.2.2.2;omega⟩
theorem nq{s:ag}(hs:bf s){W:World}(hW:ShW W):Gv (eG s W) (fun r=>ShC r.1∧bf r.2):=by
 unfold eG
 have z:(ByteArray.mk #[]).size≤2000:=by decide
 refine(Gv.next hs 900 (by omega)).bind fun x1 h1=>(Gv.next h1.2 4 (by omega)).bind fun x2 h2=>(tQ h2.2 hW).bind fun x3 h3=> ?_
 have h3s:x3.1.size≤2000:=by have:=h3.1;omega
 refine Gv.bind (P:=fun r:Change×ag=>ShC r.1∧bf r.2) (Gv.cond (fun _=>(tQ h3.2 hW).bind fun x6 h6=> .some ⟨⟨h3s,by show x6.1.size≤2000;have:=h6.1;omega,z,z⟩,h6.2⟩) fun _=> .some ⟨⟨h3s,z,z,z⟩,h3.2⟩) fun j4 h4=> ?_
 refine Gv.bind (P:=fun r:Change×ag=>ShC r.1∧bf r.2) (Gv.cond (fun _=> ?_) fun _=> .some h4) fun j7 h7=> ?_
 ·exact(Gv.next h4.2 4 (by omega)).bind fun x9 h9=>Gv.bind (Gv.at (P:=fun x:ByteArray=>x.size≤2000) ⟨h9.1.1,by simpa using h9.1.2⟩ (by simp) (by decide)) fun c hc=>(DL h9.2).bind fun x11 h11=> .some ⟨⟨h4.1.1,h4.1.2.1,hc,by show x11.1.size≤2000;have:=h11.1;omega⟩,h11.2⟩
 refine(Gv.next h7.2 30 (by omega)).bind fun x12 h12=>Gv.bind (P:=fun r:Change×ag=>ShC r.1∧bf r.2) (Gv.cond (fun _=> ?_) fun _=>Gv.cond (fun _=> ?_) fun _=>Gv.cond (fun _=> ?_) fun _=> .some ⟨h7.1,h12.2⟩) fun r hr=> .some hr
 ·exact(Gv.pick h12.2 (by simp) (by simp)).bind fun x15 h15=> .some ⟨h7.1,h15.2⟩
 ·exact(Gv.next h12.2 6 (by omega)).bind fun x16 h16=> .some ⟨h7.1,h16.2⟩
 ·exact(DM h12.2).bind fun x17 h17=> .some ⟨⟨h7.1.1,h7.1.2.1,h7.1.2.2.1,h17.1⟩,h17.2⟩
theorem uj{c:List Int}(hc:rL c):Gv (dQ c) (fun r=>ShW r.1∧ShC r.2):=by
 unfold dQ
 exact(Gv.from hc).bind fun x1 h1=>(tP h1).bind fun x2 h2=>(nq h2.2 h2.1).bind fun x3 h3=> .some ⟨h2.1,h3.1⟩
def qT(k:Nat)(L:List Change):Prop:=L.length≤k∧ ∀x∈L,ShC x
theorem qT.snoc{k:Nat}{L:List Change}{x:Change}(h:qT k L)(hx:ShC x):qT (k+1) (L++[x]):=by
 refine⟨by simp;exact h.1,fun y hy=> ?_⟩
 rcases List.mem_append.1 hy with hy | hy
 ·exact h.2 y hy
 ·rw[List.mem_singleton.1 hy];exact hx
theorem qT.mono{k l:Nat}{L:List Change}(h:qT k L)(hk:k≤l):qT l L:=⟨Nat.le_trans h.1 hk,h.2⟩
theorem tg{c:List Int}(hc:rL c):Gv (dB c) (fun r=>ShW r.1∧qT 40 r.2):=by
 unfold dB
 refine(Gv.from hc).bind fun x1 h1=>(tP h1).bind fun x2 h2=>(Gv.next h2.2 6 (by omega)).bind fun x3 h3=> ?_
 refine Gv.bind (P:=fun r:ag×(List Change)=>qT 6 r.2∧bf r.1) ?_ fun j4 h4=> ?_
 ·refine Gv.lp (fun s:Int×ag×(List Change)=>(0≤s.1∧s.1≤6)∧qT (6 - s.1.toNat) s.2.2∧bf s.2.1) (fun s=>s.1.toNat) (fun s h=> ?_) ⟨⟨h3.1.1,by show x3.1≤6;omega⟩,⟨Nat.zero_le _,by simp⟩,h3.2⟩
  obtain⟨⟨h0,h4⟩,h5,h6⟩:=h
  refine Gv.cond (fun hp=> ?_) fun _=> .some ⟨h5.mono (by omega),h6⟩
  have hp':s.1>0:=by simpa using hp
  have hl:=h5.1
  rw[bx (n:=s.1 - 1) (by omega) (by omega)]
  refine Gv.bind (P:=fun r:(List Change)×ag=>qT (6 -(s.1 - 1).toNat) r.1∧bf r.2) ?_ fun r hr=> .some ⟨⟨⟨by show 0≤s.1 - 1;omega,by show s.1 - 1≤6;omega⟩,hr.1,hr.2⟩,by show(s.1 - 1).toNat<s.1.toNat;omega⟩
  refine(nq h6 h2.1).bind fun x10 h10=>(Gv.app (by simp;omega)).bind fun r hr=> ?_
  subst hr
  exact .some ⟨(h5.snoc h10.1).mono (by omega),h10.2⟩
 ·refine(Gv.next h4.2 24 (by omega)).bind fun x12 h12=>Gv.bind (P:=fun r:List Change=>qT 40 r) (Gv.cond (fun _=> ?_) fun _=> .some (h4.1.mono (by omega))) fun r hr=> .some ⟨h2.1,hr⟩
  refine Gv.lp (fun s:(List Change)×ag=>qT 20 s.1∧bf s.2) (fun s=>20 - s.1.length) (fun s h=> ?_) ⟨h4.1.mono (by omega),h12.2⟩
  obtain⟨h5,h6⟩:=h
  have hl:=h5.1
  refine(Gv.next h6 2 (by omega)).bind fun x17 h17=> ?_
  rw[bx (n:=12+x17.1) (by omega) (by omega)]
  refine Gv.cond (fun hlt=> ?_) fun _=> .some (h5.mono (by omega))
  have hlt:=of_decide_eq_true hlt
  refine(nq h17.2 h2.1).bind fun x18 h18=>(Gv.app (by simp;omega)).bind fun r hr=> ?_
  subst hr
  refine .some ⟨⟨⟨by show(s.1++[x18.1]).length≤20;simp;omega,(h5.snoc h18.1).2⟩,h18.2⟩,by show 20 -(s.1++[x18.1]).length<20 - s.1.length;simp;omega⟩
end Go.Proofs.YtdejeagdkfokfaaGreatDoor.Sh
namespace Go.Proofs.YtdejeagdkfokfaaGreatDoor.Sh
open Go.RowKit Go.Lib
def Cl(L:List ay)(y:Int)(C:List ByteArray):Prop:= ∀z∈C,∃v∈C,par L z y=some v
theorem yM{L:List ay}{c:ByteArray}{y:Int}{v:ByteArray}(hv:par L c y=some v): ∃l∈L,iZ c y l=true∧l.Parent=v:=by
 unfold par at hv
 rw[Option.map_eq_some_iff]at hv
 obtain⟨l,h1,rfl⟩:=hv
 exact⟨l,List.mem_of_find?_eq_some h1,List.find?_some h1,rfl⟩
theorem BR{L:List ay}(hL:L.length≤1048576)(p:ByteArray)(y:Int): ∃way b,jQ L p y=some way∧((at' way (bF ((way.length:Int)- 1))).bind fun x2=>((cy L x2 y).bind fun x3=>some x3.2))=some b∧(b=true→ ∃C,p∈C∧Cl L y C)∧(b=false→ ∀C,p∈C→ ¬Cl L y C):=by
 have key: ∀(n:Nat) (out:List ByteArray) (v:ByteArray),nI (p::L.map ay.Parent) out≤n→v∈p::L.map ay.Parent→v∉out→out.length+nI (p::L.map ay.Parent) out≤1048577→(∀z∈out,∃u∈out++[v],par L z y=some u)→
   ∃way b,loop (fun(s1:(List ByteArray))=>((at' s1 (bF ((s1.length:Int)- 1))).bind fun x3=>((cy L x3 y).bind fun x4=>(((bif(!x4.2)then some true else((cB s1 x4.1).bind fun x5=>some x5))).bind fun(j6:Bool)=>(bif j6 then some (.inr s1)else((c4 s1 ([x4.1]:List ByteArray)).bind fun x8=>some (.inl x8))))))) (out++[v])=some way∧
   ((at' way (bF ((way.length:Int)- 1))).bind fun x2=>((cy L x2 y).bind fun x3=>some x3.2))=some b∧(b=true→ ∃C,(∀x∈out++[v],x∈C)∧Cl L y C)∧(b=false→ ∀C,v∈C→ ¬Cl L y C):=by
  intro n
  induction n with
  | zero=>
   intro out v h1 h2 h3
   have:=pQ h2 h3
   omega
  | succ n ih=>
   intro out v h1 h2 h3 h13 hinv
   have hlt:=pQ h2 h3
   have hl:out.length≤1048577:=by omega
   have hlen:(out++[v]).length=out.length+1:=by simp
   have hat:at' (out++[v]) (bF (((out++[v]).length:Int)- 1))=some v:=by
    rw[bx (by omega) (by omega),hlen,show((out.length+1:Nat):Int)- 1=(out.length:Int) by omega,bk]
    simp
   rw[dz]
   simp only[hat,Option.bind_some,ji (show L.length≤1048577 by omega)]
   cases ht:par L v y with
   | none=>
    have e0:px none=(ByteArray.mk #[],false):=rfl
    simp only[e0,Bool.not_false,cond_true,Option.bind_some]
    refine⟨out++[v],false,rfl,?_,fun h=>(by cases h),fun _ C hC hcl=> ?_⟩
    ·rw[hat,Option.bind_some,ht]
     rfl
    ·obtain⟨u,_,hu⟩:=hcl v hC
     rw[ht]at hu
     cases hu
   | some u=>
    obtain⟨l,hl1,_,hl2⟩:=yM ht
    have hu2:u∈L.map ay.Parent:=List.mem_map.2 ⟨l,hl1,hl2⟩
    have e1:px (some u)=(u,true):=rfl
    simp only[e1,Bool.not_true,cond_false,contains_eq (show(out++[v]).length≤1000000000 by omega),Option.bind_some]
    by_cases hin:u∈out++[v]
    ·simp only[any_eq.2 hin,cond_true]
     refine⟨out++[v],true,rfl,?_,fun _=>⟨out++[v],fun x hx=>hx,fun z hz=> ?_⟩,fun h=>by cases h⟩
     ·rw[hat,Option.bind_some,ht]
      rfl
     ·rcases List.mem_append.1 hz with hz | hz
      ·exact hinv z hz
      ·rw[List.mem_singleton.1 hz]
       exact⟨u,hin,ht⟩
    ·have hnot:((out++[v]).any fun x=>u.toList==x.toList)=false:=by
      rw[Bool.eq_false_iff,ne_eq,any_eq]
      exact hin
     simp only[hnot,cond_false,cL (show(out++[v]).length+[u].length≤68719476736 by simp;omega),Option.bind_some]
     obtain⟨way,b,h4,h5,h6,h7⟩:=ih (out++[v]) u (by omega) (List.mem_cons_of_mem _ hu2) hin (by omega) (fun z hz=>by
      rcases List.mem_append.1 hz with hz | hz
      ·obtain⟨w,hw,hw2⟩:=hinv z hz
       exact⟨w,by simp only[List.mem_append]at hw⊢;exact .inl hw,hw2⟩
      ·rw[List.mem_singleton.1 hz]
       exact⟨u,by simp,ht⟩)
     simp only[ji (show L.length≤1048577 by omega),Option.bind_some]at h4 h5
     refine⟨way,b,h4,h5,fun hb=> ?_,fun hb C hC hcl=> ?_⟩
     ·obtain⟨C,hC,hcl⟩:=h6 hb
      exact⟨C,fun x hx=>hC x (List.mem_append.2 (.inl hx)),hcl⟩
     ·obtain⟨w,hw,hw2⟩:=hcl v hC
      rw[ht]at hw2
      cases hw2
      exact h7 hb C hw hcl
 have h0:nI (p::L.map ay.Parent) []≤1048577:=by
  unfold nI
  have:=List.length_filter_le (fun v=> !(([]:List ByteArray).any fun x=>v.toList==x.toList)) (p::L.map ay.Parent)
  simp only[List.length_cons,List.length_map]at this
  omega
 obtain⟨way,b,h1,h2,h3,h4⟩:=key 1048577 [] p h0 List.mem_cons_self (by simp) (by simpa using h0) (by simp)
 refine⟨way,b,h1,h2,fun hb=> ?_,h4⟩
 obtain⟨C,hC,hcl⟩:=h3 hb
 exact⟨C,hC p (by simp),hcl⟩
theorem xQ{L:List ay}(hL:L.length≤1048576)(p:ByteArray)(y:Int):nc L p y=true↔ ∃C,p∈C∧Cl L y C:=by
 obtain⟨way,b,h1,h2,h3,h4⟩:=BR hL p y
 have:nc L p y=b:=by
  unfold nc dL
  rw[h1,Option.bind_some,h2]
  rfl
 rw[this]
 cases b
 ·exact⟨fun h=>(by cases h),fun⟨C,hC,hcl⟩=>absurd hcl (h4 rfl C hC)⟩
 ·exact⟨fun _=>h3 rfl,fun _=>rfl⟩
structure Nar (l x:ay):Prop where
 c:x.Child=l.Child
 p:x.Parent=l.Parent
 f:x.Years.From=l.Years.From
 t:x.Years.To≤l.Years.To
 s:x.Years.From≤x.Years.To
theorem xR{c:ByteArray}{y:Int}{l x:ay}(h:x∈mz c y l):Nar l x∧(x.Years.To≤y - 1∨((l.Child.toList==c.toList)=false∧(l.Parent.toList==c.toList)=false)):=by
 unfold mz at h
 cases hb:(l.Child.toList==c.toList) || (l.Parent.toList==c.toList)
 ·rw[hb]at h
  rw[Bool.or_eq_false_iff]at hb
  cases hd:decide (l.Years.From≤l.Years.To)<;>rw[hd]at h
  ·simp at h
  ·have:x=l:=by simpa using h
   rw[this]
   exact⟨⟨rfl,rfl,rfl,Int.le_refl _,of_decide_eq_true hd⟩,.inr hb⟩
 ·rw[hb]at h
  cases hd:decide (l.Years.From≤bM l.Years.To (y - 1))<;>rw[hd]at h
  ·simp at h
  ·have:x=ay.mk l.Child l.Parent (Span.mk l.Years.From (bM l.Years.To (y - 1))):=by simpa using h
   rw[this]
   have hm:bM l.Years.To (y - 1)≤l.Years.To∧bM l.Years.To (y - 1)≤y - 1:=by unfold bM;split<;>omega
   exact⟨⟨rfl,rfl,rfl,hm.1,of_decide_eq_true hd⟩,.inl hm.2⟩
theorem B5{c:ByteArray}{y:Int}{l x:ay}(h:x∈mA c y l):Nar l x:=by
 unfold mA py at h
 cases hb:(l.Child.toList==c.toList)&&cX y l.Years.From l.Years.To<;>rw[hb]at h
 ·cases hd:decide (l.Years.From≤l.Years.To)<;>simp only[cond_false]at h<;>rw[hd]at h
  ·simp at h
  ·have:x=l:=by simpa using h
   rw[this]
   exact⟨rfl,rfl,rfl,Int.le_refl _,of_decide_eq_true hd⟩
 ·rw[Bool.and_eq_true]at hb
  have hy:=bi.1 hb.2
  cases hd:decide (l.Years.From≤y - 1)<;>simp only[cond_true]at h<;>rw[hd]at h
  ·simp at h
  ·have:x=ay.mk l.Child l.Parent (Span.mk l.Years.From (y - 1)):=by simpa using h
   rw[this]
   exact⟨rfl,rfl,rfl,by show y - 1≤l.Years.To;omega,of_decide_eq_true hd⟩
theorem AX{l x:ay}(h:Nar l x)(hl:jr l=true):jr x=true:=by
 unfold jr ii at*
 simp only[Bool.and_eq_true,bi,decide_eq_true_eq]at*
 rw[h.c,h.p]
 refine⟨hl.1,hl.2.1,hl.2.2.1,?_,?_,h.s⟩
 ·have:=h.f
  omega
 ·have:=h.f
  have:=h.t
  have:=h.s
  omega
theorem Dh{l x:ay}(h:Nar l x){z:ByteArray}{t:Int}(hx:iZ z t x=true):iZ z t l=true:=by
 unfold iZ at*
 rw[Bool.and_eq_true,bi]at*
 have:=h.f
 have:=h.t
 rw[h.c]at hx
 exact⟨hx.1,by omega,by omega⟩
theorem Dm{L:List ay}(h:okL L=true){l m:ay}(hl:l∈L)(hm:m∈L){z:ByteArray}{t:Int}(h1:iZ z t l=true)(h2:iZ z t m=true):l=m:=by
 obtain⟨i,hi⟩:=List.mem_iff_getElem?.1 hl
 obtain⟨j,hj⟩:=List.mem_iff_getElem?.1 hm
 have meet: ∀{a b:ay},iZ z t a=true→iZ z t b=true→nu a b=true:=by
  intro a b ha hb
  unfold iZ at ha hb
  rw[Bool.and_eq_true,bi]at ha hb
  unfold nu
  rw[Bool.and_eq_true,Bool.and_eq_true,decide_eq_true_eq,decide_eq_true_eq]
  exact⟨kn.2 ((kn.1 hb.1).trans (kn.1 ha.1).symm),by omega,by omega⟩
 obtain⟨_,hp⟩:=rF.1 h
 rcases Nat.lt_trichotomy i j with hij | hij | hij
 ·have:=hp i j m l hij hi hj
  rw[meet h2 h1]at this
  cases this
 ·subst hij
  rw[hi]at hj
  exact Option.some.inj hj
 ·have:=hp j i l m hij hj hi
  rw[meet h1 h2]at this
  cases this
theorem A9{L:List ay}:okL L=true↔(∀x∈L,jr x=true)∧L.Pairwise fun z x=>nu x z=false:=by
 rw[rF,List.pairwise_iff_getElem]
 constructor
 ·rintro⟨h1,h2⟩
  exact⟨h1,fun i j hi hj hij=>h2 i j _ _ hij (List.getElem?_eq_getElem hi) (List.getElem?_eq_getElem hj)⟩
 ·rintro⟨h1,h2⟩
  refine⟨h1,fun i j x z hij hi hj=> ?_⟩
  obtain⟨hi',rfl⟩:=List.getElem?_eq_some_iff.1 hi
  obtain⟨hj',rfl⟩:=List.getElem?_eq_some_iff.1 hj
  exact h2 i j hi' hj' hij
theorem xi{L:List ay}(hL:dP L=true)(f:ay→List ay)(hf: ∀l,(f l).length≤1)(hn: ∀l,∀x∈f l,Nar l x):dP (L.flatMap f)=true:=by
 obtain⟨h1,h2,h3⟩:=mK hL
 have hlen:=kX f hf L
 obtain⟨g1,g2⟩:=A9.1 h1
 have hok:okL (L.flatMap f)=true:=by
  rw[A9]
  constructor
  ·intro x hx
   obtain⟨l,hl,hx⟩:=List.mem_flatMap.1 hx
   exact AX (hn l x hx) (g1 l hl)
  ·rw[List.pairwise_flatMap]
   refine⟨fun a _=> ?_,g2.imp fun{a b} hab x hx z hz=> ?_⟩
   ·have:=hf a
    cases hfa:f a with
    | nil=>exact List.Pairwise.nil
    | cons u v=>
     rw[hfa]at this
     cases v with
     | nil=>exact List.pairwise_singleton _ _
     | cons _ _=>simp at this
   ·have n1:=hn a x hx
    have n2:=hn b z hz
    rw[Bool.eq_false_iff]at hab⊢
    intro h
    apply hab
    unfold nu at*
    rw[n1.c,n2.c,Bool.and_eq_true,Bool.and_eq_true,decide_eq_true_eq,decide_eq_true_eq]at h
    rw[Bool.and_eq_true,Bool.and_eq_true,decide_eq_true_eq,decide_eq_true_eq]
    have:=n1.f
    have:=n1.t
    have:=n2.f
    have:=n2.t
    exact⟨h.1,by omega,by omega⟩
 unfold dP
 rw[hok,Bool.true_and,decide_eq_true (by omega),Bool.true_and,Bool.not_eq_true',Bool.eq_false_iff]
 intro hc
 rw[Bool.eq_false_iff]at h3
 apply h3
 unfold oF at*
 rw[List.any_eq_true]at hc⊢
 obtain⟨l',hl',hc⟩:=hc
 rw[List.any_eq_true]at hc
 obtain⟨m',hm',hc⟩:=hc
 obtain⟨l,hl,hll⟩:=List.mem_flatMap.1 hl'
 obtain⟨m,hm,hmm⟩:=List.mem_flatMap.1 hm'
 refine⟨l,hl,List.any_eq_true.2 ⟨m,hm,?_⟩⟩
 rw[(hn l l' hll).f,(hn m m' hmm).c,xQ (by omega)]at hc
 rw[xQ (by omega)]
 obtain⟨C,hC,hcl⟩:=hc
 refine⟨C,hC,fun z hz=> ?_⟩
 obtain⟨v,hv,hp⟩:=hcl z hz
 refine⟨v,hv,?_⟩
 obtain⟨a',ha',ha1,ha2⟩:=yM hp
 obtain⟨a,ha,haa⟩:=List.mem_flatMap.1 ha'
 have n:=hn a a' haa
 have ha3:=Dh n ha1
 unfold par
 cases hfd:L.find? (iZ z l.Years.From)with
 | none=>
  rw[List.find?_eq_none]at hfd
  exact absurd ha3 (hfd a ha)
 | some b=>
  have:=Dm h1 (List.mem_of_find?_eq_some hfd) ha (List.find?_some hfd) ha3
  rw[this,Option.map_some,←n.p,ha2]
theorem wv{L:List ay}{z:ByteArray}{t:Int}(f:ay→List ay)(h: ∀l,(f l=[]∧iZ z t l=false)∨ ∃x,f l=[x]∧iZ z t x=iZ z t l∧x.Parent=l.Parent):par (L.flatMap f) z t=par L z t:=by
 unfold par
 induction L with
 | nil=>rfl
 | cons l L ih=>
  rw[List.flatMap_cons]
  rcases h l with⟨h1,h2⟩ | ⟨x,h1,h2,h3⟩
  ·rw[h1,List.nil_append,ih,List.find?_cons,h2]
  ·rw[h1,List.singleton_append,List.find?_cons,List.find?_cons,h2]
   cases iZ z t l
   ·exact ih
   ·show some x.Parent=some l.Parent
    rw[h3]
theorem Bf{L:List ay}(c:ByteArray){y:Int}{z:ByteArray}{t:Int}(ht:t<y):par (L.flatMap (mz c y)) z t=par L z t:=by
 refine wv _ fun l=> ?_
 unfold mz iZ
 cases (l.Child.toList==c.toList) || (l.Parent.toList==c.toList)
 ·cases hd:decide (l.Years.From≤l.Years.To)
  ·left
   have:=of_decide_eq_false hd
   refine⟨rfl,?_⟩
   rw[show cX t l.Years.From l.Years.To=false from Bool.eq_false_iff.2 fun h=>by have:=bi.1 h;omega,Bool.and_false]
  ·exact .inr ⟨l,rfl,rfl,rfl⟩
 ·have hm:(bM l.Years.To (y - 1)=l.Years.To∧l.Years.To≤y - 1)∨(bM l.Years.To (y - 1)=y - 1∧y - 1<l.Years.To):=by unfold bM;split<;>omega
  cases hd:decide (l.Years.From≤bM l.Years.To (y - 1))
  ·left
   have:=of_decide_eq_false hd
   refine⟨rfl,?_⟩
   rw[show cX t l.Years.From l.Years.To=false from Bool.eq_false_iff.2 fun h=>by have:=bi.1 h;omega,Bool.and_false]
  ·refine .inr ⟨_,rfl,?_,rfl⟩
   dsimp only
   congr 1
   rw[Bool.eq_iff_iff,bi,bi]
   omega
theorem Bg{L:List ay}(c:ByteArray){y:Int}{z:ByteArray}{t:Int}(ht:t<y):par (L.flatMap (mA c y)) z t=par L z t:=by
 refine wv _ fun l=> ?_
 unfold mA py iZ
 cases hb:(l.Child.toList==c.toList)&&cX y l.Years.From l.Years.To
 ·simp only[cond_false]
  cases hd:decide (l.Years.From≤l.Years.To)
  ·left
   have:=of_decide_eq_false hd
   refine⟨rfl,?_⟩
   rw[show cX t l.Years.From l.Years.To=false from Bool.eq_false_iff.2 fun h=>by have:=bi.1 h;omega,Bool.and_false]
  ·exact .inr ⟨l,rfl,rfl,rfl⟩
 ·rw[Bool.and_eq_true,bi]at hb
  simp only[cond_true]
  cases hd:decide (l.Years.From≤y - 1)
  ·left
   have:=of_decide_eq_false hd
   refine⟨rfl,?_⟩
   rw[show cX t l.Years.From l.Years.To=false from Bool.eq_false_iff.2 fun h=>by have:=bi.1 h;omega,Bool.and_false]
  ·refine .inr ⟨_,rfl,?_,rfl⟩
   dsimp only
   congr 1
   rw[Bool.eq_iff_iff,bi,bi]
   omega
theorem Dq{L:List ay}(c o:ByteArray){y s:Int}{z:ByteArray}{t:Int}(ht:t<y):par (mvL L c o y s) z t=par L z t:=by
 rw[←Bg (L:=L) c ht]
 unfold mvL par
 rw[List.find?_append]
 have:iZ z t (ay.mk c o (Span.mk y (L.foldl (toL c y) s)))=false:=by
  unfold iZ
  rw[show cX t y (L.foldl (toL c y) s)=false from Bool.eq_false_iff.2 fun h=>by have:=bi.1 h;omega,Bool.and_false]
 rw[List.find?_singleton,this]
 simp
end Go.Proofs.YtdejeagdkfokfaaGreatDoor.Sh
namespace Go.Proofs.YtdejeagdkfokfaaGreatDoor.Sh
open Go.RowKit Go.Lib
theorem A5{α:Type}{p:Nat→α→Bool}{L:List α}(h: ∀(i:Nat) x,L[i]? =some x→p i x=false):(bZ p (fun _ _=>()) L 0).isSome=false:=by
 cases hf:(bZ p (fun _ _=>()) L 0).isSome with
 | false=>rfl
 | true=>
  have key: ∀(M:List α) (k:Nat),(bZ p (fun _ _=>()) M k).isSome=true→ ∃i x,M[i]? =some x∧p (k+i) x=true:=by
   intro M
   induction M with
   | nil=>intro k h;cases h
   | cons y M ih=>
    intro k h
    unfold bZ at h
    cases hb:p k y
    ·rw[hb,cond_false]at h
     obtain⟨i,x,h1,h2⟩:=ih (k+1) h
     exact⟨i+1,x,by simpa using h1,by rw[show k+(i+1)=k+1+i by omega];exact h2⟩
    ·exact⟨0,y,rfl,hb⟩
  obtain⟨i,x,h1,h2⟩:=key L 0 hf
  rw[Nat.zero_add,h i x h1]at h2
  cases h2
def fx(m n:Name):Prop:=((n.Status==0)&&kS n m)=false
theorem mN{L:List Name}:dZ L=true↔L.length≤12∧(∀n∈L,js n=true)∧L.Pairwise fx:=by
 unfold dZ
 rw[Bool.and_eq_true,Bool.not_eq_true',decide_eq_true_eq]
 constructor
 ·rintro⟨h,hl⟩
  have hb: ∀(i:Nat) x,L[i]? =some x→pV L i x=false:=fun i x hx=>by
   have:=nN h i x hx
   rwa [Nat.zero_add]at this
  refine⟨hl,fun n hn=> ?_,?_⟩
  ·obtain⟨i,hi⟩:=List.mem_iff_getElem?.1 hn
   have:=hb i n hi
   unfold pV at this
   rw[Bool.or_eq_false_iff,Bool.not_eq_false']at this
   exact this.1
  ·rw[List.pairwise_iff_getElem]
   intro i j hi hj hij
   have:=hb j _ (List.getElem?_eq_getElem hj)
   unfold pV at this
   rw[Bool.or_eq_false_iff]at this
   unfold fx
   cases hst:(L[j].Status==0)
   ·rfl
   ·rw[hst,Bool.true_and]at this
    rw[Bool.true_and]
    have h2:=List.any_eq_false.1 this.2 L[i] (by
     have h4:(L.take j)[i]? =some L[i]:=by rw[List.getElem?_take_of_lt hij];exact List.getElem?_eq_getElem hi
     exact List.mem_of_getElem? h4)
    simpa using h2
 ·rintro⟨hl,hn,hp⟩
  refine⟨A5 fun i x hx=> ?_,hl⟩
  unfold pV
  rw[hn x (List.mem_of_getElem? hx),Bool.not_true,Bool.false_or]
  cases hst:(x.Status==0)
  ·rfl
  ·rw[Bool.true_and,List.any_eq_false]
   intro m hm hc
   obtain⟨k,hk⟩:=List.mem_iff_getElem?.1 hm
   have hkl:=(List.getElem?_eq_some_iff.1 hk).1
   rw[List.length_take]at hkl
   rw[List.getElem?_take_of_lt (by omega)]at hk
   obtain⟨hi,rfl⟩:=List.getElem?_eq_some_iff.1 hx
   obtain⟨hk1,rfl⟩:=List.getElem?_eq_some_iff.1 hk
   have:=List.pairwise_iff_getElem.1 hp k i hk1 hi (by omega)
   unfold fx at this
   rw[hst,hc]at this
   cases this
theorem w3{y:Int}{n x:Name}(h:x∈lX y n):n.Years.From<y∧x=Name.mk n.Text n.Language n.Status (Span.mk n.Years.From (bM n.Years.To (y - 1))):=by
 unfold lX at h
 cases hd:decide (n.Years.From<y)
 ·rw[hd]at h;simp at h
 ·rw[hd]at h
  exact⟨by simpa using hd,by simpa using h⟩
theorem pw{a b:Int}:bM a b≤a∧bM a b≤b∧(bM a b=a∨bM a b=b):=by
 unfold bM
 split<;>omega
theorem An{y:Int}{m n x z:Name}(hx:x∈lX y m)(hz:z∈lX y n)(h:fx m n):fx x z:=by
 obtain⟨_,rfl⟩:=w3 hx
 obtain⟨_,rfl⟩:=w3 hz
 unfold fx kS at*
 rw[Bool.eq_false_iff]at h⊢
 intro hc
 apply h
 simp only[Bool.and_eq_true,decide_eq_true_eq]at hc⊢
 have h1:=(pw (a:=m.Years.To) (b:=y - 1)).1
 have h2:=(pw (a:=n.Years.To) (b:=y - 1)).1
 obtain⟨q1,q2,q3,q4,q5⟩:=hc
 exact⟨q1,q2,q3,by omega,by omega⟩
theorem tK{y:Int}: ∀{L:List Name},L.Pairwise fx→(L.flatMap (lX y)).Pairwise fx
 | [],_=>by simp
 | n::L,h=>by
  have h1:=List.pairwise_cons.1 h
  rw[List.flatMap_cons]
  refine List.pairwise_append.2 ⟨?_,tK h1.2,fun a ha b hb=> ?_⟩
  ·have:=nd y n
   cases hc:lX y n with
   | nil=>exact List.Pairwise.nil
   | cons a l=>
    rw[hc,List.length_cons]at this
    have hl:l=[]:=List.length_eq_zero_iff.1 (by omega)
    rw[hl]
    exact List.pairwise_singleton ..
  ·obtain⟨m,hm,hb⟩:=List.mem_flatMap.1 hb
   exact An ha hb (h1.1 m hm)
theorem y9{p:Place}(h:ea p=true){y:Int}(hy:cX y (-3000) 3000=true)(hh:cX (y - 1) p.Years.From p.Years.To=true):ea (ln y p)=true:=by
 unfold ea at h⊢
 simp only[Bool.and_eq_true]at h
 obtain⟨h1,h2,h3,h4,h5⟩:=h
 obtain⟨n1,n2,n3⟩:=mN.1 h4
 rw[bi]at hy hh
 unfold ii at h3
 simp only[Bool.and_eq_true,bi,decide_eq_true_eq]at h3
 have hs:ii (ln y p).Years=true:=by
  unfold ii
  show(cX p.Years.From (-3000) 3000&&(cX (y - 1) (-3000) 3000&&decide (p.Years.From≤y - 1)))=true
  simp only[Bool.and_eq_true,bi,decide_eq_true_eq]
  omega
 have hlen:(p.Names.flatMap (lX y)).length≤p.Names.length:=kX _ (nd y) _
 have hnm: ∀x∈p.Names.flatMap (lX y),js x=true∧gD (ln y p) x=true:=fun x hx=>by
  obtain⟨n,hn,hx⟩:=List.mem_flatMap.1 hx
  obtain⟨hlt,rfl⟩:=w3 hx
  have q1:=n2 n hn
  have q2:=List.all_eq_true.1 h5 n hn
  unfold js ii at q1
  unfold gD at q2
  simp only[Bool.and_eq_true,bi,decide_eq_true_eq]at q1 q2
  have hm:=pw (a:=n.Years.To) (b:=y - 1)
  constructor
  ·unfold js ii
   simp only[Bool.and_eq_true,bi,decide_eq_true_eq]
   refine⟨q1.1,q1.2.1,q1.2.2.1,?_,?_,?_⟩<;>omega
  ·unfold gD
   show(decide (p.Years.From≤n.Years.From)&&decide (bM n.Years.To (y - 1)≤y - 1))=true
   simp only[Bool.and_eq_true,decide_eq_true_eq]
   omega
 have hn:dZ (ln y p).Names=true:=mN.2 ⟨by show(p.Names.flatMap (lX y)).length≤12;omega,fun x hx=>(hnm x hx).1,tK n3⟩
 have ha:(ln y p).Names.all (gD (ln y p))=true:=List.all_eq_true.2 fun x hx=>(hnm x hx).2
 rw[hs,hn,ha]
 show(cg p.Code&&(cX p.Class 0 19&&(true&&(true&&true))))=true
 rw[h1,h2]
 rfl
theorem sz(L:List Name)(hL:L.length≤1048576):gJ L L=some true:=by
 unfold gJ
 rw[bne_self_eq_false,cond_false,gh (by omega) (fun _=>false) false (fun i x hx=>by
  rw[bk,hx]
  simp)]
 have:(L.any fun _=>false)=false:=by simp
 rw[this]
 rfl
theorem q9(L:List Place)(hL:L.length≤1048576)(h: ∀x∈L,PlR x):gg L L=some true:=by
 unfold gg
 rw[bne_self_eq_false,cond_false,gh (by omega) (fun _=>false) false (fun i x hx=>by
  have hat:at' L (i:Int)=some x:=by rw[bk,hx]
  simp only[hat,Option.bind_some,beq_self_eq_true,Bool.not_true,cond_false,bne_self_eq_false,Bool.and_self,sz x.Names (h x (List.mem_of_getElem? hx)).l])]
 have:(L.any fun _=>false)=false:=by simp
 rw[this]
 rfl
def nH(t:Int)(p:Place):List ByteArray:=(p.Names.filter (dX t)).map Name.Text
def sig(t:Int)(p:Place):ByteArray×Bool×List ByteArray:=(p.Code,cX t p.Years.From p.Years.To,nH t p)
structure Kp (y:Int) (W V:World):Prop where
 ok:dq V=true
 s: ∀t,t<y→V.Places.map (sig t)=W.Places.map (sig t)
 p: ∀t,t<y→ ∀z,par V.Links z t=par W.Links z t
theorem Kp.trans{y:Int}{W V U:World}(h:Kp y W V)(k:Kp y V U):Kp y W U:=⟨k.ok,fun t ht=>(k.s t ht).trans (h.s t ht),fun t ht z=>(k.p t ht z).trans (h.p t ht z)⟩
theorem wb{P:List Place}{c:ByteArray}{s s':Span}(h:ku P c s=true)(hf:s.From≤s'.From)(ht:s'.To≤s.To):ku P c s'=true:=by
 unfold ku at*
 cases hp:P.find? (bu c)with
 | none=>
  rw[hp]at h
  cases h
 | some p=>
  rw[hp]at h
  simp only[Bool.and_eq_true,decide_eq_true_eq]at*
  omega
theorem yI{P:List Place}{c:ByteArray}{p:Place}(hp:P.find? (bu c)=some p){s:Span}(h1:p.Years.From≤s.From)(h2:s.To≤p.Years.To):ku P c s=true:=by
 unfold ku
 rw[hp]
 simp only[Bool.and_eq_true,decide_eq_true_eq]
 exact⟨h1,h2⟩
theorem mI{P:List Place}{l:ay}:inW P l=true↔ku P l.Child l.Years=true∧ku P l.Parent l.Years=true:=by
 unfold inW
 rw[Bool.and_eq_true]
theorem yF{P:List Place}{l x:ay}(h:Nar l x)(hl:inW P l=true):inW P x=true:=by
 rw[mI]at*
 have:=h.f
 have:=h.t
 rw[h.c,h.p]
 exact⟨wb hl.1 (by omega) (by omega),wb hl.2 (by omega) (by omega)⟩
theorem zx{L:List ay}(h:(mvC L==0)=true):dP L=true:=by
 unfold mvC at h
 cases hd:decide ((L.length:Int)>20)
 ·cases hl:dP L
  ·rw[hd,hl]at h
   cases h
  ·rfl
 ·rw[hd]at h
  cases h
theorem BF(c:ByteArray)(y:Int): ∀(L:List ay) (t:Int),L.foldl (toL c y) t≤t
 | [],t=>Int.le_refl _
 | l::L,t=>by
  rw[List.foldl_cons]
  refine Int.le_trans (BF c y L _) ?_
  unfold toL
  cases (l.Child.toList==c.toList)&&decide (l.Years.From>y)
  ·exact Int.le_refl _
  ·exact pw.1
theorem yH{P:List Place}{L:List ay}(hw:dq (World.mk P L)=true){c o:ByteArray}{p q:Place}(hp:P.find? (bu c)=some p)(hq:P.find? (bu o)=some q){y:Int}(hyp:cX y p.Years.From p.Years.To=true)(hyq:cX y q.Years.From q.Years.To=true)(hm:(mvC (mvL L c o y (bM p.Years.To q.Years.To))==0)=true):Kp y (World.mk P L) (World.mk P (mvL L c o y (bM p.Years.To q.Years.To))):=by
 obtain⟨h1,h2,h3⟩:=ed.1 hw
 have hyp:=bi.1 hyp
 have hyq:=bi.1 hyq
 refine⟨ed.2 ⟨h1,zx hm,fun x hx=> ?_⟩,fun t _=>rfl,fun t ht z=>Dq c o ht⟩
 have hx:x∈L.flatMap (mA c y)++[ay.mk c o (Span.mk y (L.foldl (toL c y) (bM p.Years.To q.Years.To)))]:=hx
 rcases List.mem_append.1 hx with hx | hx
 ·obtain⟨l,hl,hx⟩:=List.mem_flatMap.1 hx
  exact yF (B5 hx) (h3 l hl)
 ·rw[List.mem_singleton.1 hx,mI]
  have h4:=BF c y L (bM p.Years.To q.Years.To)
  have h5:=pw (a:=p.Years.To) (b:=q.Years.To)
  exact⟨yI hp hyp.1 (Int.le_trans h4 h5.1),yI hq hyq.1 (Int.le_trans h4 h5.2.1)⟩
theorem AV{P:List Place}{q:Place}{o:ByteArray}{y:Int}(hq:P.find? (bu o)=some q)(hyq:cX y q.Years.From q.Years.To=true): ∀(ks:List ByteArray) (L M:List ay),dq (World.mk P L)=true→(∀k∈ks,∃p,P.find? (bu k)=some p∧cX y p.Years.From p.Years.To=true)→runK P q o y ks L= .inl M→Kp y (World.mk P L) (World.mk P M)
 | [],L,M,hw,_,h=>by
  unfold runK at h
  cases h
  exact⟨hw,fun _ _=>rfl,fun _ _ _=>rfl⟩
 | k::ks,L,M,hw,hk,h=>by
  obtain⟨p,hp,hyp⟩:=hk k (by simp)
  unfold runK at h
  cases hne:k.toList==o.toList
  ·rw[hne,cond_false,hp]at h
   simp only at h
   cases he:mvC (mvL L k o y (bM p.Years.To q.Years.To))==0
   ·rw[he,cond_false]at h
    cases h
   ·rw[he,cond_true]at h
    have h1:=yH hw hp hq hyp hyq he
    exact h1.trans (AV hq hyq ks _ M h1.ok (fun k hk'=>hk k (by simp[hk'])) h)
  ·rw[hne,cond_true]at h
   cases h
theorem mM{α β:Type}(f:α→β){L:List α}{k:Nat}{p p':α}(h:L[k]? =some p)(e:f p'=f p):(L.set k p').map f=L.map f:=by
 induction L generalizing k with
 | nil=>rfl
 | cons a l ih=>
  cases k with
  | zero=>
   have:a=p:=by simpa using h
   rw[List.set_cons_zero,List.map_cons,List.map_cons,e,this]
  | succ k=>rw[List.set_cons_succ,List.map_cons,List.map_cons,ih (by simpa using h)]
theorem r7{c:ByteArray}{p p' r:Place}(hc:p'.Code=p.Code): ∀{P:List Place} {k:Nat},P[k]? =some p→P.find? (bu c)=some r→(P.set k p').find? (bu c)=some r∨((P.set k p').find? (bu c)=some p'∧r=p∧bu c p=true)
 | [],_,h,_=>by simp at h
 | a::l,0,h,hr=>by
  have ha:a=p:=by simpa using h
  subst ha
  have he:bu c p'=bu c a:=by unfold bu;rw[hc]
  rw[List.set_cons_zero,List.find?_cons,he]
  rw[List.find?_cons]at hr
  cases hca:bu c a
  ·rw[hca]at hr
   exact .inl hr
  ·rw[hca]at hr
   exact .inr ⟨rfl,(Option.some.inj hr).symm,rfl⟩
 | a::l,k+1,h,hr=>by
  rw[List.set_cons_succ,List.find?_cons]
  rw[List.find?_cons]at hr
  cases hca:bu c a
  ·rw[hca]at hr
   exact r7 hc (by simpa using h) hr
  ·rw[hca]at hr
   exact .inl hr
theorem yO{P:List Place}(h:ja P=true){k:Nat}{p p':Place}(hk:P[k]? =some p)(hc:p'.Code=p.Code)(hp:ea p'=true):ja (P.set k p')=true:=by
 obtain⟨h1,h2,h3⟩:=gL.1 h
 refine gL.2 ⟨?_,fun x hx=> ?_,by rw[List.length_set];exact h3⟩
 ·rw[nz]at h1⊢
  have e:=mM Place.Code hk hc
  have h4:(P.map Place.Code).Pairwise fun x y=>fY x y=true:=List.pairwise_map.2 h1
  rw[←e]at h4
  exact List.pairwise_map.1 h4
 ·rcases List.mem_or_eq_of_mem_set hx with hx | rfl
  ·exact h2 x hx
  ·exact hp
theorem ub(y t:Int)(ht:t<y): ∀L:List Name,((L.flatMap (lX y)).filter (dX t)).map Name.Text=(L.filter (dX t)).map Name.Text
 | []=>rfl
 | n::l=>by
  rw[List.flatMap_cons,List.filter_append,List.map_append,ub y t ht l,List.filter_cons]
  unfold lX
  cases hd:decide (n.Years.From<y)
  ·have:=of_decide_eq_false hd
   rw[show dX t n=false from Bool.eq_false_iff.2 fun h=>by have:=bi.1 h;omega]
   rfl
  ·have hd:=of_decide_eq_true hd
   have hm:(bM n.Years.To (y - 1)=n.Years.To∧n.Years.To≤y - 1)∨(bM n.Years.To (y - 1)=y - 1∧y - 1<n.Years.To):=by unfold bM;split<;>omega
   have:dX t (Name.mk n.Text n.Language n.Status (Span.mk n.Years.From (bM n.Years.To (y - 1))))=dX t n:=by
    unfold dX
    rw[Bool.eq_iff_iff,bi,bi]
    dsimp only
    omega
   rw[cond_true,List.filter_cons,this]
   cases dX t n<;>rfl
theorem Dw{p:Place}{y t:Int}(ht:t<y)(hh:cX (y - 1) p.Years.From p.Years.To=true):sig t (ln y p)=sig t p:=by
 have hh:=bi.1 hh
 unfold sig nH ln
 rw[ub y t ht]
 congr 2
 rw[Bool.eq_iff_iff,bi,bi]
 dsimp only
 omega
theorem AU{P:List Place}{M:List ay}(hw:dq (World.mk P M)=true){k:Nat}{p:Place}(hk:P[k]? =some p){c:ByteArray}(hcp:bu c p=true){y:Int}(hy:cX y (-2999) 3000=true)(hh:cX (y - 1) p.Years.From p.Years.To=true):Kp y (World.mk P M) (World.mk (P.set k (ln y p)) (M.flatMap (mz c y))):=by
 obtain⟨h1,h2,h3⟩:=ed.1 hw
 obtain⟨_,hpl,_⟩:=gL.1 h1
 have hy':cX y (-3000) 3000=true:=by
  obtain⟨a,b⟩:=bi.1 hy
  exact bi.2 ⟨by omega,b⟩
 refine⟨ed.2 ⟨yO h1 hk rfl (y9 (hpl p (List.mem_of_getElem? hk)) hy' hh),xi h2 _ (o5 c y) (fun l x hx=>(xR hx).1),fun x hx=> ?_⟩,fun t ht=>mM (sig t) hk (Dw ht hh),fun t ht z=>Bf c ht⟩
 obtain⟨l,hl,hx⟩:=List.mem_flatMap.1 hx
 obtain⟨hn,hor⟩:=xR hx
 have hi:=mI.1 (yF hn (h3 l hl))
 have side: ∀z:ByteArray,ku P z x.Years=true→(x.Years.To≤y - 1∨(z.toList==c.toList)=false)→ku (P.set k (ln y p)) z x.Years=true:=by
  intro z hz hzo
  obtain⟨r,hr⟩:=nQ hz
  rcases r7 (p:=p) (p':=ln y p) (r:=r) rfl hk hr with e | ⟨e,rfl,e3⟩
  ·unfold ku at hz⊢
   rw[e]
   rw[hr]at hz
   exact hz
  ·unfold ku at hz⊢
   rw[e]
   rw[hr]at hz
   simp only[Bool.and_eq_true,decide_eq_true_eq]at hz⊢
   refine⟨hz.1,?_⟩
   show x.Years.To≤y - 1
   rcases hzo with h | h
   ·exact h
   ·unfold bu at e3 hcp
    rw[←kn.1 e3,hcp]at h
    cases h
 rw[mI,hn.c,hn.p]at*
 exact⟨side _ hi.1 (hor.imp id fun h=>h.1),side _ hi.2 (hor.imp id fun h=>h.2)⟩
end Go.Proofs.YtdejeagdkfokfaaGreatDoor.Sh
namespace Go.Proofs.YtdejeagdkfokfaaGreatDoor.Sh
open Go.RowKit Go.Lib
def Ov(m n:Name):Prop:=n.Status=0∧m.Status=0∧m.Language=n.Language∧m.Years.From≤n.Years.To∧n.Years.From≤m.Years.To
theorem lb{m n:Name}:fx m n↔ ¬Ov m n:=by
 unfold fx kS Ov
 rw[Bool.eq_false_iff]
 refine not_congr ?_
 rw[Bool.and_eq_true,Bool.and_eq_true,Bool.and_eq_true,Bool.and_eq_true,kn,decide_eq_true_eq,decide_eq_true_eq,beq_iff_eq,beq_iff_eq]
theorem Ov.symm{m n:Name}(h:Ov m n):Ov n m:=⟨h.2.1,h.1,h.2.2.1.symm,h.2.2.2.2,h.2.2.2.1⟩
theorem Ov.wide{m x z:Name}(h:Ov m z)(h1:z.Status=x.Status)(h2:z.Language=x.Language)(h3:x.Years.From≤z.Years.From)(h4:z.Years.To≤x.Years.To):Ov m x:=by
 obtain⟨a,b,c,d,e⟩:=h
 exact⟨h1▸a,b,h2▸c,by omega,by omega⟩
theorem fx.nar{m x z:Name}(h:fx m x)(h1:z.Status=x.Status)(h2:z.Language=x.Language)(h3:x.Years.From≤z.Years.From)(h4:z.Years.To≤x.Years.To):fx m z:=lb.2 fun k=>lb.1 h (k.wide h1 h2 h3 h4)
theorem fx.sym{m n:Name}(h:fx m n):fx n m:=lb.2 fun k=>lb.1 h k.symm
theorem zF{L:List Name}{c t:ByteArray}{y:Int}(h:(m5 L c y t).2=0): ∃k x,L[k]? =some x∧fG c y x=true∧(m5 L c y t).1=gZ L k x y++[hG x y t]∧(gZ L k x y++[hG x y t]).length≤12∧dA t=true∧dZ L=true:=by
 unfold m5 at*
 cases hp:dA t
 ·rw[hp]at h
  cases h
 rw[hp,cond_true]at h
 rw[cond_true]
 cases hz:kT L c y==0
 ·rw[hz,cond_false]at h
  have h:kT L c y=0:=h
  rw[h]at hz
  cases hz
 rw[hz,cond_true]at h
 rw[cond_true]
 cases hx:L[(cK (fG c y) L).toNat]? with
 | none=>
  rw[hx]at h
  cases h
 | some x=>
  rw[hx]at h
  dsimp only at h⊢
  cases hd:decide (cK (fG c y) L<0)
  ·rw[hd,cond_false]at h
   rw[cond_false]
   cases hg:decide ((gZ L (cK (fG c y) L).toNat x y++[hG x y t]).length>12)
   ·have hi:=of_decide_eq_false hd
    have hg:=of_decide_eq_false hg
    obtain⟨k,hk⟩:=Int.eq_ofNat_of_zero_le (show 0≤cK (fG c y) L by omega)
    obtain⟨x',hx',ho⟩:=pe (fG c y) hk
    rw[hk]at hx hg⊢
    simp only[Int.toNat_natCast]at hx hg⊢
    rw[hx]at hx'
    cases hx'
    exact⟨k,x,hx,ho,rfl,by omega,trivial,(rW hz).1⟩
   ·rw[hg]at h
    cases h
  ·rw[hd]at h
   cases h
theorem wc{α:Type}{L:List α}{k:Nat}{x:α}(h:L[k]? =some x):L=L.take k++x::L.drop (k+1):=by
 obtain⟨hk,rfl⟩:=List.getElem?_eq_some_iff.1 h
 conv=>lhs;rw[←List.take_append_drop k L]
 rw[List.drop_eq_getElem_cons hk]
def ui(x:Name)(y:Int):List Name:=bif x.Years.From==y then[]else[Name.mk x.Text x.Language x.Status (Span.mk x.Years.From (y - 1))]
theorem zG{L:List Name}{k:Nat}{x:Name}(hx:L[k]? =some x){c t:ByteArray}{y:Int}(ho:fG c y x=true)(hl:(gZ L k x y++[hG x y t]).length≤12)(ht:dA t=true)(hn:dZ L=true):dZ (gZ L k x y++[hG x y t])=true:=by
 obtain⟨_,h1,h2⟩:=mN.1 hn
 have hxm:=h1 x (List.mem_of_getElem? hx)
 unfold fG dX at ho
 rw[Bool.and_eq_true,Bool.and_eq_true,beq_iff_eq,bi]at ho
 obtain⟨⟨hst,hlg⟩,hy⟩:=ho
 have hxn:js x=true:=hxm
 unfold js ii at hxm
 simp only[Bool.and_eq_true,bi,decide_eq_true_eq]at hxm
 have hm: ∀z∈ui x y,z.Status=x.Status∧z.Language=x.Language∧x.Years.From≤z.Years.From∧z.Years.To≤x.Years.To∧z.Years.To≤y - 1∧js z=true:=by
  intro z hz
  unfold ui at hz
  cases hb:x.Years.From==y
  ·rw[hb]at hz
   have hb:x.Years.From≠y:=by simpa using hb
   have:z=Name.mk x.Text x.Language x.Status (Span.mk x.Years.From (y - 1)):=by simpa using hz
   rw[this]
   refine⟨rfl,rfl,Int.le_refl _,by show y - 1≤x.Years.To;omega,Int.le_refl _,?_⟩
   unfold js ii
   simp only[Bool.and_eq_true,bi,decide_eq_true_eq]
   exact⟨hxm.1,hxm.2.1,hxm.2.2.1,hxm.2.2.2.1,⟨by omega,by omega⟩,by omega⟩
  ·rw[hb]at hz
   simp at hz
 have hw:js (hG x y t)=true:=by
  unfold hG js ii
  simp only[Bool.and_eq_true,bi,decide_eq_true_eq]
  exact⟨ht,hxm.2.1,⟨by omega,by omega⟩,⟨by omega,by omega⟩,hxm.2.2.2.2.1,hy.2⟩
 have e:gZ L k x y=L.take k++ui x y++L.drop (k+1):=rfl
 rw[wc hx,List.pairwise_append,List.pairwise_cons]at h2
 obtain⟨pA,⟨pxB,pB⟩,pAB⟩:=h2
 have pAx: ∀a∈L.take k,fx a x:=fun a ha=>pAB a ha x (by simp)
 have sub: ∀m,m∈L.take k∨m∈L.drop (k+1)→fx m x∧m∈L:=by
  rintro m (h | h)
  ·exact⟨pAx m h,List.mem_of_mem_take h⟩
  ·exact⟨(pxB m h).sym,List.mem_of_mem_drop h⟩
 refine mN.2 ⟨hl,fun n hnm=> ?_,?_⟩
 ·rw[e]at hnm
  rcases List.mem_append.1 hnm with hnm | hnm
  ·rcases List.mem_append.1 hnm with hnm | hnm
   ·rcases List.mem_append.1 hnm with hnm | hnm
    ·exact h1 n (List.mem_of_mem_take hnm)
    ·exact(hm n hnm).2.2.2.2.2
   ·exact h1 n (List.mem_of_mem_drop hnm)
  ·rw[List.mem_singleton.1 hnm]
   exact hw
 ·rw[e,List.pairwise_append,List.pairwise_append,List.pairwise_append]
  refine⟨⟨⟨pA,?_,fun a ha z hz=> ?_⟩,pB,fun a ha b hb=> ?_⟩,List.pairwise_singleton _ _,fun a ha w hwm=> ?_⟩
  ·unfold ui
   cases x.Years.From==y
   ·exact List.pairwise_singleton _ _
   ·exact List.Pairwise.nil
  ·obtain⟨a1,a2,a3,a4,_,_⟩:=hm z hz
   exact(pAx a ha).nar a1 a2 a3 a4
  ·rcases List.mem_append.1 ha with ha | ha
   ·exact pAB a ha b (by simp[hb])
   ·obtain⟨a1,a2,a3,a4,_,_⟩:=hm a ha
    exact((pxB b hb).sym.nar a1 a2 a3 a4).sym
  ·rw[List.mem_singleton.1 hwm]
   have nar: ∀m,fx m x→fx m (hG x y t):=fun m h=>h.nar hst.symm rfl hy.1 (Int.le_refl _)
   rcases List.mem_append.1 ha with ha | ha
   ·rcases List.mem_append.1 ha with ha | ha
    ·exact nar a (pAx a ha)
    ·obtain⟨_,_,_,_,a5,_⟩:=hm a ha
     refine lb.2 fun h=> ?_
     have:(hG x y t).Years.From≤a.Years.To:=h.2.2.2.2
     have:y≤a.Years.To:=this
     omega
   ·exact nar a (pxB a ha).sym
theorem yz{α:Type}(p:α→Bool)(a:α):[a].filter p=bif p a then[a]else[]:=by
 cases h:p a<;>simp[h]
theorem zH{L:List Name}{k:Nat}{x:Name}(hx:L[k]? =some x)(txt:ByteArray){y t:Int}(hy:x.Years.From≤y∧y≤x.Years.To)(ht:t<y):((gZ L k x y++[hG x y txt]).filter (dX t)).map Name.Text=(L.filter (dX t)).map Name.Text:=by
 have e:gZ L k x y=L.take k++ui x y++L.drop (k+1):=rfl
 have hw:dX t (hG x y txt)=false:=Bool.eq_false_iff.2 fun h=>by
  have:y≤t:=(bi.1 h).1
  omega
 have hc:((ui x y).filter (dX t)).map Name.Text=([x].filter (dX t)).map Name.Text:=by
  unfold ui
  cases hb:x.Years.From==y
  ·have hb:x.Years.From≠y:=by simpa using hb
   have:dX t (Name.mk x.Text x.Language x.Status (Span.mk x.Years.From (y - 1)))=dX t x:=by
    unfold dX
    rw[Bool.eq_iff_iff,bi,bi]
    dsimp only
    omega
   rw[cond_false,yz,yz,this]
   cases dX t x<;>rfl
  ·have hb:x.Years.From=y:=by simpa using hb
   have:dX t x=false:=Bool.eq_false_iff.2 fun h=>by have:=bi.1 h;omega
   rw[cond_true,yz,this]
   rfl
 conv=>rhs;rw[wc hx,List.filter_append,List.map_append,←List.singleton_append,List.filter_append,List.map_append,←hc]
 rw[e,List.filter_append,List.filter_append,List.filter_append,List.map_append,List.map_append,List.map_append,yz,hw]
 simp
theorem zh{P:List Place}{L:List ay}(hw:dq (World.mk P L)=true){k:Nat}{p:Place}(hk:P[k]? =some p){c t:ByteArray}{y:Int}(h:(m5 p.Names c y t).2=0):Kp y (World.mk P L) (World.mk (P.set k (Place.mk p.Code p.Class p.Years (m5 p.Names c y t).1)) L):=by
 obtain⟨h1,h2,h3⟩:=ed.1 hw
 obtain⟨_,hpl,_⟩:=gL.1 h1
 have hp:=hpl p (List.mem_of_getElem? hk)
 obtain⟨j,x,hx,ho,e,hl,ht,hn⟩:=zF h
 rw[e]
 unfold ea at hp
 simp only[Bool.and_eq_true]at hp
 obtain⟨a1,a2,a3,a4,a5⟩:=hp
 have hxw:=List.all_eq_true.1 a5 x (List.mem_of_getElem? hx)
 have hy:=ho
 unfold fG dX at hy
 rw[Bool.and_eq_true,bi]at hy
 have hy:=hy.2
 refine⟨ed.2 ⟨yO h1 hk rfl ?_,h2,fun l hl=> ?_⟩,fun t ht=>mM (sig t) hk ?_,fun _ _ _=>rfl⟩
 ·unfold ea
  simp only[Bool.and_eq_true]
  refine⟨a1,a2,a3,zG hx ho hl ht hn,List.all_eq_true.2 fun n hnm=> ?_⟩
  unfold gD at hxw⊢
  rw[Bool.and_eq_true,decide_eq_true_eq,decide_eq_true_eq]at hxw
  have hall:=fun n hn=>List.all_eq_true.1 a5 n hn
  unfold gD at hall
  dsimp only
  rcases List.mem_append.1 hnm with hnm | hnm
  ·have hnm:n∈p.Names.take j++ui x y++p.Names.drop (j+1):=hnm
   rcases List.mem_append.1 hnm with hnm | hnm
   ·rcases List.mem_append.1 hnm with hnm | hnm
    ·exact hall n (List.mem_of_mem_take hnm)
    ·unfold ui at hnm
     cases hb:x.Years.From==y
     ·rw[hb]at hnm
      have:n=Name.mk x.Text x.Language x.Status (Span.mk x.Years.From (y - 1)):=by simpa using hnm
      rw[this,Bool.and_eq_true,decide_eq_true_eq,decide_eq_true_eq]
      exact⟨hxw.1,by show y - 1≤p.Years.To;omega⟩
     ·rw[hb]at hnm
      simp at hnm
   ·exact hall n (List.mem_of_mem_drop hnm)
  ·rw[List.mem_singleton.1 hnm,Bool.and_eq_true,decide_eq_true_eq,decide_eq_true_eq]
   exact⟨by show p.Years.From≤y;omega,hxw.2⟩
 ·have hi:=mI.1 (h3 l hl)
  have side: ∀z:ByteArray,ku P z l.Years=true→ku (P.set k (Place.mk p.Code p.Class p.Years (gZ p.Names j x y++[hG x y t]))) z l.Years=true:=by
   intro z hz
   obtain⟨r,hr⟩:=nQ hz
   rcases r7 (p:=p) (p':=Place.mk p.Code p.Class p.Years (gZ p.Names j x y++[hG x y t])) (r:=r) rfl hk hr with e | ⟨e,rfl,_⟩
   ·unfold ku at hz⊢
    rw[e]
    rw[hr]at hz
    exact hz
   ·unfold ku at hz⊢
    rw[e]
    rw[hr]at hz
    exact hz
  exact mI.2 ⟨side _ hi.1,side _ hi.2⟩
 ·unfold sig nH
  dsimp only
  rw[zH hx _ hy ht]
theorem zg{W:World}(hw:dq W=true)(c:ByteArray)(y:Int): ∀k∈(kD W.Links c y).1,∃p,W.Places.find? (bu k)=some p∧cX y p.Years.From p.Years.To=true:=by
 obtain⟨_,h1,h2⟩:=ed.1 hw
 unfold kD
 cases mV W.Links c y==0
 ·exact fun k hk=>by simp at hk
 ·rw[cond_true]
  unfold kids
  intro k hk
  have hk:=nA.1 hk
  obtain⟨l,hl,rfl⟩:=List.mem_map.1 hk
  have hl:=List.mem_filter.1 hl
  have h3:=(mI.1 (h2 l hl.1)).1
  obtain⟨p,hp⟩:=nQ h3
  refine⟨p,hp,?_⟩
  unfold ku at h3
  rw[hp]at h3
  simp only[Bool.and_eq_true,decide_eq_true_eq]at h3
  have h4:=hl.2
  unfold uI at h4
  rw[Bool.and_eq_true,bi]at h4
  exact bi.2 ⟨by omega,by omega⟩
theorem vK{P:List Place}{M:List ay}(h:td P M){c:ByteArray}{p:Place}(hp:P.find? (bu c)=some p){y:Int}(hy:cX y (-2999) 3000=true): ∃k,P[k]? =some p∧bu c p=true∧dN (World.mk P M) c y=some (World.mk (P.set k (ln y p)) (M.flatMap (mz c y))):=by
 obtain⟨k,h1,h2,h3,h4,h5⟩:=lT h.r hp
 have hll:=h.ll
 have hy':cX y (-3000) 3000=true:=by
  obtain⟨a,b⟩:=bi.1 hy
  exact bi.2 ⟨by omega,b⟩
 refine⟨k,h1,h3,?_⟩
 unfold dN
 rw[h4]
 simp only[Option.bind_some,bk,h1,ov (h.p p h2) hy',tM (show M.length≤1048576 by omega) c hy',Int.toNat_natCast]
theorem AT{W:World}{x:Change}(hW:WlR W)(hx:ChR x)(hz:(chC W x==0)=true){V:World}(h:cR W x=some (0,V)):Kp x.Year W V:=by
 obtain⟨hw,hc,p,hp,hy1,hy2,ho⟩:=rV hz
 obtain⟨hr,hl,hin⟩:=ed.1 hw
 obtain⟨b1,b2,b3,b4,_,_⟩:=gF hc
 have hR:td W.Places W.Links:=⟨hr,hW.p,(mK hl).2.1,hW.l⟩
 have hkid:=zg hw x.Code x.Year
 obtain⟨P,L⟩:=W
 have hR:td P L:=hR
 unfold cR at h
 cases h0:x.Kind==0
 ·cases h2:x.Kind==2
  ·rw[h0,h2,cond_false,cond_false]at h
   cases h3:x.Kind==3
   ·obtain⟨k,e1,e2,e3⟩:=vK hR hp b1
    rw[h3,cond_false,Option.bind_some,Sum.elim_inl]at h
    dsimp only at h
    rw[e3,Option.bind_some]at h
    have h:=(Prod.mk.inj (Option.some.inj h)).2
    rw[←h]
    exact AU hw e1 e2 b1 hy1
   ·have hO:lP x=true:=by
     unfold lP
     rw[h3,Bool.or_true]
    obtain⟨q,hq,hyq⟩:=ho hO
    have hos:x.Other.size≤1048576:=hx.o
    obtain⟨k1,k2⟩:=yG hW hw x.Code x.Year
    rw[h3,cond_true]at h
    unfold fr at h
    dsimp only at h
    rw[ou (show L.length≤1048576 from hW.ll) hW.l hx.c]at h
    simp only[Option.bind_some]at h
    have k1:(kD L x.Code x.Year).1.length≤1048576:=k1
    have k2: ∀k∈(kD L x.Code x.Year).1,k.size≤1048576∧ ∃p,P.find? (bu k)=some p:=k2
    have hkid: ∀k∈(kD L x.Code x.Year).1,∃p,P.find? (bu k)=some p∧cX x.Year p.Years.From p.Years.To=true:=hkid
    generalize (kD L x.Code x.Year).1=ks at k1 k2 hkid h
    obtain⟨r1,r2⟩:=si hq hos b1 ks 0 L hR k2
    rw[jO ks (by omega) _ _ _ _ (fun j z s hz=>by rw[bk,hz,Option.bind_some]),r1]at h
    have hne:=uW P q x.Other x.Year ks L
    cases hk:runK P q x.Other x.Year ks L with
    | inl M=>
     have km:=AV hq hyq ks L M hw hkid hk
     obtain⟨k,e1,e2,e3⟩:=vK (r2 M hk) hp b1
     rw[hk]at h
     unfold EE at h
     simp only[Option.bind_some,Sum.elim_inl,e3]at h
     have h:World.mk (P.set k (ln x.Year p)) (M.flatMap (mz x.Code x.Year))=V:=(Prod.mk.inj (Option.some.inj h)).2
     rw[←h]
     exact km.trans (AU km.ok e1 e2 b1 hy1)
    | inr eM=>
     obtain⟨e,M⟩:=eM
     rw[hk]at h
     exact absurd (Prod.mk.inj (Option.some.inj h)).1 (hne e M hk).1
  ·have hO:lP x=true:=by
    unfold lP
    rw[h2,Bool.true_or]
   obtain⟨q,hq,hyq⟩:=ho hO
   have hos:x.Other.size≤1048576:=hx.o
   have hll:=hR.ll
   have hne:(x.Code.toList==x.Other.toList)=false:=by
    rw[Bool.eq_false_iff]
    intro h
    have h5:=(b4 hO).2
    rw[kn.1 h]at h5
    rw[kn.2 rfl]at h5
    cases h5
   have hyp:=hy2 (rB hO).1
   rw[h0,h2,cond_false,cond_true,mH hr (show L.length≤1000000 by omega) hR.l hx.c hos hne hp hq b1]at h
   have h:=Prod.mk.inj (Option.some.inj h)
   have hm:(mvC (mvL L x.Code x.Other x.Year (bM p.Years.To q.Years.To))==0)=true:=by
    have:mvC (mvL L x.Code x.Other x.Year (bM p.Years.To q.Years.To))=0:=h.1
    rw[this]
    rfl
   have hv:=h.2
   dsimp only at hv
   rw[hm,cond_true]at hv
   rw[←hv]
   exact yH hw hp hq hyp hyq hm
 ·obtain⟨k,h1,h2,h3,h4,h5⟩:=lT hr hp
  have hpr:=hR.p p h2
  have hxt:=hx.t
  have r1:=(qP hpr.l hpr.n hx.l (show x.Text.size≤4294967280 by omega) x.Year).1
  rw[h0,cond_true]at h
  unfold dV at h
  dsimp only at h
  rw[h4]at h
  simp only[Option.bind_some,bk,h1,r1,Int.toNat_natCast]at h
  cases he:(m5 p.Names x.Language x.Year x.Text).2==0
  ·rw[he]at h
   have h:=(Prod.mk.inj (Option.some.inj h)).1
   have h:(m5 p.Names x.Language x.Year x.Text).2=0:=h
   rw[h]at he
   cases he
  ·rw[he]at h
   have h:=(Prod.mk.inj (Option.some.inj h)).2
   have h:World.mk (P.set k (Place.mk p.Code p.Class p.Years (m5 p.Names x.Language x.Year x.Text).1)) L=V:=h
   rw[←h]
   exact zh hw h1 (by simpa using he)
end Go.Proofs.YtdejeagdkfokfaaGreatDoor.Sh
namespace Go.Proofs.YtdejeagdkfokfaaGreatDoor.Sh
open Go.RowKit Go.Lib
theorem sy(L:List ay)(hL:L.length≤1048576):gI L L=some true:=by
 unfold gI
 rw[bne_self_eq_false,cond_false,gh (by omega) (fun _=>false) false (fun i x hx=>by
  have hat:at' L (i:Int)=some x:=by rw[bk,hx]
  simp only[hat,Option.bind_some,beq_self_eq_true,Bool.not_true,cond_false,Bool.and_self])]
 have:(L.any fun _=>false)=false:=by simp
 rw[this]
 rfl
theorem nr{W:World}(h:WlR W):fu W W=some true:=by
 unfold fu
 rw[q9 W.Places h.pl h.p,sy W.Links h.ll]
 rfl
theorem vO(L:List ByteArray)(hL:L.length≤10000000):dr L L=some true:=by
 unfold dr
 rw[bne_self_eq_false,cond_false,gh (by omega) (fun _=>false) false (fun i x hx=>by
  have hat:at' L (i:Int)=some x:=by rw[bk,hx]
  simp only[hat,Option.bind_some,beq_self_eq_true,Bool.not_true,cond_false])]
 have:(L.any fun _=>false)=false:=by simp
 rw[this]
 rfl
def exC(s:ByteArray×Bool×List ByteArray):List ByteArray:=bif s.2.1 then[s.1]else[]
theorem tG{L:List Place}(hL:L.length≤1048576)(t:Int):cf L t=some ((L.map (sig t)).flatMap exC):=by
 unfold cf iJ bI
 rw[eY hL (fun s=>s) (fun p=>exC (sig t p)) (fun p _=>by unfold exC;cases (sig t p).2.1<;>simp) (fun i x s hx hs=>by
  rw[bk,hx,Option.bind_some,cZ]
  simp only[Option.bind_some]
  unfold exC sig
  dsimp only
  cases cX t x.Years.From x.Years.To
  ·simp
  ·rw[cond_true,cond_true,cL (by simp;omega),Option.bind_some])]
 rw[List.flatMap_map]
 rfl
theorem wM{p:Place}(h:PlR p)(t:Int):dF p t=some (nH t p):=by
 unfold dF bI
 have hl:=h.l
 rw[eY h.l (fun s=>s) (fun n=>bif dX t n then[n.Text]else[]) (fun n _=>o2 _ _) (fun i x s hx hs=>by
  rw[bk,hx,Option.bind_some,cZ]
  simp only[Option.bind_some]
  unfold dX
  cases cX t x.Years.From x.Years.To
  ·simp
  ·rw[cond_true,cond_true,cL (by simp;omega),Option.bind_some])]
 rw[ly]
 rfl
theorem vR{L:List Place}(c:ByteArray)(t:Int):(L.find? (bu c)).map (sig t)=(L.map (sig t)).find? (fun s=>s.1.toList==c.toList):=by
 rw[List.find?_map]
 rfl
theorem y7{W V:World}(hW:WlR W)(hV:WlR V)(hw:dq W=true){y:Int}(h:Kp y W V){t:Int}(ht:t<y):iu W V t=some false:=by
 unfold iu
 have hs:=h.s t ht
 obtain⟨hr,_,_⟩:=ed.1 hw
 obtain⟨hr',_,_⟩:=ed.1 h.ok
 have hl:=(gL.1 hr).2.2
 rw[tG hW.pl,tG hV.pl,hs]
 have hcl:=kX exC (fun s=>by unfold exC;cases s.2.1<;>simp) (W.Places.map (sig t))
 rw[List.length_map]at hcl
 rw[Option.bind_some,Option.bind_some,vO _ (by omega),Option.bind_some,Bool.not_true,cond_false]
 unfold bS cd
 generalize hC:(W.Places.map (sig t)).flatMap exC=C at hcl⊢
 have hmem: ∀c∈C,∃p∈W.Places,p.Code=c:=by
  intro c hc
  rw[←hC]at hc
  obtain⟨s,hs1,hs2⟩:=List.mem_flatMap.1 hc
  obtain⟨p,hp,rfl⟩:=List.mem_map.1 hs1
  unfold exC at hs2
  cases hb:(sig t p).2.1
  ·rw[hb]at hs2
   simp at hs2
  ·rw[hb]at hs2
   have:c=(sig t p).1:=by simpa using hs2
   exact⟨p,hp,this.symm⟩
 rw[ix (L:=C) (by omega) (fun _=>false) (fun i c hx=>by
  rw[bk,hx,Option.bind_some]
  obtain⟨p0,hp0,hpc⟩:=hmem c (List.mem_of_getElem? hx)
  have hf: ∃p,W.Places.find? (bu c)=some p:=by
   cases hfd:W.Places.find? (bu c)with
   | some p=>exact⟨p,rfl⟩
   | none=>
    rw[List.find?_eq_none]at hfd
    exact absurd (kn.2 hpc) (hfd p0 hp0)
  obtain⟨p,hp⟩:=hf
  have e:=vR (L:=W.Places) c t
  have e':=vR (L:=V.Places) c t
  rw[hs,←e,hp]at e'
  cases hq:V.Places.find? (bu c)with
  | none=>
   rw[hq]at e'
   cases e'
  | some q=>
   rw[hq,Option.map_some,Option.map_some]at e'
   have hsg:=Option.some.inj e'
   obtain⟨k,k1,k2,_,k3,_⟩:=lT hr hp
   obtain⟨m,m1,m2,_,m3,_⟩:=lT hr' hq
   have htx:nH t q=nH t p:=(Prod.mk.inj (Prod.mk.inj hsg).2).2
   have hpl:=hW.p p k2
   unfold iK cv eg
   simp only[k3,m3,Option.bind_some,bk,k1,m1,wM hpl,wM (hV.p q m2),htx]
   have hlen:(nH t p).length≤1048576:=by
    unfold nH
    rw[List.length_map]
    have:=List.length_filter_le (dX t) p.Names
    have:=hpl.l
    omega
   have hl1:=hW.ll
   have hl2:=hV.ll
   rw[vO _ (by omega),ji (show W.Links.length≤1048577 by omega),ji (show V.Links.length≤1048577 by omega),h.p t ht]
   simp only[Option.bind_some,Bool.not_true,cond_false,beq_self_eq_true])]
 have hn:cK (fun _:ByteArray=>false) C= -1:=by
  have:=io (fun _:ByteArray=>false) C
  have h2:=(lz (fun _:ByteArray=>false) C).1
  have h3:(C.any fun _=>false)=false:=by simp
  rw[h3]at this
  have:=of_decide_eq_false this
  omega
 rw[hn]
 rfl
theorem tL{n:Int}(hn:n≤1000000){A:Type}{B:Int→Unit→Option (Unit⊕A)}{D:Unit→A}(h: ∀i,i<n→B i ()=some (.inl ())): ∀(m:Nat) (i:Int),-1000000≤i→n≤i+m→dt n B D i ()=some (D ())
 | 0,i,hi,hm=>by
  unfold dt
  rw[dz]
  simp only[decide_eq_false (show ¬i<n by omega),cond_false]
 | m+1,i,hi,hm=>by
  by_cases hlt:i<n
  ·have:=tL hn (D:=D) h m (i+1) (by omega) (by omega)
   unfold dt at this⊢
   rw[dz]
   simp only[decide_eq_true hlt,cond_true,h i hlt,Option.bind_some,Sum.elim_inl]
   rw[bx (n:=i+1) (by omega) (by omega)]
   exact this
  ·unfold dt
   rw[dz]
   simp only[decide_eq_false hlt,cond_false]
theorem y8{W V:World}(hW:WlR W)(hV:WlR V)(hw:dq W=true){y:Int}(hy:cX y (-2999) 3000=true)(h:Kp y W V):eN W V y=some (false,0):=by
 obtain⟨h1,h2⟩:=bi.1 hy
 unfold eN jl
 rw[eP hV,eP hW,h.ok,hw]
 have e:gH [y] (-3000) 3000=some true:=by
  unfold gH
  rw[gh (L:=[y]) (by simp) (fun z=> !cX z (-3000) 3000) false (fun i x hx=>by
   rw[bk,hx,Option.bind_some,cZ,Option.bind_some])]
  have:cX y (-3000) 3000=true:=bi.2 ⟨by omega,h2⟩
  simp[this]
 simp only[Option.bind_some,Bool.not_true,cond_false,e,Sum.elim_inl]
 have e2:((0:Int) !=0)=false:=rfl
 rw[e2,cond_false,tL (n:=y) (by omega) (fun i hi=>by rw[y7 hW hV hw h hi];rfl) 6000 (-3000) (by omega) (by omega)]
 rfl
theorem B2{W:World}{x:Change}(hW:WlR W)(hx:ChR x){q:Bool×Int}{r:World×Int}(h1:e8 W x=some q)(h2:bs W x=some r)(h0:q.2=0):q.1=(r.2==0):=by
 unfold e8 at h1
 rw[eP hW,lR hx,h2]at h1
 cases hw:dq W<;>rw[hw]at h1
 ·cases h1
  cases h0
 ·cases hc:eH x<;>rw[hc]at h1
  ·cases h1
   cases h0
  ·cases h1
   rfl
theorem rM(c:List Int)(h:c.length≤maxLen∧ ∀x∈c,Fh x):jq c=some true:=by
 unfold jq pt
 rw[Option.bind_some]
 by_cases hb:(c.length:Int)>4096
 ·rw[decide_eq_true hb]
  rfl
 rw[decide_eq_false hb,cond_false]
 have hc:rL c:=⟨by omega,fun x hx=>h.2 x hx⟩
 obtain⟨⟨W,x⟩,d1,hW,hx⟩:=uj hc
 obtain⟨⟨X,L⟩,d2,hX,hL⟩:=tg hc
 have hWr:=ShW.r hW
 have hxr:=ShC.r hx
 have hXr:=ShW.r hX
 have hLl:L.length≤40:=hL.1
 obtain⟨r,r1,r2,r3⟩:=Ae hWr hxr
 obtain⟨q,q1,q2⟩:=Ah hWr hxr
 obtain⟨s,s1,s2,s3⟩:=wX hXr (show L.length≤1048576 by omega) (fun z hz=>(hL.2 z hz).r)
 rw[d1,d2]
 simp only[Option.bind_some,r1,r2,q1,q2,s1,s2,bne_self_eq_false,cond_false,nr (WlR.of r3),nr (WlR.of s3),beq_self_eq_true,Bool.not_true,eP hXr,mR hXr]
 have hcan:((q.2==0)&& !(q.1==(r.2==0)))=false:=by
  cases hq:q.2==0
  ·rfl
  ·rw[B2 hWr hxr q1 r1 (by simpa using hq)]
   simp
 rw[hcan,cond_false]
 cases he:r.2==0
 ·rw[bne,he]
  rfl
 ·rw[bne,he,Bool.not_true,cond_false]
  obtain⟨V,Z,e,e1,e2,_,e4,_⟩:=my hWr hxr
  rw[e1]at r1
  have hr:=Option.some.inj r1
  have he0:e=0:=by
   have:e=r.2:=congrArg Prod.snd hr
   rw[this]
   simpa using he
  obtain⟨_,hVr,hz⟩:=e4 he0
  have hrV:r.1=V:=by
   rw[←hr,he0]
   rfl
  have happ:cR W x=some (0,V):=by
   unfold bs at e1
   rw[sg hWr hxr,Option.bind_some,bne,hz,Bool.not_true,cond_false,pW hWr,Option.bind_some]at e1
   cases ha:cR W x with
   | none=>
    rw[ha]at e1
    cases e1
   | some a=>
    rw[ha,Option.bind_some]at e1
    cases hn:a.1==0
    ·rw[bne,hn]at e1
     have:=congrArg Prod.snd (Option.some.inj e1)
     have:a.1=e:=this
     rw[this,he0]at hn
     cases hn
    ·rw[bne,hn,he0]at e1
     have h5:=congrArg Prod.fst (Option.some.inj e1)
     have h5:a.2=V:=h5
     have h6:a.1=0:=by simpa using hn
     rw[←h5,←h6]
  obtain⟨hw,hcb,_⟩:=rV hz
  have hk:=AT hWr hxr hz happ
  rw[hrV]
  simp only[Option.bind_some,y8 hWr hVr hw (gF hcb).1 hk,eP hVr,hk.ok,cond_true]
  rfl
end Go.Proofs.YtdejeagdkfokfaaGreatDoor.Sh
