/- A slice made of given values, as a value from its making on. -/
import Derived.Test.YtdejeagdkfokfaaGreatDoorSB
namespace Go.Proofs.YtdejeagdkfokfaaGreatDoor.Sh
open Go.RowKit
section
variable {P : Program} {tb : Tb} {ops : Array Oper} {o : Oper} {ν : SS}
theorem zq(hP:ba P tb){d e m n:Nat}{es:List (List Tr)}(hdst:o.dst=some d)(hgd:gd ops ν o=some true)(hn:d<ν.n)(hf:(SS.mk ν.n ν.t []).names.contains d=false)(h:aop tb ⟨ν.n,ν.t,[]⟩ d o.type o.op=some (.own d,.arr e m n es)):cC P ops o ν (some (.tr (.sl n es),none)):=by
 intro σ c a w hs _ ⟨S,β,hr⟩
 have hν:=hs.rel hr
 unfold iR
 rw[l4 hν hgd,if_pos rfl]
 have hf':d∉(SS.mk ν.n ν.t []).names:=fun hm=>by
  rw[List.contains_iff_mem.2 hm]at hf
  cases hf
 have hr1:Rel ⟨w,S,[],fun _ _=>False,fun j v h=>(by cases h),hr.se,fun p _ ⟨_,_,h,_⟩=>by cases h⟩ S β ⟨ν.n,ν.t,[]⟩ a w:=
  ⟨hν.defers,hν.size,hν.one,dC.refl _ _,fun _ h=>h,fun _ h=> .inl h,hν.lt,hν.tmp,fun d x hd=>(by cases hd),fun j v hj=>(by cases hj),fun d x g hd _=>(by cases hd),fun d x d' x' g hd _ _ _=>(by cases hd)⟩
 obtain⟨u,w',hrun,⟨S2,β2,hr2⟩,hg⟩:=Ab hP hr1 hr1 (fun _ h=>h) hdst hn hf' h
 rw[hdst]at hr2
 have hmem:(d,SO.arr e m n es)∈((SS.mk ν.n ν.t []).add d (.own d) (.arr e m n es)).o:= .head _
 have hob:=hr2.obj d _ hmem
 have hpv:=fun g hg=>hr2.priv d _ g hmem hg
 have hu:β2 d=u:=by
  have h1:=hr2.tmp d (.own d) (.head _)
  rw[yN a u (by have:=hν.size;omega)]at h1
  cases h1.2
  rfl
 have htree:TV w' (fun b=>S2 b∨(SO.arr e m n es).bm w' (β2 d) b) (.sl n es) (β2 d):=sD hr2 (fun _ hb=> .inl hb) hmem fun _ hg=> .inr hg
 rw[hu]at htree hpv hob
 have hr':=hr.world hg
 have hold: ∀b,S b→S2 b:=hr2.s0
 have hnew: ∀b,(S2 b∨(SO.arr e m n es).bm w' u b)→S b∨w.heap.size≤b:=fun b hb=>by
  rcases hb with hb | hb
  ·exact hr2.s1 b hb
  ·rcases(hpv b hb).2 with⟨_,h⟩ | ⟨_,h⟩
   ·exact .inr h
   ·obtain⟨_,_,h,_⟩:=h
    cases h
 unfold Oper.wp
 rw[hrun]
 refine⟨fun b=>S2 b∨(SO.arr e m n es).bm w' u b,β,?_⟩
 have hr3:Rel c (fun b=>S2 b∨(SO.arr e m n es).bm w' u b) β σ a w':=
  ⟨hr'.defers,hr'.size,hr'.one,hr'.grew,fun b hb=> .inl (hold b (hr.s0 b hb)),fun b hb=>by
   rcases hnew b hb with h | h
   ·exact hr.s1 b h
   ·exact .inr (Nat.le_trans hr.grew.size h),fun b hb=>by
   rcases hb with hb | hb
   ·exact hr2.lt b hb
   ·exact hob.lt hb,fun i v hi=>⟨(hr'.tmp i v hi).1,(hr'.tmp i v hi).2.keep (fun _ _=>rfl) fun b hb=> .inl (hold b hb)⟩,
   fun k x hk=>(hr'.obj k x hk).keep (fun _ _=>rfl) fun b hb=> .inl (hold b hb),hr'.pin,fun k x g hk hg2=>by
   refine⟨fun hb=> ?_,(hr'.priv k x g hk hg2).2⟩
   have hlt:g<w.heap.size:=(hr.obj k x hk).lt (((hr.obj k x hk).bm fun b hb=>hg.block b ((hr.obj k x hk).lt hb) id).1 hg2)
   rcases hnew g hb with h | h
   ·exact(hr'.priv k x g hk hg2).1 h
   ·omega,hr'.apart⟩
 have hdσ:d<σ.n:=by rw[←hs.n];exact hn
 rw[hdst]
 exact hr3.put hdσ (.tr _ _ htree)
theorem DU(hP:ba P tb)(n:Nat)(es:List (List Tr)){d e m:Nat}(hdst:o.dst=some d:=by kernel_rfl)(hgd:gd ops ν o=some true:=by kernel_rfl)(hn:Nat.blt d ν.n=true:=by kernel_rfl)(hf:(SS.mk ν.n ν.t []).names.contains d=false:=by kernel_rfl)(h:aop tb ⟨ν.n,ν.t,[]⟩ d o.type o.op=some (.own d,.arr e m n es):=by kernel_rfl):cC P ops o ν (some (.tr (.sl n es),none)):=zq hP hdst hgd (by simpa using hn) hf h
end
end Go.Proofs.YtdejeagdkfokfaaGreatDoor.Sh
