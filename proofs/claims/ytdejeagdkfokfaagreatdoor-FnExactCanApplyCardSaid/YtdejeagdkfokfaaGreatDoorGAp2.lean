/- Typed functions and the calls that do what they say. -/
import Derived.Test.YtdejeagdkfokfaaGreatDoorGAp1
import Derived.Test.YtdejeagdkfokfaaGreatDoorKA
import Derived.Test.YtdejeagdkfokfaaGreatDoorKC
import Derived.Test.YtdejeagdkfokfaaGreatDoorKD
import Derived.Test.YtdejeagdkfokfaaGreatDoorKO
import Derived.Test.YtdejeagdkfokfaaGreatDoorKS
import Derived.Test.YtdejeagdkfokfaaGreatDoorSN
import Derived.Test.YtdejeagdkfokfaaGreatDoorSW
import Derived.Test.YtdejeagdkfokfaaGreatDoorSX
import Derived.Test.YtdejeagdkfokfaaGreatDoorH1
namespace Go.Proofs.YtdejeagdkfokfaaGreatDoor.Sh
open Go.RowKit
set_option maxRecDepth 100000
set_option maxHeartbeats 4000000
noncomputable def dH(aW:World)(aC:Change):Option (Int×World):=
 ((bZ aW.Places aC.Code).bind fun x1=>((at' aW.Places x1.1).bind fun x2=>((fV x2.Names aC.Language aC.Year aC.Text).bind fun x3=>(((bif(x3.2==0)then((at' aW.Places x1.1).bind fun x6=>some ((List.set aW.Places (Int.toNat x1.1) (Place.mk x6.Code x6.Class x6.Years x3.1)),aW.Links))else some (aW.Places,aW.Links))).bind fun(j4:(List Place)×(List au))=>some (x3.2,(World.mk j4.1 j4.2))))))
theorem kT(aW:World)(aC:Change)(r:Int×World)(h:dH aW aC=some r):jl Tryz.prog 90 [.ref 1000000 0,.agg (tc ah aC)] [(1000000,.box [.own 3000000,.own 3000001]),(3000000,.deep 91 5 aW.Places.length [.flat,.flat,.flat,.flat,(.sl 169 5 [.flat,.flat,.flat,.flat,.flat])] (aW.Places.map ab)),(3000001,oa 85 4 ac aW.Links)] [(1000000,.box [.own 3000000,.own 3000001]),(3000000,.deep 91 5 r.2.Places.length [.flat,.flat,.flat,.flat,(.sl 169 5 [.flat,.flat,.flat,.flat,.flat])] (r.2.Places.map ab)),(3000001,oa 85 4 ac r.2.Links)] [vi r.1]:=by
 refine iN Tryz.func90 rfl [(.tmp 4)] rfl (fun r=>[(1000000,.box [.own 3000000,.own 3000001]),(3000000,.deep 91 5 r.2.Places.length [.flat,.flat,.flat,.flat,(.sl 169 5 [.flat,.flat,.flat,.flat,.flat])] (r.2.Places.map ab)),(3000001,oa 85 4 ac r.2.Links)]) (fun r=>[vi r.1]) (r:=r) (cw SV.dW (cw trivial (cw (b9 dt _) jI))) ?_
 unfold dH at h
 refine az aa ⟨48,[(0,.ref 1000000 0),(3,.ref 3 0)],[(3,.box (tc ah aC)),(1000000,.box [.own 3000000,.own 3000001]),(3000000,.deep 91 5 aW.Places.length [.flat,.flat,.flat,.flat,(.sl 169 5 [.flat,.flat,.flat,.flat,.flat])] (aW.Places.map ab)),(3000001,oa 85 4 ac aW.Links)]⟩ ?_
 refine ai ?_
 refine di mixed ?_
 refine aQ.ck aa false 6 ⟨48,[(0,.ref 1000000 0),(3,.ref 3 0),(13,.own 3000000),(15,vs aC.Code)],[(3,.box (tc ah aC)),(1000000,.box [.own 3000000,.own 3000001]),(3000000,.deep 91 5 aW.Places.length [.flat,.flat,.flat,.flat,(.sl 169 5 [.flat,.flat,.flat,.flat,.flat])] (aW.Places.map ab)),(3000001,oa 85 4 ac aW.Links)]⟩ ?_
 obtain⟨x1,hx1,h⟩:=bind_some h
 refine aQ.step (xc mT (dy aW.Places aC.Code _ hx1)) ?_
 refine aQ.ck aa false 5 ⟨48,[(0,.ref 1000000 0),(3,.ref 3 0),(5,vi x1.1)],[(3,.box (tc ah aC)),(1000000,.box [.own 3000000,.own 3000001]),(3000000,.deep 91 5 aW.Places.length [.flat,.flat,.flat,.flat,(.sl 169 5 [.flat,.flat,.flat,.flat,.flat])] (aW.Places.map ab)),(3000001,oa 85 4 ac aW.Links)]⟩ ?_
 refine aQ.nx ?_
 refine ai ?_
 obtain⟨x2,hx2,h⟩:=bind_some h
 obtain⟨x3,hx3,h⟩:=bind_some h
 refine di mixed ?_
 refine aQ.xF (σE:=⟨48,[(0,.ref 1000000 0),(5,vi x1.1),(7,.own 34),(8,vi x3.2)],[(34,oa 169 5 af x3.1),(1000000,.box [.own 3000000,.own 3000001]),(3000000,.deep 91 5 aW.Places.length [.flat,.flat,.flat,.flat,(.sl 169 5 [.flat,.flat,.flat,.flat,.flat])] (aW.Places.map ab)),(3000001,oa 85 4 ac aW.Links)]⟩) (n:=20) (L0:= #[false,false,false,false,false,false,false,false,false,false,false,false,false,false,false,false,false,false,false,false]) (by kernel_rfl) (by kernel_rfl) (fun K hk=> ?_) ?_
 refine DE.aJ (fuel:=0) (L:= #[true,true,true,true,true,true,true,true,true,true,true,true,true,true,true,true,true,true,true,true]) (σ:=⟨48,[(0,.ref 1000000 0),(5,vi x1.1),(7,.own 34),(8,vi x3.2)],[(34,oa 169 5 af x3.1),(1000000,.box [.own 3000000,.own 3000001]),(3000000,.deep 91 5 aW.Places.length [.flat,.flat,.flat,.flat,(.sl 169 5 [.flat,.flat,.flat,.flat,.flat])] (aW.Places.map ab)),(3000001,oa 85 4 ac aW.Links)]⟩) ?_ (fun d54=> ?_)
 exact DE.done (by kernel_rfl) hk
 refine DE.aJ (fuel:=1) (L:= #[true,true,true,true,true,true,true,true,true,true,true,true,true,true,true,true,true,true,true,false]) (σ:=⟨48,[(0,.ref 1000000 0),(5,vi x1.1),(7,.own 34),(36,vi x3.2)],[(34,oa 169 5 af x3.1),(1000000,.box [.own 3000000,.own 3000001]),(3000000,.deep 91 5 aW.Places.length [.flat,.flat,.flat,.flat,(.sl 169 5 [.flat,.flat,.flat,.flat,.flat])] (aW.Places.map ab)),(3000001,oa 85 4 ac aW.Links)]⟩) ?_ (fun d53=> ?_)
 exact DE.take (i:=19) (L':= #[true,true,true,true,true,true,true,true,true,true,true,true,true,true,true,true,true,true,true,true]) rfl (.inr rfl) rfl (by kernel_rfl) (by kernel_rfl) (by kernel_rfl) (al.le (al.bj aa (σ':=⟨48,[(8,vi x3.2),(0,.ref 1000000 0),(5,vi x1.1),(7,.own 34),(36,vi x3.2)],[(34,oa 169 5 af x3.1),(1000000,.box [.own 3000000,.own 3000001]),(3000000,.deep 91 5 aW.Places.length [.flat,.flat,.flat,.flat,(.sl 169 5 [.flat,.flat,.flat,.flat,.flat])] (aW.Places.map ab)),(3000001,oa 85 4 ac aW.Links)]⟩) (by kernel_rfl)) Le.ao) (by kernel_rfl) d54
 refine DE.aJ (fuel:=2) (L:= #[true,true,true,true,true,true,true,true,true,true,true,true,true,true,true,true,true,true,false,false]) (σ:=⟨48,[(0,.ref 1000000 0),(5,vi x1.1),(35,.own 34),(36,vi x3.2)],[(34,oa 169 5 af x3.1),(1000000,.box [.own 3000000,.own 3000001]),(3000000,.deep 91 5 aW.Places.length [.flat,.flat,.flat,.flat,(.sl 169 5 [.flat,.flat,.flat,.flat,.flat])] (aW.Places.map ab)),(3000001,oa 85 4 ac aW.Links)]⟩) ?_ (fun d52=> ?_)
 exact DE.take (i:=18) (L':= #[true,true,true,true,true,true,true,true,true,true,true,true,true,true,true,true,true,true,true,false]) rfl (.inr rfl) rfl (by kernel_rfl) (by kernel_rfl) (by kernel_rfl) (al.le (al.bj aa (σ':=⟨48,[(7,.own 34),(0,.ref 1000000 0),(5,vi x1.1),(35,.own 34),(36,vi x3.2)],[(34,oa 169 5 af x3.1),(1000000,.box [.own 3000000,.own 3000001]),(3000000,.deep 91 5 aW.Places.length [.flat,.flat,.flat,.flat,(.sl 169 5 [.flat,.flat,.flat,.flat,.flat])] (aW.Places.map ab)),(3000001,oa 85 4 ac aW.Links)]⟩) (by kernel_rfl)) Le.ao) (by kernel_rfl) d53
 refine DE.aJ (fuel:=2) (L:= #[true,true,true,true,true,true,true,true,true,true,true,true,true,true,true,true,true,false,true,false]) (σ:=⟨48,[(0,.ref 1000000 0),(5,vi x1.1),(7,.own 34),(19,.tup [.own 34,vi x3.2])],[(34,oa 169 5 af x3.1),(1000000,.box [.own 3000000,.own 3000001]),(3000000,.deep 91 5 aW.Places.length [.flat,.flat,.flat,.flat,(.sl 169 5 [.flat,.flat,.flat,.flat,.flat])] (aW.Places.map ab)),(3000001,oa 85 4 ac aW.Links)]⟩) ?_ (fun d51=> ?_)
 exact DE.all [17] (by kernel_rfl) (by simp) (List.forall_mem_cons.2 ⟨bW.mk (i:=17) (L':= #[true,true,true,true,true,true,true,true,true,true,true,true,true,true,true,true,true,true,true,false]) rfl (al.le (al.bj aa (σ':=⟨48,[(36,vi x3.2),(0,.ref 1000000 0),(5,vi x1.1),(7,.own 34),(19,.tup [.own 34,vi x3.2])],[(34,oa 169 5 af x3.1),(1000000,.box [.own 3000000,.own 3000001]),(3000000,.deep 91 5 aW.Places.length [.flat,.flat,.flat,.flat,(.sl 169 5 [.flat,.flat,.flat,.flat,.flat])] (aW.Places.map ab)),(3000001,oa 85 4 ac aW.Links)]⟩) (by kernel_rfl)) Le.ao) (by kernel_rfl) d53,(fun _ h=>absurd h List.not_mem_nil)⟩)
 refine DE.aJ (fuel:=3) (L:= #[true,true,true,true,true,true,true,true,true,true,true,true,true,true,true,true,false,true,false,false]) (σ:=⟨48,[(0,.ref 1000000 0),(5,vi x1.1),(19,.tup [.own 34,vi x3.2]),(36,vi x3.2)],[(34,oa 169 5 af x3.1),(1000000,.box [.own 3000000,.own 3000001]),(3000000,.deep 91 5 aW.Places.length [.flat,.flat,.flat,.flat,(.sl 169 5 [.flat,.flat,.flat,.flat,.flat])] (aW.Places.map ab)),(3000001,oa 85 4 ac aW.Links)]⟩) ?_ (fun d50=> ?_)
 exact DE.all [16] (by kernel_rfl) (by simp) (List.forall_mem_cons.2 ⟨bW.mk (i:=16) (L':= #[true,true,true,true,true,true,true,true,true,true,true,true,true,true,true,true,true,true,false,false]) rfl (al.le (al.bj aa (σ':=⟨48,[(35,.own 34),(0,.ref 1000000 0),(5,vi x1.1),(19,.tup [.own 34,vi x3.2]),(36,vi x3.2)],[(34,oa 169 5 af x3.1),(1000000,.box [.own 3000000,.own 3000001]),(3000000,.deep 91 5 aW.Places.length [.flat,.flat,.flat,.flat,(.sl 169 5 [.flat,.flat,.flat,.flat,.flat])] (aW.Places.map ab)),(3000001,oa 85 4 ac aW.Links)]⟩) (by kernel_rfl)) Le.ao) (by kernel_rfl) d52,(fun _ h=>absurd h List.not_mem_nil)⟩)
 refine DE.aJ (fuel:=3) (L:= #[true,true,true,true,true,true,true,true,true,true,true,true,true,true,true,true,true,false,false,false]) (σ:=⟨48,[(0,.ref 1000000 0),(5,vi x1.1),(19,.tup [.own 34,vi x3.2]),(35,.own 34)],[(34,oa 169 5 af x3.1),(1000000,.box [.own 3000000,.own 3000001]),(3000000,.deep 91 5 aW.Places.length [.flat,.flat,.flat,.flat,(.sl 169 5 [.flat,.flat,.flat,.flat,.flat])] (aW.Places.map ab)),(3000001,oa 85 4 ac aW.Links)]⟩) ?_ (fun d49=> ?_)
 exact DE.take (i:=18) (L':= #[true,true,true,true,true,true,true,true,true,true,true,true,true,true,true,true,true,false,true,false]) rfl (.inr rfl) rfl (by kernel_rfl) (by kernel_rfl) (by kernel_rfl) (al.le (al.bj aa (σ':=⟨48,[(7,.own 34),(0,.ref 1000000 0),(5,vi x1.1),(19,.tup [.own 34,vi x3.2]),(35,.own 34)],[(34,oa 169 5 af x3.1),(1000000,.box [.own 3000000,.own 3000001]),(3000000,.deep 91 5 aW.Places.length [.flat,.flat,.flat,.flat,(.sl 169 5 [.flat,.flat,.flat,.flat,.flat])] (aW.Places.map ab)),(3000001,oa 85 4 ac aW.Links)]⟩) (by kernel_rfl)) Le.ao) (by kernel_rfl) d51
 refine DE.aJ (fuel:=4) (L:= #[true,true,true,true,true,true,true,true,true,true,true,true,true,true,true,true,false,false,false,false]) (σ:=⟨48,[(0,.ref 1000000 0),(5,vi x1.1),(19,.tup [.own 34,vi x3.2])],[(34,oa 169 5 af x3.1),(1000000,.box [.own 3000000,.own 3000001]),(3000000,.deep 91 5 aW.Places.length [.flat,.flat,.flat,.flat,(.sl 169 5 [.flat,.flat,.flat,.flat,.flat])] (aW.Places.map ab)),(3000001,oa 85 4 ac aW.Links)]⟩) ?_ (fun d48=> ?_)
 exact DE.all [16,17] (by kernel_rfl) (by simp) (List.forall_mem_cons.2 ⟨bW.mk (i:=16) (L':= #[true,true,true,true,true,true,true,true,true,true,true,true,true,true,true,true,true,false,false,false]) rfl (al.le (al.bj aa (σ':=⟨48,[(35,.own 34),(0,.ref 1000000 0),(5,vi x1.1),(19,.tup [.own 34,vi x3.2])],[(34,oa 169 5 af x3.1),(1000000,.box [.own 3000000,.own 3000001]),(3000000,.deep 91 5 aW.Places.length [.flat,.flat,.flat,.flat,(.sl 169 5 [.flat,.flat,.flat,.flat,.flat])] (aW.Places.map ab)),(3000001,oa 85 4 ac aW.Links)]⟩) (by kernel_rfl)) Le.ao) (by kernel_rfl) d49,(List.forall_mem_cons.2 ⟨bW.mk (i:=17) (L':= #[true,true,true,true,true,true,true,true,true,true,true,true,true,true,true,true,false,true,false,false]) rfl (al.le (al.bj aa (σ':=⟨48,[(36,vi x3.2),(0,.ref 1000000 0),(5,vi x1.1),(19,.tup [.own 34,vi x3.2])],[(34,oa 169 5 af x3.1),(1000000,.box [.own 3000000,.own 3000001]),(3000000,.deep 91 5 aW.Places.length [.flat,.flat,.flat,.flat,(.sl 169 5 [.flat,.flat,.flat,.flat,.flat])] (aW.Places.map ab)),(3000001,oa 85 4 ac aW.Links)]⟩) (by kernel_rfl)) Le.ao) (by kernel_rfl) d50,(fun _ h=>absurd h List.not_mem_nil)⟩)⟩)
 refine DE.aJ (fuel:=5) (L:= #[true,true,true,true,true,true,true,true,true,true,true,true,true,true,true,false,false,false,false,false]) (σ:=⟨48,[(0,.ref 1000000 0),(5,vi x1.1),(34,.tup [.own 34,vi x3.2])],[(34,oa 169 5 af x3.1),(1000000,.box [.own 3000000,.own 3000001]),(3000000,.deep 91 5 aW.Places.length [.flat,.flat,.flat,.flat,(.sl 169 5 [.flat,.flat,.flat,.flat,.flat])] (aW.Places.map ab)),(3000001,oa 85 4 ac aW.Links)]⟩) ?_ (fun d47=> ?_)
 exact DE.take (i:=15) (L':= #[true,true,true,true,true,true,true,true,true,true,true,true,true,true,true,true,false,false,false,false]) rfl (.inl rfl) rfl (by kernel_rfl) (by kernel_rfl) (by kernel_rfl) (al.le (al.bj aa (σ':=⟨48,[(19,.tup [.own 34,vi x3.2]),(0,.ref 1000000 0),(5,vi x1.1),(34,.tup [.own 34,vi x3.2])],[(34,oa 169 5 af x3.1),(1000000,.box [.own 3000000,.own 3000001]),(3000000,.deep 91 5 aW.Places.length [.flat,.flat,.flat,.flat,(.sl 169 5 [.flat,.flat,.flat,.flat,.flat])] (aW.Places.map ab)),(3000001,oa 85 4 ac aW.Links)]⟩) (by kernel_rfl)) Le.ao) (by kernel_rfl) d48
 refine DE.aJ (fuel:=6) (L:= #[true,true,true,true,true,true,true,true,true,true,true,true,true,true,false,false,false,false,false,false]) (σ:=⟨48,[(0,.ref 1000000 0),(5,vi x1.1),(27,.own 3001027),(29,vs aC.Language),(31,vi aC.Year),(33,vs aC.Text)],[(1000000,.box [.own 3000000,.own 3000001]),(3000000,.hol 91 5 aW.Places.length [.flat,.flat,.flat,.flat,(.sl 169 5 [.flat,.flat,.flat,.flat,.flat])] (aW.Places.map ab) (Int.toNat x1.1) 4 3001027),(3000001,oa 85 4 ac aW.Links),(3001027,oa 169 5 af x2.Names)]⟩) ?_ (fun d46=> ?_)
 exact DE.all [14] (by kernel_rfl) (by simp) (List.forall_mem_cons.2 ⟨bW.mk (i:=14) (L':= #[true,true,true,true,true,true,true,true,true,true,true,true,true,true,true,false,false,false,false,false]) rfl (al.le (al.le (al.kn (xc zb (m5 x2.Names aC.Language aC.Year aC.Text _ hx3)) (by kernel_rfl)) (qA (L:=aW.Places) (f:=ab) (x:=x2) (d:=3000000) (k:=3001027) (e:=91) (m:=5) (j:=4) (e':=169) (m':=5) (n':=x2.Names.length) (ss:=[.flat,.flat,.flat,.flat,(.sl 169 5 [.flat,.flat,.flat,.flat,.flat])]) (ss':=[.flat,.flat,.flat,.flat,.flat]) (es':=x2.Names.map af) hx2 (b9 bu _))) Le.ao) (by kernel_rfl) d47,(fun _ h=>absurd h List.not_mem_nil)⟩)
 refine DE.aJ (fuel:=7) (L:= #[true,true,true,true,true,true,true,false,true,true,true,true,true,true,false,false,false,false,false,false]) (σ:=⟨48,[(0,.ref 1000000 0),(5,vi x1.1),(26,.eref 3000000 5 (Int.toNat x1.1) 4),(29,vs aC.Language),(31,vi aC.Year),(33,vs aC.Text)],[(1000000,.box [.own 3000000,.own 3000001]),(3000000,.deep 91 5 aW.Places.length [.flat,.flat,.flat,.flat,(.sl 169 5 [.flat,.flat,.flat,.flat,.flat])] (aW.Places.map ab)),(3000001,oa 85 4 ac aW.Links)]⟩) ?_ (fun d45=> ?_)
 exact DE.all [7] (by kernel_rfl) (by simp) (List.forall_mem_cons.2 ⟨bW.mk (i:=7) (L':= #[true,true,true,true,true,true,true,true,true,true,true,true,true,true,false,false,false,false,false,false]) rfl (al.le (jV (L:=aW.Places) (f:=ab) (d:=3000000) (k:=3001027) (e:=91) (m:=5) (j:=4) (e':=169) (m':=5) (n':=x2.Names.length) (ss:=[.flat,.flat,.flat,.flat,(.sl 169 5 [.flat,.flat,.flat,.flat,.flat])]) (ss':=[.flat,.flat,.flat,.flat,.flat]) (es':=x2.Names.map af) (ti:=ej) (y:=oa 169 5 af x2.Names) hx2 aa rfl rfl (.inr ⟨rfl,rfl⟩)) Le.ao) (by kernel_rfl) d46,(fun _ h=>absurd h List.not_mem_nil)⟩)
 refine DE.aJ (fuel:=7) (L:= #[true,true,true,true,true,true,true,true,true,false,true,true,true,true,false,false,false,false,false,false]) (σ:=⟨48,[(0,.ref 1000000 0),(5,vi x1.1),(27,.own 3001027),(28,.ref 3 4),(31,vi aC.Year),(33,vs aC.Text)],[(3,.box (tc ah aC)),(1000000,.box [.own 3000000,.own 3000001]),(3000000,.hol 91 5 aW.Places.length [.flat,.flat,.flat,.flat,(.sl 169 5 [.flat,.flat,.flat,.flat,.flat])] (aW.Places.map ab) (Int.toNat x1.1) 4 3001027),(3000001,oa 85 4 ac aW.Links),(3001027,oa 169 5 af x2.Names)]⟩) ?_ (fun d44=> ?_)
 exact DE.all [9] (by kernel_rfl) (by simp) (List.forall_mem_cons.2 ⟨bW.mk (i:=9) (L':= #[true,true,true,true,true,true,true,true,true,true,true,true,true,true,false,false,false,false,false,false]) rfl (al.le (al.bj aa (σ':=⟨48,[(29,vs aC.Language),(0,.ref 1000000 0),(5,vi x1.1),(27,.own 3001027),(28,.ref 3 4),(31,vi aC.Year),(33,vs aC.Text)],[(3,.box (tc ah aC)),(1000000,.box [.own 3000000,.own 3000001]),(3000000,.hol 91 5 aW.Places.length [.flat,.flat,.flat,.flat,(.sl 169 5 [.flat,.flat,.flat,.flat,.flat])] (aW.Places.map ab) (Int.toNat x1.1) 4 3001027),(3000001,oa 85 4 ac aW.Links),(3001027,oa 169 5 af x2.Names)]⟩) (by kernel_rfl)) Le.ao) (by kernel_rfl) d46,(fun _ h=>absurd h List.not_mem_nil)⟩)
 refine DE.aJ (fuel:=7) (L:= #[true,true,true,true,true,true,true,true,true,true,true,false,true,true,false,false,false,false,false,false]) (σ:=⟨48,[(0,.ref 1000000 0),(5,vi x1.1),(27,.own 3001027),(29,vs aC.Language),(30,.ref 3 0),(33,vs aC.Text)],[(3,.box (tc ah aC)),(1000000,.box [.own 3000000,.own 3000001]),(3000000,.hol 91 5 aW.Places.length [.flat,.flat,.flat,.flat,(.sl 169 5 [.flat,.flat,.flat,.flat,.flat])] (aW.Places.map ab) (Int.toNat x1.1) 4 3001027),(3000001,oa 85 4 ac aW.Links),(3001027,oa 169 5 af x2.Names)]⟩) ?_ (fun d43=> ?_)
 exact DE.all [11] (by kernel_rfl) (by simp) (List.forall_mem_cons.2 ⟨bW.mk (i:=11) (L':= #[true,true,true,true,true,true,true,true,true,true,true,true,true,true,false,false,false,false,false,false]) rfl (al.le (al.bj aa (σ':=⟨48,[(31,vi aC.Year),(0,.ref 1000000 0),(5,vi x1.1),(27,.own 3001027),(29,vs aC.Language),(30,.ref 3 0),(33,vs aC.Text)],[(3,.box (tc ah aC)),(1000000,.box [.own 3000000,.own 3000001]),(3000000,.hol 91 5 aW.Places.length [.flat,.flat,.flat,.flat,(.sl 169 5 [.flat,.flat,.flat,.flat,.flat])] (aW.Places.map ab) (Int.toNat x1.1) 4 3001027),(3000001,oa 85 4 ac aW.Links),(3001027,oa 169 5 af x2.Names)]⟩) (by kernel_rfl)) Le.ao) (by kernel_rfl) d46,(fun _ h=>absurd h List.not_mem_nil)⟩)
 refine DE.aJ (fuel:=7) (L:= #[true,true,true,true,true,true,true,true,true,true,true,true,true,false,false,false,false,false,false,false]) (σ:=⟨48,[(0,.ref 1000000 0),(5,vi x1.1),(27,.own 3001027),(29,vs aC.Language),(31,vi aC.Year),(32,.ref 3 5)],[(3,.box (tc ah aC)),(1000000,.box [.own 3000000,.own 3000001]),(3000000,.hol 91 5 aW.Places.length [.flat,.flat,.flat,.flat,(.sl 169 5 [.flat,.flat,.flat,.flat,.flat])] (aW.Places.map ab) (Int.toNat x1.1) 4 3001027),(3000001,oa 85 4 ac aW.Links),(3001027,oa 169 5 af x2.Names)]⟩) ?_ (fun d42=> ?_)
 exact DE.all [13] (by kernel_rfl) (by simp) (List.forall_mem_cons.2 ⟨bW.mk (i:=13) (L':= #[true,true,true,true,true,true,true,true,true,true,true,true,true,true,false,false,false,false,false,false]) rfl (al.le (al.bj aa (σ':=⟨48,[(33,vs aC.Text),(0,.ref 1000000 0),(5,vi x1.1),(27,.own 3001027),(29,vs aC.Language),(31,vi aC.Year),(32,.ref 3 5)],[(3,.box (tc ah aC)),(1000000,.box [.own 3000000,.own 3000001]),(3000000,.hol 91 5 aW.Places.length [.flat,.flat,.flat,.flat,(.sl 169 5 [.flat,.flat,.flat,.flat,.flat])] (aW.Places.map ab) (Int.toNat x1.1) 4 3001027),(3000001,oa 85 4 ac aW.Links),(3001027,oa 169 5 af x2.Names)]⟩) (by kernel_rfl)) Le.ao) (by kernel_rfl) d46,(fun _ h=>absurd h List.not_mem_nil)⟩)
 refine DE.aJ (fuel:=8) (L:= #[true,true,true,true,true,true,false,false,true,true,true,true,true,true,false,false,false,false,false,false]) (σ:=⟨48,[(0,.ref 1000000 0),(5,vi x1.1),(25,.eref 3000000 5 (Int.toNat x1.1) 0),(29,vs aC.Language),(31,vi aC.Year),(33,vs aC.Text)],[(1000000,.box [.own 3000000,.own 3000001]),(3000000,.deep 91 5 aW.Places.length [.flat,.flat,.flat,.flat,(.sl 169 5 [.flat,.flat,.flat,.flat,.flat])] (aW.Places.map ab)),(3000001,oa 85 4 ac aW.Links)]⟩) ?_ (fun d41=> ?_)
 exact DE.iM aa (i:=6) (L':= #[true,true,true,true,true,true,true,false,true,true,true,true,true,true,false,false,false,false,false,false]) (v:= .eref 3000000 5 (Int.toNat x1.1) 4) rfl rfl (by kernel_rfl) rfl (by kernel_rfl) (by kernel_rfl) (by kernel_rfl) (al.le (al.bj aa (σ':=⟨48,[(26,.eref 3000000 5 (Int.toNat x1.1) 4),(0,.ref 1000000 0),(5,vi x1.1),(25,.eref 3000000 5 (Int.toNat x1.1) 0),(29,vs aC.Language),(31,vi aC.Year),(33,vs aC.Text)],[(1000000,.box [.own 3000000,.own 3000001]),(3000000,.deep 91 5 aW.Places.length [.flat,.flat,.flat,.flat,(.sl 169 5 [.flat,.flat,.flat,.flat,.flat])] (aW.Places.map ab)),(3000001,oa 85 4 ac aW.Links)]⟩) (by kernel_rfl)) Le.ao) (by kernel_rfl) d45
 refine DE.aJ (fuel:=8) (L:= #[true,true,true,true,true,true,true,false,true,false,true,true,true,true,false,false,false,false,false,false]) (σ:=⟨48,[(0,.ref 1000000 0),(5,vi x1.1),(26,.eref 3000000 5 (Int.toNat x1.1) 4),(28,.ref 3 4),(31,vi aC.Year),(33,vs aC.Text)],[(3,.box (tc ah aC)),(1000000,.box [.own 3000000,.own 3000001]),(3000000,.deep 91 5 aW.Places.length [.flat,.flat,.flat,.flat,(.sl 169 5 [.flat,.flat,.flat,.flat,.flat])] (aW.Places.map ab)),(3000001,oa 85 4 ac aW.Links)]⟩) ?_ (fun d40=> ?_)
 exact DE.all [7,9] (by kernel_rfl) (by simp) (List.forall_mem_cons.2 ⟨bW.mk (i:=7) (L':= #[true,true,true,true,true,true,true,true,true,false,true,true,true,true,false,false,false,false,false,false]) rfl (al.le (jV (L:=aW.Places) (f:=ab) (d:=3000000) (k:=3001027) (e:=91) (m:=5) (j:=4) (e':=169) (m':=5) (n':=x2.Names.length) (ss:=[.flat,.flat,.flat,.flat,(.sl 169 5 [.flat,.flat,.flat,.flat,.flat])]) (ss':=[.flat,.flat,.flat,.flat,.flat]) (es':=x2.Names.map af) (ti:=ej) (y:=oa 169 5 af x2.Names) hx2 aa rfl rfl (.inr ⟨rfl,rfl⟩)) Le.ao) (by kernel_rfl) d44,(List.forall_mem_cons.2 ⟨bW.mk (i:=9) (L':= #[true,true,true,true,true,true,true,false,true,true,true,true,true,true,false,false,false,false,false,false]) rfl (al.le (al.bj aa (σ':=⟨48,[(29,vs aC.Language),(0,.ref 1000000 0),(5,vi x1.1),(26,.eref 3000000 5 (Int.toNat x1.1) 4),(28,.ref 3 4),(31,vi aC.Year),(33,vs aC.Text)],[(3,.box (tc ah aC)),(1000000,.box [.own 3000000,.own 3000001]),(3000000,.deep 91 5 aW.Places.length [.flat,.flat,.flat,.flat,(.sl 169 5 [.flat,.flat,.flat,.flat,.flat])] (aW.Places.map ab)),(3000001,oa 85 4 ac aW.Links)]⟩) (by kernel_rfl)) Le.ao) (by kernel_rfl) d45,(fun _ h=>absurd h List.not_mem_nil)⟩)⟩)
 refine DE.aJ (fuel:=8) (L:= #[true,true,true,true,true,true,true,false,true,true,true,false,true,true,false,false,false,false,false,false]) (σ:=⟨48,[(0,.ref 1000000 0),(5,vi x1.1),(26,.eref 3000000 5 (Int.toNat x1.1) 4),(29,vs aC.Language),(30,.ref 3 0),(33,vs aC.Text)],[(3,.box (tc ah aC)),(1000000,.box [.own 3000000,.own 3000001]),(3000000,.deep 91 5 aW.Places.length [.flat,.flat,.flat,.flat,(.sl 169 5 [.flat,.flat,.flat,.flat,.flat])] (aW.Places.map ab)),(3000001,oa 85 4 ac aW.Links)]⟩) ?_ (fun d39=> ?_)
 exact DE.all [7,11] (by kernel_rfl) (by simp) (List.forall_mem_cons.2 ⟨bW.mk (i:=7) (L':= #[true,true,true,true,true,true,true,true,true,true,true,false,true,true,false,false,false,false,false,false]) rfl (al.le (jV (L:=aW.Places) (f:=ab) (d:=3000000) (k:=3001027) (e:=91) (m:=5) (j:=4) (e':=169) (m':=5) (n':=x2.Names.length) (ss:=[.flat,.flat,.flat,.flat,(.sl 169 5 [.flat,.flat,.flat,.flat,.flat])]) (ss':=[.flat,.flat,.flat,.flat,.flat]) (es':=x2.Names.map af) (ti:=ej) (y:=oa 169 5 af x2.Names) hx2 aa rfl rfl (.inr ⟨rfl,rfl⟩)) Le.ao) (by kernel_rfl) d43,(List.forall_mem_cons.2 ⟨bW.mk (i:=11) (L':= #[true,true,true,true,true,true,true,false,true,true,true,true,true,true,false,false,false,false,false,false]) rfl (al.le (al.bj aa (σ':=⟨48,[(31,vi aC.Year),(0,.ref 1000000 0),(5,vi x1.1),(26,.eref 3000000 5 (Int.toNat x1.1) 4),(29,vs aC.Language),(30,.ref 3 0),(33,vs aC.Text)],[(3,.box (tc ah aC)),(1000000,.box [.own 3000000,.own 3000001]),(3000000,.deep 91 5 aW.Places.length [.flat,.flat,.flat,.flat,(.sl 169 5 [.flat,.flat,.flat,.flat,.flat])] (aW.Places.map ab)),(3000001,oa 85 4 ac aW.Links)]⟩) (by kernel_rfl)) Le.ao) (by kernel_rfl) d45,(fun _ h=>absurd h List.not_mem_nil)⟩)⟩)
 refine DE.aJ (fuel:=8) (L:= #[true,true,true,true,true,true,true,false,true,true,true,true,true,false,false,false,false,false,false,false]) (σ:=⟨48,[(0,.ref 1000000 0),(5,vi x1.1),(26,.eref 3000000 5 (Int.toNat x1.1) 4),(29,vs aC.Language),(31,vi aC.Year),(32,.ref 3 5)],[(3,.box (tc ah aC)),(1000000,.box [.own 3000000,.own 3000001]),(3000000,.deep 91 5 aW.Places.length [.flat,.flat,.flat,.flat,(.sl 169 5 [.flat,.flat,.flat,.flat,.flat])] (aW.Places.map ab)),(3000001,oa 85 4 ac aW.Links)]⟩) ?_ (fun d38=> ?_)
 exact DE.all [7,13] (by kernel_rfl) (by simp) (List.forall_mem_cons.2 ⟨bW.mk (i:=7) (L':= #[true,true,true,true,true,true,true,true,true,true,true,true,true,false,false,false,false,false,false,false]) rfl (al.le (jV (L:=aW.Places) (f:=ab) (d:=3000000) (k:=3001027) (e:=91) (m:=5) (j:=4) (e':=169) (m':=5) (n':=x2.Names.length) (ss:=[.flat,.flat,.flat,.flat,(.sl 169 5 [.flat,.flat,.flat,.flat,.flat])]) (ss':=[.flat,.flat,.flat,.flat,.flat]) (es':=x2.Names.map af) (ti:=ej) (y:=oa 169 5 af x2.Names) hx2 aa rfl rfl (.inr ⟨rfl,rfl⟩)) Le.ao) (by kernel_rfl) d42,(List.forall_mem_cons.2 ⟨bW.mk (i:=13) (L':= #[true,true,true,true,true,true,true,false,true,true,true,true,true,true,false,false,false,false,false,false]) rfl (al.le (al.bj aa (σ':=⟨48,[(33,vs aC.Text),(0,.ref 1000000 0),(5,vi x1.1),(26,.eref 3000000 5 (Int.toNat x1.1) 4),(29,vs aC.Language),(31,vi aC.Year),(32,.ref 3 5)],[(3,.box (tc ah aC)),(1000000,.box [.own 3000000,.own 3000001]),(3000000,.deep 91 5 aW.Places.length [.flat,.flat,.flat,.flat,(.sl 169 5 [.flat,.flat,.flat,.flat,.flat])] (aW.Places.map ab)),(3000001,oa 85 4 ac aW.Links)]⟩) (by kernel_rfl)) Le.ao) (by kernel_rfl) d45,(fun _ h=>absurd h List.not_mem_nil)⟩)⟩)
 refine DE.aJ (fuel:=8) (L:= #[true,true,true,true,true,true,true,true,true,false,true,false,true,true,false,false,false,false,false,false]) (σ:=⟨48,[(0,.ref 1000000 0),(5,vi x1.1),(27,.own 3001027),(28,.ref 3 4),(30,.ref 3 0),(33,vs aC.Text)],[(3,.box (tc ah aC)),(1000000,.box [.own 3000000,.own 3000001]),(3000000,.hol 91 5 aW.Places.length [.flat,.flat,.flat,.flat,(.sl 169 5 [.flat,.flat,.flat,.flat,.flat])] (aW.Places.map ab) (Int.toNat x1.1) 4 3001027),(3000001,oa 85 4 ac aW.Links),(3001027,oa 169 5 af x2.Names)]⟩) ?_ (fun d37=> ?_)
 exact DE.all [9,11] (by kernel_rfl) (by simp) (List.forall_mem_cons.2 ⟨bW.mk (i:=9) (L':= #[true,true,true,true,true,true,true,true,true,true,true,false,true,true,false,false,false,false,false,false]) rfl (al.le (al.bj aa (σ':=⟨48,[(29,vs aC.Language),(0,.ref 1000000 0),(5,vi x1.1),(27,.own 3001027),(28,.ref 3 4),(30,.ref 3 0),(33,vs aC.Text)],[(3,.box (tc ah aC)),(1000000,.box [.own 3000000,.own 3000001]),(3000000,.hol 91 5 aW.Places.length [.flat,.flat,.flat,.flat,(.sl 169 5 [.flat,.flat,.flat,.flat,.flat])] (aW.Places.map ab) (Int.toNat x1.1) 4 3001027),(3000001,oa 85 4 ac aW.Links),(3001027,oa 169 5 af x2.Names)]⟩) (by kernel_rfl)) Le.ao) (by kernel_rfl) d43,(List.forall_mem_cons.2 ⟨bW.mk (i:=11) (L':= #[true,true,true,true,true,true,true,true,true,false,true,true,true,true,false,false,false,false,false,false]) rfl (al.le (al.bj aa (σ':=⟨48,[(31,vi aC.Year),(0,.ref 1000000 0),(5,vi x1.1),(27,.own 3001027),(28,.ref 3 4),(30,.ref 3 0),(33,vs aC.Text)],[(3,.box (tc ah aC)),(1000000,.box [.own 3000000,.own 3000001]),(3000000,.hol 91 5 aW.Places.length [.flat,.flat,.flat,.flat,(.sl 169 5 [.flat,.flat,.flat,.flat,.flat])] (aW.Places.map ab) (Int.toNat x1.1) 4 3001027),(3000001,oa 85 4 ac aW.Links),(3001027,oa 169 5 af x2.Names)]⟩) (by kernel_rfl)) Le.ao) (by kernel_rfl) d44,(fun _ h=>absurd h List.not_mem_nil)⟩)⟩)
 refine DE.aJ (fuel:=8) (L:= #[true,true,true,true,true,true,true,true,true,false,true,true,true,false,false,false,false,false,false,false]) (σ:=⟨48,[(0,.ref 1000000 0),(5,vi x1.1),(27,.own 3001027),(28,.ref 3 4),(31,vi aC.Year),(32,.ref 3 5)],[(3,.box (tc ah aC)),(1000000,.box [.own 3000000,.own 3000001]),(3000000,.hol 91 5 aW.Places.length [.flat,.flat,.flat,.flat,(.sl 169 5 [.flat,.flat,.flat,.flat,.flat])] (aW.Places.map ab) (Int.toNat x1.1) 4 3001027),(3000001,oa 85 4 ac aW.Links),(3001027,oa 169 5 af x2.Names)]⟩) ?_ (fun d36=> ?_)
 exact DE.all [9,13] (by kernel_rfl) (by simp) (List.forall_mem_cons.2 ⟨bW.mk (i:=9) (L':= #[true,true,true,true,true,true,true,true,true,true,true,true,true,false,false,false,false,false,false,false]) rfl (al.le (al.bj aa (σ':=⟨48,[(29,vs aC.Language),(0,.ref 1000000 0),(5,vi x1.1),(27,.own 3001027),(28,.ref 3 4),(31,vi aC.Year),(32,.ref 3 5)],[(3,.box (tc ah aC)),(1000000,.box [.own 3000000,.own 3000001]),(3000000,.hol 91 5 aW.Places.length [.flat,.flat,.flat,.flat,(.sl 169 5 [.flat,.flat,.flat,.flat,.flat])] (aW.Places.map ab) (Int.toNat x1.1) 4 3001027),(3000001,oa 85 4 ac aW.Links),(3001027,oa 169 5 af x2.Names)]⟩) (by kernel_rfl)) Le.ao) (by kernel_rfl) d42,(List.forall_mem_cons.2 ⟨bW.mk (i:=13) (L':= #[true,true,true,true,true,true,true,true,true,false,true,true,true,true,false,false,false,false,false,false]) rfl (al.le (al.bj aa (σ':=⟨48,[(33,vs aC.Text),(0,.ref 1000000 0),(5,vi x1.1),(27,.own 3001027),(28,.ref 3 4),(31,vi aC.Year),(32,.ref 3 5)],[(3,.box (tc ah aC)),(1000000,.box [.own 3000000,.own 3000001]),(3000000,.hol 91 5 aW.Places.length [.flat,.flat,.flat,.flat,(.sl 169 5 [.flat,.flat,.flat,.flat,.flat])] (aW.Places.map ab) (Int.toNat x1.1) 4 3001027),(3000001,oa 85 4 ac aW.Links),(3001027,oa 169 5 af x2.Names)]⟩) (by kernel_rfl)) Le.ao) (by kernel_rfl) d44,(fun _ h=>absurd h List.not_mem_nil)⟩)⟩)
 refine DE.aJ (fuel:=8) (L:= #[true,true,true,true,true,true,true,true,true,true,true,false,true,false,false,false,false,false,false,false]) (σ:=⟨48,[(0,.ref 1000000 0),(5,vi x1.1),(27,.own 3001027),(29,vs aC.Language),(30,.ref 3 0),(32,.ref 3 5)],[(3,.box (tc ah aC)),(1000000,.box [.own 3000000,.own 3000001]),(3000000,.hol 91 5 aW.Places.length [.flat,.flat,.flat,.flat,(.sl 169 5 [.flat,.flat,.flat,.flat,.flat])] (aW.Places.map ab) (Int.toNat x1.1) 4 3001027),(3000001,oa 85 4 ac aW.Links),(3001027,oa 169 5 af x2.Names)]⟩) ?_ (fun d35=> ?_)
 exact DE.all [11,13] (by kernel_rfl) (by simp) (List.forall_mem_cons.2 ⟨bW.mk (i:=11) (L':= #[true,true,true,true,true,true,true,true,true,true,true,true,true,false,false,false,false,false,false,false]) rfl (al.le (al.bj aa (σ':=⟨48,[(31,vi aC.Year),(0,.ref 1000000 0),(5,vi x1.1),(27,.own 3001027),(29,vs aC.Language),(30,.ref 3 0),(32,.ref 3 5)],[(3,.box (tc ah aC)),(1000000,.box [.own 3000000,.own 3000001]),(3000000,.hol 91 5 aW.Places.length [.flat,.flat,.flat,.flat,(.sl 169 5 [.flat,.flat,.flat,.flat,.flat])] (aW.Places.map ab) (Int.toNat x1.1) 4 3001027),(3000001,oa 85 4 ac aW.Links),(3001027,oa 169 5 af x2.Names)]⟩) (by kernel_rfl)) Le.ao) (by kernel_rfl) d42,(List.forall_mem_cons.2 ⟨bW.mk (i:=13) (L':= #[true,true,true,true,true,true,true,true,true,true,true,false,true,true,false,false,false,false,false,false]) rfl (al.le (al.bj aa (σ':=⟨48,[(33,vs aC.Text),(0,.ref 1000000 0),(5,vi x1.1),(27,.own 3001027),(29,vs aC.Language),(30,.ref 3 0),(32,.ref 3 5)],[(3,.box (tc ah aC)),(1000000,.box [.own 3000000,.own 3000001]),(3000000,.hol 91 5 aW.Places.length [.flat,.flat,.flat,.flat,(.sl 169 5 [.flat,.flat,.flat,.flat,.flat])] (aW.Places.map ab) (Int.toNat x1.1) 4 3001027),(3000001,oa 85 4 ac aW.Links),(3001027,oa 169 5 af x2.Names)]⟩) (by kernel_rfl)) Le.ao) (by kernel_rfl) d43,(fun _ h=>absurd h List.not_mem_nil)⟩)⟩)
 refine DE.aJ (fuel:=9) (L:= #[true,true,true,true,true,true,false,false,true,false,true,true,true,true,false,false,false,false,false,false]) (σ:=⟨48,[(0,.ref 1000000 0),(5,vi x1.1),(25,.eref 3000000 5 (Int.toNat x1.1) 0),(28,.ref 3 4),(31,vi aC.Year),(33,vs aC.Text)],[(3,.box (tc ah aC)),(1000000,.box [.own 3000000,.own 3000001]),(3000000,.deep 91 5 aW.Places.length [.flat,.flat,.flat,.flat,(.sl 169 5 [.flat,.flat,.flat,.flat,.flat])] (aW.Places.map ab)),(3000001,oa 85 4 ac aW.Links)]⟩) ?_ (fun d34=> ?_)
 exact DE.iM aa (i:=6) (L':= #[true,true,true,true,true,true,true,false,true,false,true,true,true,true,false,false,false,false,false,false]) (v:= .eref 3000000 5 (Int.toNat x1.1) 4) rfl rfl (by kernel_rfl) rfl (by kernel_rfl) (by kernel_rfl) (by kernel_rfl) (al.le (al.bj aa (σ':=⟨48,[(26,.eref 3000000 5 (Int.toNat x1.1) 4),(0,.ref 1000000 0),(5,vi x1.1),(25,.eref 3000000 5 (Int.toNat x1.1) 0),(28,.ref 3 4),(31,vi aC.Year),(33,vs aC.Text)],[(3,.box (tc ah aC)),(1000000,.box [.own 3000000,.own 3000001]),(3000000,.deep 91 5 aW.Places.length [.flat,.flat,.flat,.flat,(.sl 169 5 [.flat,.flat,.flat,.flat,.flat])] (aW.Places.map ab)),(3000001,oa 85 4 ac aW.Links)]⟩) (by kernel_rfl)) Le.ao) (by kernel_rfl) d40
 refine DE.aJ (fuel:=9) (L:= #[true,true,true,true,true,true,false,false,true,true,true,false,true,true,false,false,false,false,false,false]) (σ:=⟨48,[(0,.ref 1000000 0),(5,vi x1.1),(25,.eref 3000000 5 (Int.toNat x1.1) 0),(29,vs aC.Language),(30,.ref 3 0),(33,vs aC.Text)],[(3,.box (tc ah aC)),(1000000,.box [.own 3000000,.own 3000001]),(3000000,.deep 91 5 aW.Places.length [.flat,.flat,.flat,.flat,(.sl 169 5 [.flat,.flat,.flat,.flat,.flat])] (aW.Places.map ab)),(3000001,oa 85 4 ac aW.Links)]⟩) ?_ (fun d33=> ?_)
 exact DE.iM aa (i:=6) (L':= #[true,true,true,true,true,true,true,false,true,true,true,false,true,true,false,false,false,false,false,false]) (v:= .eref 3000000 5 (Int.toNat x1.1) 4) rfl rfl (by kernel_rfl) rfl (by kernel_rfl) (by kernel_rfl) (by kernel_rfl) (al.le (al.bj aa (σ':=⟨48,[(26,.eref 3000000 5 (Int.toNat x1.1) 4),(0,.ref 1000000 0),(5,vi x1.1),(25,.eref 3000000 5 (Int.toNat x1.1) 0),(29,vs aC.Language),(30,.ref 3 0),(33,vs aC.Text)],[(3,.box (tc ah aC)),(1000000,.box [.own 3000000,.own 3000001]),(3000000,.deep 91 5 aW.Places.length [.flat,.flat,.flat,.flat,(.sl 169 5 [.flat,.flat,.flat,.flat,.flat])] (aW.Places.map ab)),(3000001,oa 85 4 ac aW.Links)]⟩) (by kernel_rfl)) Le.ao) (by kernel_rfl) d39
 refine DE.aJ (fuel:=9) (L:= #[true,true,true,true,true,false,false,false,true,true,true,true,true,true,false,false,false,false,false,false]) (σ:=⟨48,[(0,.ref 1000000 0),(5,vi x1.1),(23,.own 3000000),(24,vi x1.1),(29,vs aC.Language),(31,vi aC.Year),(33,vs aC.Text)],[(1000000,.box [.own 3000000,.own 3000001]),(3000000,.deep 91 5 aW.Places.length [.flat,.flat,.flat,.flat,(.sl 169 5 [.flat,.flat,.flat,.flat,.flat])] (aW.Places.map ab)),(3000001,oa 85 4 ac aW.Links)]⟩) ?_ (fun d32=> ?_)
 exact DE.all [5] (by kernel_rfl) (by simp) (List.forall_mem_cons.2 ⟨bW.mk (i:=5) (L':= #[true,true,true,true,true,true,false,false,true,true,true,true,true,true,false,false,false,false,false,false]) rfl (al.le (al.kn (cm (d:=3000000) (L:=aW.Places) (f:=ab) (ti:=df) (tj:=cD) (e:=91) (e':=91) (m:=5) (k:= .i64) (ss:=[.flat,.flat,.flat,.flat,(.sl 169 5 [.flat,.flat,.flat,.flat,.flat])]) aa rfl hx2) (by kernel_rfl)) Le.ao) (by kernel_rfl) d41,(fun _ h=>absurd h List.not_mem_nil)⟩)
 refine DE.aJ (fuel:=9) (L:= #[true,true,true,true,true,true,false,false,true,true,true,true,true,false,false,false,false,false,false,false]) (σ:=⟨48,[(0,.ref 1000000 0),(5,vi x1.1),(25,.eref 3000000 5 (Int.toNat x1.1) 0),(29,vs aC.Language),(31,vi aC.Year),(32,.ref 3 5)],[(3,.box (tc ah aC)),(1000000,.box [.own 3000000,.own 3000001]),(3000000,.deep 91 5 aW.Places.length [.flat,.flat,.flat,.flat,(.sl 169 5 [.flat,.flat,.flat,.flat,.flat])] (aW.Places.map ab)),(3000001,oa 85 4 ac aW.Links)]⟩) ?_ (fun d31=> ?_)
 exact DE.iM aa (i:=6) (L':= #[true,true,true,true,true,true,true,false,true,true,true,true,true,false,false,false,false,false,false,false]) (v:= .eref 3000000 5 (Int.toNat x1.1) 4) rfl rfl (by kernel_rfl) rfl (by kernel_rfl) (by kernel_rfl) (by kernel_rfl) (al.le (al.bj aa (σ':=⟨48,[(26,.eref 3000000 5 (Int.toNat x1.1) 4),(0,.ref 1000000 0),(5,vi x1.1),(25,.eref 3000000 5 (Int.toNat x1.1) 0),(29,vs aC.Language),(31,vi aC.Year),(32,.ref 3 5)],[(3,.box (tc ah aC)),(1000000,.box [.own 3000000,.own 3000001]),(3000000,.deep 91 5 aW.Places.length [.flat,.flat,.flat,.flat,(.sl 169 5 [.flat,.flat,.flat,.flat,.flat])] (aW.Places.map ab)),(3000001,oa 85 4 ac aW.Links)]⟩) (by kernel_rfl)) Le.ao) (by kernel_rfl) d38
 refine DE.aJ (fuel:=9) (L:= #[true,true,true,true,true,true,true,false,true,false,true,false,true,true,false,false,false,false,false,false]) (σ:=⟨48,[(0,.ref 1000000 0),(5,vi x1.1),(26,.eref 3000000 5 (Int.toNat x1.1) 4),(28,.ref 3 4),(30,.ref 3 0),(33,vs aC.Text)],[(3,.box (tc ah aC)),(1000000,.box [.own 3000000,.own 3000001]),(3000000,.deep 91 5 aW.Places.length [.flat,.flat,.flat,.flat,(.sl 169 5 [.flat,.flat,.flat,.flat,.flat])] (aW.Places.map ab)),(3000001,oa 85 4 ac aW.Links)]⟩) ?_ (fun d30=> ?_)
 exact DE.all [7,9,11] (by kernel_rfl) (by simp) (List.forall_mem_cons.2 ⟨bW.mk (i:=7) (L':= #[true,true,true,true,true,true,true,true,true,false,true,false,true,true,false,false,false,false,false,false]) rfl (al.le (jV (L:=aW.Places) (f:=ab) (d:=3000000) (k:=3001027) (e:=91) (m:=5) (j:=4) (e':=169) (m':=5) (n':=x2.Names.length) (ss:=[.flat,.flat,.flat,.flat,(.sl 169 5 [.flat,.flat,.flat,.flat,.flat])]) (ss':=[.flat,.flat,.flat,.flat,.flat]) (es':=x2.Names.map af) (ti:=ej) (y:=oa 169 5 af x2.Names) hx2 aa rfl rfl (.inr ⟨rfl,rfl⟩)) Le.ao) (by kernel_rfl) d37,(List.forall_mem_cons.2 ⟨bW.mk (i:=9) (L':= #[true,true,true,true,true,true,true,false,true,true,true,false,true,true,false,false,false,false,false,false]) rfl (al.le (al.bj aa (σ':=⟨48,[(29,vs aC.Language),(0,.ref 1000000 0),(5,vi x1.1),(26,.eref 3000000 5 (Int.toNat x1.1) 4),(28,.ref 3 4),(30,.ref 3 0),(33,vs aC.Text)],[(3,.box (tc ah aC)),(1000000,.box [.own 3000000,.own 3000001]),(3000000,.deep 91 5 aW.Places.length [.flat,.flat,.flat,.flat,(.sl 169 5 [.flat,.flat,.flat,.flat,.flat])] (aW.Places.map ab)),(3000001,oa 85 4 ac aW.Links)]⟩) (by kernel_rfl)) Le.ao) (by kernel_rfl) d39,(List.forall_mem_cons.2 ⟨bW.mk (i:=11) (L':= #[true,true,true,true,true,true,true,false,true,false,true,true,true,true,false,false,false,false,false,false]) rfl (al.le (al.bj aa (σ':=⟨48,[(31,vi aC.Year),(0,.ref 1000000 0),(5,vi x1.1),(26,.eref 3000000 5 (Int.toNat x1.1) 4),(28,.ref 3 4),(30,.ref 3 0),(33,vs aC.Text)],[(3,.box (tc ah aC)),(1000000,.box [.own 3000000,.own 3000001]),(3000000,.deep 91 5 aW.Places.length [.flat,.flat,.flat,.flat,(.sl 169 5 [.flat,.flat,.flat,.flat,.flat])] (aW.Places.map ab)),(3000001,oa 85 4 ac aW.Links)]⟩) (by kernel_rfl)) Le.ao) (by kernel_rfl) d40,(fun _ h=>absurd h List.not_mem_nil)⟩)⟩)⟩)
 refine DE.aJ (fuel:=9) (L:= #[true,true,true,true,true,true,true,false,true,false,true,true,true,false,false,false,false,false,false,false]) (σ:=⟨48,[(0,.ref 1000000 0),(5,vi x1.1),(26,.eref 3000000 5 (Int.toNat x1.1) 4),(28,.ref 3 4),(31,vi aC.Year),(32,.ref 3 5)],[(3,.box (tc ah aC)),(1000000,.box [.own 3000000,.own 3000001]),(3000000,.deep 91 5 aW.Places.length [.flat,.flat,.flat,.flat,(.sl 169 5 [.flat,.flat,.flat,.flat,.flat])] (aW.Places.map ab)),(3000001,oa 85 4 ac aW.Links)]⟩) ?_ (fun d29=> ?_)
 exact DE.all [7,9,13] (by kernel_rfl) (by simp) (List.forall_mem_cons.2 ⟨bW.mk (i:=7) (L':= #[true,true,true,true,true,true,true,true,true,false,true,true,true,false,false,false,false,false,false,false]) rfl (al.le (jV (L:=aW.Places) (f:=ab) (d:=3000000) (k:=3001027) (e:=91) (m:=5) (j:=4) (e':=169) (m':=5) (n':=x2.Names.length) (ss:=[.flat,.flat,.flat,.flat,(.sl 169 5 [.flat,.flat,.flat,.flat,.flat])]) (ss':=[.flat,.flat,.flat,.flat,.flat]) (es':=x2.Names.map af) (ti:=ej) (y:=oa 169 5 af x2.Names) hx2 aa rfl rfl (.inr ⟨rfl,rfl⟩)) Le.ao) (by kernel_rfl) d36,(List.forall_mem_cons.2 ⟨bW.mk (i:=9) (L':= #[true,true,true,true,true,true,true,false,true,true,true,true,true,false,false,false,false,false,false,false]) rfl (al.le (al.bj aa (σ':=⟨48,[(29,vs aC.Language),(0,.ref 1000000 0),(5,vi x1.1),(26,.eref 3000000 5 (Int.toNat x1.1) 4),(28,.ref 3 4),(31,vi aC.Year),(32,.ref 3 5)],[(3,.box (tc ah aC)),(1000000,.box [.own 3000000,.own 3000001]),(3000000,.deep 91 5 aW.Places.length [.flat,.flat,.flat,.flat,(.sl 169 5 [.flat,.flat,.flat,.flat,.flat])] (aW.Places.map ab)),(3000001,oa 85 4 ac aW.Links)]⟩) (by kernel_rfl)) Le.ao) (by kernel_rfl) d38,(List.forall_mem_cons.2 ⟨bW.mk (i:=13) (L':= #[true,true,true,true,true,true,true,false,true,false,true,true,true,true,false,false,false,false,false,false]) rfl (al.le (al.bj aa (σ':=⟨48,[(33,vs aC.Text),(0,.ref 1000000 0),(5,vi x1.1),(26,.eref 3000000 5 (Int.toNat x1.1) 4),(28,.ref 3 4),(31,vi aC.Year),(32,.ref 3 5)],[(3,.box (tc ah aC)),(1000000,.box [.own 3000000,.own 3000001]),(3000000,.deep 91 5 aW.Places.length [.flat,.flat,.flat,.flat,(.sl 169 5 [.flat,.flat,.flat,.flat,.flat])] (aW.Places.map ab)),(3000001,oa 85 4 ac aW.Links)]⟩) (by kernel_rfl)) Le.ao) (by kernel_rfl) d40,(fun _ h=>absurd h List.not_mem_nil)⟩)⟩)⟩)
 refine DE.aJ (fuel:=9) (L:= #[true,true,true,true,true,true,true,false,true,true,true,false,true,false,false,false,false,false,false,false]) (σ:=⟨48,[(0,.ref 1000000 0),(5,vi x1.1),(26,.eref 3000000 5 (Int.toNat x1.1) 4),(29,vs aC.Language),(30,.ref 3 0),(32,.ref 3 5)],[(3,.box (tc ah aC)),(1000000,.box [.own 3000000,.own 3000001]),(3000000,.deep 91 5 aW.Places.length [.flat,.flat,.flat,.flat,(.sl 169 5 [.flat,.flat,.flat,.flat,.flat])] (aW.Places.map ab)),(3000001,oa 85 4 ac aW.Links)]⟩) ?_ (fun d28=> ?_)
 exact DE.all [7,11,13] (by kernel_rfl) (by simp) (List.forall_mem_cons.2 ⟨bW.mk (i:=7) (L':= #[true,true,true,true,true,true,true,true,true,true,true,false,true,false,false,false,false,false,false,false]) rfl (al.le (jV (L:=aW.Places) (f:=ab) (d:=3000000) (k:=3001027) (e:=91) (m:=5) (j:=4) (e':=169) (m':=5) (n':=x2.Names.length) (ss:=[.flat,.flat,.flat,.flat,(.sl 169 5 [.flat,.flat,.flat,.flat,.flat])]) (ss':=[.flat,.flat,.flat,.flat,.flat]) (es':=x2.Names.map af) (ti:=ej) (y:=oa 169 5 af x2.Names) hx2 aa rfl rfl (.inr ⟨rfl,rfl⟩)) Le.ao) (by kernel_rfl) d35,(List.forall_mem_cons.2 ⟨bW.mk (i:=11) (L':= #[true,true,true,true,true,true,true,false,true,true,true,true,true,false,false,false,false,false,false,false]) rfl (al.le (al.bj aa (σ':=⟨48,[(31,vi aC.Year),(0,.ref 1000000 0),(5,vi x1.1),(26,.eref 3000000 5 (Int.toNat x1.1) 4),(29,vs aC.Language),(30,.ref 3 0),(32,.ref 3 5)],[(3,.box (tc ah aC)),(1000000,.box [.own 3000000,.own 3000001]),(3000000,.deep 91 5 aW.Places.length [.flat,.flat,.flat,.flat,(.sl 169 5 [.flat,.flat,.flat,.flat,.flat])] (aW.Places.map ab)),(3000001,oa 85 4 ac aW.Links)]⟩) (by kernel_rfl)) Le.ao) (by kernel_rfl) d38,(List.forall_mem_cons.2 ⟨bW.mk (i:=13) (L':= #[true,true,true,true,true,true,true,false,true,true,true,false,true,true,false,false,false,false,false,false]) rfl (al.le (al.bj aa (σ':=⟨48,[(33,vs aC.Text),(0,.ref 1000000 0),(5,vi x1.1),(26,.eref 3000000 5 (Int.toNat x1.1) 4),(29,vs aC.Language),(30,.ref 3 0),(32,.ref 3 5)],[(3,.box (tc ah aC)),(1000000,.box [.own 3000000,.own 3000001]),(3000000,.deep 91 5 aW.Places.length [.flat,.flat,.flat,.flat,(.sl 169 5 [.flat,.flat,.flat,.flat,.flat])] (aW.Places.map ab)),(3000001,oa 85 4 ac aW.Links)]⟩) (by kernel_rfl)) Le.ao) (by kernel_rfl) d39,(fun _ h=>absurd h List.not_mem_nil)⟩)⟩)⟩)
 refine DE.aJ (fuel:=9) (L:= #[true,true,true,true,true,true,true,true,true,false,true,false,true,false,false,false,false,false,false,false]) (σ:=⟨48,[(0,.ref 1000000 0),(5,vi x1.1),(27,.own 3001027),(28,.ref 3 4),(30,.ref 3 0),(32,.ref 3 5)],[(3,.box (tc ah aC)),(1000000,.box [.own 3000000,.own 3000001]),(3000000,.hol 91 5 aW.Places.length [.flat,.flat,.flat,.flat,(.sl 169 5 [.flat,.flat,.flat,.flat,.flat])] (aW.Places.map ab) (Int.toNat x1.1) 4 3001027),(3000001,oa 85 4 ac aW.Links),(3001027,oa 169 5 af x2.Names)]⟩) ?_ (fun d27=> ?_)
 exact DE.all [9,11,13] (by kernel_rfl) (by simp) (List.forall_mem_cons.2 ⟨bW.mk (i:=9) (L':= #[true,true,true,true,true,true,true,true,true,true,true,false,true,false,false,false,false,false,false,false]) rfl (al.le (al.bj aa (σ':=⟨48,[(29,vs aC.Language),(0,.ref 1000000 0),(5,vi x1.1),(27,.own 3001027),(28,.ref 3 4),(30,.ref 3 0),(32,.ref 3 5)],[(3,.box (tc ah aC)),(1000000,.box [.own 3000000,.own 3000001]),(3000000,.hol 91 5 aW.Places.length [.flat,.flat,.flat,.flat,(.sl 169 5 [.flat,.flat,.flat,.flat,.flat])] (aW.Places.map ab) (Int.toNat x1.1) 4 3001027),(3000001,oa 85 4 ac aW.Links),(3001027,oa 169 5 af x2.Names)]⟩) (by kernel_rfl)) Le.ao) (by kernel_rfl) d35,(List.forall_mem_cons.2 ⟨bW.mk (i:=11) (L':= #[true,true,true,true,true,true,true,true,true,false,true,true,true,false,false,false,false,false,false,false]) rfl (al.le (al.bj aa (σ':=⟨48,[(31,vi aC.Year),(0,.ref 1000000 0),(5,vi x1.1),(27,.own 3001027),(28,.ref 3 4),(30,.ref 3 0),(32,.ref 3 5)],[(3,.box (tc ah aC)),(1000000,.box [.own 3000000,.own 3000001]),(3000000,.hol 91 5 aW.Places.length [.flat,.flat,.flat,.flat,(.sl 169 5 [.flat,.flat,.flat,.flat,.flat])] (aW.Places.map ab) (Int.toNat x1.1) 4 3001027),(3000001,oa 85 4 ac aW.Links),(3001027,oa 169 5 af x2.Names)]⟩) (by kernel_rfl)) Le.ao) (by kernel_rfl) d36,(List.forall_mem_cons.2 ⟨bW.mk (i:=13) (L':= #[true,true,true,true,true,true,true,true,true,false,true,false,true,true,false,false,false,false,false,false]) rfl (al.le (al.bj aa (σ':=⟨48,[(33,vs aC.Text),(0,.ref 1000000 0),(5,vi x1.1),(27,.own 3001027),(28,.ref 3 4),(30,.ref 3 0),(32,.ref 3 5)],[(3,.box (tc ah aC)),(1000000,.box [.own 3000000,.own 3000001]),(3000000,.hol 91 5 aW.Places.length [.flat,.flat,.flat,.flat,(.sl 169 5 [.flat,.flat,.flat,.flat,.flat])] (aW.Places.map ab) (Int.toNat x1.1) 4 3001027),(3000001,oa 85 4 ac aW.Links),(3001027,oa 169 5 af x2.Names)]⟩) (by kernel_rfl)) Le.ao) (by kernel_rfl) d37,(fun _ h=>absurd h List.not_mem_nil)⟩)⟩)⟩)
 refine DE.aJ (fuel:=10) (L:= #[true,true,true,false,true,false,false,false,true,true,true,true,true,true,false,false,false,false,false,false]) (σ:=⟨48,[(0,.ref 1000000 0),(5,vi x1.1),(22,.ref 1000000 0),(24,vi x1.1),(29,vs aC.Language),(31,vi aC.Year),(33,vs aC.Text)],[(1000000,.box [.own 3000000,.own 3000001]),(3000000,.deep 91 5 aW.Places.length [.flat,.flat,.flat,.flat,(.sl 169 5 [.flat,.flat,.flat,.flat,.flat])] (aW.Places.map ab)),(3000001,oa 85 4 ac aW.Links)]⟩) ?_ (fun d26=> ?_)
 exact DE.all [3] (by kernel_rfl) (by simp) (List.forall_mem_cons.2 ⟨bW.mk (i:=3) (L':= #[true,true,true,true,true,false,false,false,true,true,true,true,true,true,false,false,false,false,false,false]) rfl (al.le (al.bj aa (σ':=⟨48,[(23,.own 3000000),(0,.ref 1000000 0),(5,vi x1.1),(22,.ref 1000000 0),(24,vi x1.1),(29,vs aC.Language),(31,vi aC.Year),(33,vs aC.Text)],[(1000000,.box [.own 3000000,.own 3000001]),(3000000,.deep 91 5 aW.Places.length [.flat,.flat,.flat,.flat,(.sl 169 5 [.flat,.flat,.flat,.flat,.flat])] (aW.Places.map ab)),(3000001,oa 85 4 ac aW.Links)]⟩) (by kernel_rfl)) Le.ao) (by kernel_rfl) d32,(fun _ h=>absurd h List.not_mem_nil)⟩)
 refine DE.aJ (fuel:=10) (L:= #[true,true,true,true,true,true,false,false,true,false,true,false,true,true,false,false,false,false,false,false]) (σ:=⟨48,[(0,.ref 1000000 0),(5,vi x1.1),(25,.eref 3000000 5 (Int.toNat x1.1) 0),(28,.ref 3 4),(30,.ref 3 0),(33,vs aC.Text)],[(3,.box (tc ah aC)),(1000000,.box [.own 3000000,.own 3000001]),(3000000,.deep 91 5 aW.Places.length [.flat,.flat,.flat,.flat,(.sl 169 5 [.flat,.flat,.flat,.flat,.flat])] (aW.Places.map ab)),(3000001,oa 85 4 ac aW.Links)]⟩) ?_ (fun d25=> ?_)
 exact DE.iM aa (i:=6) (L':= #[true,true,true,true,true,true,true,false,true,false,true,false,true,true,false,false,false,false,false,false]) (v:= .eref 3000000 5 (Int.toNat x1.1) 4) rfl rfl (by kernel_rfl) rfl (by kernel_rfl) (by kernel_rfl) (by kernel_rfl) (al.le (al.bj aa (σ':=⟨48,[(26,.eref 3000000 5 (Int.toNat x1.1) 4),(0,.ref 1000000 0),(5,vi x1.1),(25,.eref 3000000 5 (Int.toNat x1.1) 0),(28,.ref 3 4),(30,.ref 3 0),(33,vs aC.Text)],[(3,.box (tc ah aC)),(1000000,.box [.own 3000000,.own 3000001]),(3000000,.deep 91 5 aW.Places.length [.flat,.flat,.flat,.flat,(.sl 169 5 [.flat,.flat,.flat,.flat,.flat])] (aW.Places.map ab)),(3000001,oa 85 4 ac aW.Links)]⟩) (by kernel_rfl)) Le.ao) (by kernel_rfl) d30
 refine DE.aJ (fuel:=10) (L:= #[true,true,true,true,true,false,false,false,true,false,true,true,true,true,false,false,false,false,false,false]) (σ:=⟨48,[(0,.ref 1000000 0),(5,vi x1.1),(23,.own 3000000),(24,vi x1.1),(28,.ref 3 4),(31,vi aC.Year),(33,vs aC.Text)],[(3,.box (tc ah aC)),(1000000,.box [.own 3000000,.own 3000001]),(3000000,.deep 91 5 aW.Places.length [.flat,.flat,.flat,.flat,(.sl 169 5 [.flat,.flat,.flat,.flat,.flat])] (aW.Places.map ab)),(3000001,oa 85 4 ac aW.Links)]⟩) ?_ (fun d24=> ?_)
 exact DE.all [5,9] (by kernel_rfl) (by simp) (List.forall_mem_cons.2 ⟨bW.mk (i:=5) (L':= #[true,true,true,true,true,true,false,false,true,false,true,true,true,true,false,false,false,false,false,false]) rfl (al.le (al.kn (cm (d:=3000000) (L:=aW.Places) (f:=ab) (ti:=df) (tj:=cD) (e:=91) (e':=91) (m:=5) (k:= .i64) (ss:=[.flat,.flat,.flat,.flat,(.sl 169 5 [.flat,.flat,.flat,.flat,.flat])]) aa rfl hx2) (by kernel_rfl)) Le.ao) (by kernel_rfl) d34,(List.forall_mem_cons.2 ⟨bW.mk (i:=9) (L':= #[true,true,true,true,true,false,false,false,true,true,true,true,true,true,false,false,false,false,false,false]) rfl (al.le (al.bj aa (σ':=⟨48,[(29,vs aC.Language),(0,.ref 1000000 0),(5,vi x1.1),(23,.own 3000000),(24,vi x1.1),(28,.ref 3 4),(31,vi aC.Year),(33,vs aC.Text)],[(3,.box (tc ah aC)),(1000000,.box [.own 3000000,.own 3000001]),(3000000,.deep 91 5 aW.Places.length [.flat,.flat,.flat,.flat,(.sl 169 5 [.flat,.flat,.flat,.flat,.flat])] (aW.Places.map ab)),(3000001,oa 85 4 ac aW.Links)]⟩) (by kernel_rfl)) Le.ao) (by kernel_rfl) d32,(fun _ h=>absurd h List.not_mem_nil)⟩)⟩)
 refine DE.aJ (fuel:=10) (L:= #[true,true,true,true,true,true,false,false,true,false,true,true,true,false,false,false,false,false,false,false]) (σ:=⟨48,[(0,.ref 1000000 0),(5,vi x1.1),(25,.eref 3000000 5 (Int.toNat x1.1) 0),(28,.ref 3 4),(31,vi aC.Year),(32,.ref 3 5)],[(3,.box (tc ah aC)),(1000000,.box [.own 3000000,.own 3000001]),(3000000,.deep 91 5 aW.Places.length [.flat,.flat,.flat,.flat,(.sl 169 5 [.flat,.flat,.flat,.flat,.flat])] (aW.Places.map ab)),(3000001,oa 85 4 ac aW.Links)]⟩) ?_ (fun d23=> ?_)
 exact DE.iM aa (i:=6) (L':= #[true,true,true,true,true,true,true,false,true,false,true,true,true,false,false,false,false,false,false,false]) (v:= .eref 3000000 5 (Int.toNat x1.1) 4) rfl rfl (by kernel_rfl) rfl (by kernel_rfl) (by kernel_rfl) (by kernel_rfl) (al.le (al.bj aa (σ':=⟨48,[(26,.eref 3000000 5 (Int.toNat x1.1) 4),(0,.ref 1000000 0),(5,vi x1.1),(25,.eref 3000000 5 (Int.toNat x1.1) 0),(28,.ref 3 4),(31,vi aC.Year),(32,.ref 3 5)],[(3,.box (tc ah aC)),(1000000,.box [.own 3000000,.own 3000001]),(3000000,.deep 91 5 aW.Places.length [.flat,.flat,.flat,.flat,(.sl 169 5 [.flat,.flat,.flat,.flat,.flat])] (aW.Places.map ab)),(3000001,oa 85 4 ac aW.Links)]⟩) (by kernel_rfl)) Le.ao) (by kernel_rfl) d29
 refine DE.aJ (fuel:=10) (L:= #[true,true,true,true,true,false,false,false,true,true,true,false,true,true,false,false,false,false,false,false]) (σ:=⟨48,[(0,.ref 1000000 0),(5,vi x1.1),(23,.own 3000000),(24,vi x1.1),(29,vs aC.Language),(30,.ref 3 0),(33,vs aC.Text)],[(3,.box (tc ah aC)),(1000000,.box [.own 3000000,.own 3000001]),(3000000,.deep 91 5 aW.Places.length [.flat,.flat,.flat,.flat,(.sl 169 5 [.flat,.flat,.flat,.flat,.flat])] (aW.Places.map ab)),(3000001,oa 85 4 ac aW.Links)]⟩) ?_ (fun d22=> ?_)
 exact DE.all [5,11] (by kernel_rfl) (by simp) (List.forall_mem_cons.2 ⟨bW.mk (i:=5) (L':= #[true,true,true,true,true,true,false,false,true,true,true,false,true,true,false,false,false,false,false,false]) rfl (al.le (al.kn (cm (d:=3000000) (L:=aW.Places) (f:=ab) (ti:=df) (tj:=cD) (e:=91) (e':=91) (m:=5) (k:= .i64) (ss:=[.flat,.flat,.flat,.flat,(.sl 169 5 [.flat,.flat,.flat,.flat,.flat])]) aa rfl hx2) (by kernel_rfl)) Le.ao) (by kernel_rfl) d33,(List.forall_mem_cons.2 ⟨bW.mk (i:=11) (L':= #[true,true,true,true,true,false,false,false,true,true,true,true,true,true,false,false,false,false,false,false]) rfl (al.le (al.bj aa (σ':=⟨48,[(31,vi aC.Year),(0,.ref 1000000 0),(5,vi x1.1),(23,.own 3000000),(24,vi x1.1),(29,vs aC.Language),(30,.ref 3 0),(33,vs aC.Text)],[(3,.box (tc ah aC)),(1000000,.box [.own 3000000,.own 3000001]),(3000000,.deep 91 5 aW.Places.length [.flat,.flat,.flat,.flat,(.sl 169 5 [.flat,.flat,.flat,.flat,.flat])] (aW.Places.map ab)),(3000001,oa 85 4 ac aW.Links)]⟩) (by kernel_rfl)) Le.ao) (by kernel_rfl) d32,(fun _ h=>absurd h List.not_mem_nil)⟩)⟩)
 refine DE.aJ (fuel:=10) (L:= #[true,true,true,true,true,false,false,false,true,true,true,true,true,false,false,false,false,false,false,false]) (σ:=⟨48,[(0,.ref 1000000 0),(5,vi x1.1),(23,.own 3000000),(24,vi x1.1),(29,vs aC.Language),(31,vi aC.Year),(32,.ref 3 5)],[(3,.box (tc ah aC)),(1000000,.box [.own 3000000,.own 3000001]),(3000000,.deep 91 5 aW.Places.length [.flat,.flat,.flat,.flat,(.sl 169 5 [.flat,.flat,.flat,.flat,.flat])] (aW.Places.map ab)),(3000001,oa 85 4 ac aW.Links)]⟩) ?_ (fun d21=> ?_)
 exact DE.all [5,13] (by kernel_rfl) (by simp) (List.forall_mem_cons.2 ⟨bW.mk (i:=5) (L':= #[true,true,true,true,true,true,false,false,true,true,true,true,true,false,false,false,false,false,false,false]) rfl (al.le (al.kn (cm (d:=3000000) (L:=aW.Places) (f:=ab) (ti:=df) (tj:=cD) (e:=91) (e':=91) (m:=5) (k:= .i64) (ss:=[.flat,.flat,.flat,.flat,(.sl 169 5 [.flat,.flat,.flat,.flat,.flat])]) aa rfl hx2) (by kernel_rfl)) Le.ao) (by kernel_rfl) d31,(List.forall_mem_cons.2 ⟨bW.mk (i:=13) (L':= #[true,true,true,true,true,false,false,false,true,true,true,true,true,true,false,false,false,false,false,false]) rfl (al.le (al.bj aa (σ':=⟨48,[(33,vs aC.Text),(0,.ref 1000000 0),(5,vi x1.1),(23,.own 3000000),(24,vi x1.1),(29,vs aC.Language),(31,vi aC.Year),(32,.ref 3 5)],[(3,.box (tc ah aC)),(1000000,.box [.own 3000000,.own 3000001]),(3000000,.deep 91 5 aW.Places.length [.flat,.flat,.flat,.flat,(.sl 169 5 [.flat,.flat,.flat,.flat,.flat])] (aW.Places.map ab)),(3000001,oa 85 4 ac aW.Links)]⟩) (by kernel_rfl)) Le.ao) (by kernel_rfl) d32,(fun _ h=>absurd h List.not_mem_nil)⟩)⟩)
 refine DE.aJ (fuel:=10) (L:= #[true,true,true,true,true,true,false,false,true,true,true,false,true,false,false,false,false,false,false,false]) (σ:=⟨48,[(0,.ref 1000000 0),(5,vi x1.1),(25,.eref 3000000 5 (Int.toNat x1.1) 0),(29,vs aC.Language),(30,.ref 3 0),(32,.ref 3 5)],[(3,.box (tc ah aC)),(1000000,.box [.own 3000000,.own 3000001]),(3000000,.deep 91 5 aW.Places.length [.flat,.flat,.flat,.flat,(.sl 169 5 [.flat,.flat,.flat,.flat,.flat])] (aW.Places.map ab)),(3000001,oa 85 4 ac aW.Links)]⟩) ?_ (fun d20=> ?_)
 exact DE.iM aa (i:=6) (L':= #[true,true,true,true,true,true,true,false,true,true,true,false,true,false,false,false,false,false,false,false]) (v:= .eref 3000000 5 (Int.toNat x1.1) 4) rfl rfl (by kernel_rfl) rfl (by kernel_rfl) (by kernel_rfl) (by kernel_rfl) (al.le (al.bj aa (σ':=⟨48,[(26,.eref 3000000 5 (Int.toNat x1.1) 4),(0,.ref 1000000 0),(5,vi x1.1),(25,.eref 3000000 5 (Int.toNat x1.1) 0),(29,vs aC.Language),(30,.ref 3 0),(32,.ref 3 5)],[(3,.box (tc ah aC)),(1000000,.box [.own 3000000,.own 3000001]),(3000000,.deep 91 5 aW.Places.length [.flat,.flat,.flat,.flat,(.sl 169 5 [.flat,.flat,.flat,.flat,.flat])] (aW.Places.map ab)),(3000001,oa 85 4 ac aW.Links)]⟩) (by kernel_rfl)) Le.ao) (by kernel_rfl) d28
 refine DE.aJ (fuel:=10) (L:= #[true,true,true,true,true,true,true,false,true,false,true,false,true,false,false,false,false,false,false,false]) (σ:=⟨48,[(0,.ref 1000000 0),(5,vi x1.1),(26,.eref 3000000 5 (Int.toNat x1.1) 4),(28,.ref 3 4),(30,.ref 3 0),(32,.ref 3 5)],[(3,.box (tc ah aC)),(1000000,.box [.own 3000000,.own 3000001]),(3000000,.deep 91 5 aW.Places.length [.flat,.flat,.flat,.flat,(.sl 169 5 [.flat,.flat,.flat,.flat,.flat])] (aW.Places.map ab)),(3000001,oa 85 4 ac aW.Links)]⟩) ?_ (fun d19=> ?_)
 exact DE.all [7,9,11,13] (by kernel_rfl) (by simp) (List.forall_mem_cons.2 ⟨bW.mk (i:=7) (L':= #[true,true,true,true,true,true,true,true,true,false,true,false,true,false,false,false,false,false,false,false]) rfl (al.le (jV (L:=aW.Places) (f:=ab) (d:=3000000) (k:=3001027) (e:=91) (m:=5) (j:=4) (e':=169) (m':=5) (n':=x2.Names.length) (ss:=[.flat,.flat,.flat,.flat,(.sl 169 5 [.flat,.flat,.flat,.flat,.flat])]) (ss':=[.flat,.flat,.flat,.flat,.flat]) (es':=x2.Names.map af) (ti:=ej) (y:=oa 169 5 af x2.Names) hx2 aa rfl rfl (.inr ⟨rfl,rfl⟩)) Le.ao) (by kernel_rfl) d27,(List.forall_mem_cons.2 ⟨bW.mk (i:=9) (L':= #[true,true,true,true,true,true,true,false,true,true,true,false,true,false,false,false,false,false,false,false]) rfl (al.le (al.bj aa (σ':=⟨48,[(29,vs aC.Language),(0,.ref 1000000 0),(5,vi x1.1),(26,.eref 3000000 5 (Int.toNat x1.1) 4),(28,.ref 3 4),(30,.ref 3 0),(32,.ref 3 5)],[(3,.box (tc ah aC)),(1000000,.box [.own 3000000,.own 3000001]),(3000000,.deep 91 5 aW.Places.length [.flat,.flat,.flat,.flat,(.sl 169 5 [.flat,.flat,.flat,.flat,.flat])] (aW.Places.map ab)),(3000001,oa 85 4 ac aW.Links)]⟩) (by kernel_rfl)) Le.ao) (by kernel_rfl) d28,(List.forall_mem_cons.2 ⟨bW.mk (i:=11) (L':= #[true,true,true,true,true,true,true,false,true,false,true,true,true,false,false,false,false,false,false,false]) rfl (al.le (al.bj aa (σ':=⟨48,[(31,vi aC.Year),(0,.ref 1000000 0),(5,vi x1.1),(26,.eref 3000000 5 (Int.toNat x1.1) 4),(28,.ref 3 4),(30,.ref 3 0),(32,.ref 3 5)],[(3,.box (tc ah aC)),(1000000,.box [.own 3000000,.own 3000001]),(3000000,.deep 91 5 aW.Places.length [.flat,.flat,.flat,.flat,(.sl 169 5 [.flat,.flat,.flat,.flat,.flat])] (aW.Places.map ab)),(3000001,oa 85 4 ac aW.Links)]⟩) (by kernel_rfl)) Le.ao) (by kernel_rfl) d29,(List.forall_mem_cons.2 ⟨bW.mk (i:=13) (L':= #[true,true,true,true,true,true,true,false,true,false,true,false,true,true,false,false,false,false,false,false]) rfl (al.le (al.bj aa (σ':=⟨48,[(33,vs aC.Text),(0,.ref 1000000 0),(5,vi x1.1),(26,.eref 3000000 5 (Int.toNat x1.1) 4),(28,.ref 3 4),(30,.ref 3 0),(32,.ref 3 5)],[(3,.box (tc ah aC)),(1000000,.box [.own 3000000,.own 3000001]),(3000000,.deep 91 5 aW.Places.length [.flat,.flat,.flat,.flat,(.sl 169 5 [.flat,.flat,.flat,.flat,.flat])] (aW.Places.map ab)),(3000001,oa 85 4 ac aW.Links)]⟩) (by kernel_rfl)) Le.ao) (by kernel_rfl) d30,(fun _ h=>absurd h List.not_mem_nil)⟩)⟩)⟩)⟩)
 refine DE.aJ (fuel:=11) (L:= #[true,true,true,false,true,false,false,false,true,false,true,true,true,true,false,false,false,false,false,false]) (σ:=⟨48,[(0,.ref 1000000 0),(5,vi x1.1),(22,.ref 1000000 0),(24,vi x1.1),(28,.ref 3 4),(31,vi aC.Year),(33,vs aC.Text)],[(3,.box (tc ah aC)),(1000000,.box [.own 3000000,.own 3000001]),(3000000,.deep 91 5 aW.Places.length [.flat,.flat,.flat,.flat,(.sl 169 5 [.flat,.flat,.flat,.flat,.flat])] (aW.Places.map ab)),(3000001,oa 85 4 ac aW.Links)]⟩) ?_ (fun d18=> ?_)
 exact DE.all [3,9] (by kernel_rfl) (by simp) (List.forall_mem_cons.2 ⟨bW.mk (i:=3) (L':= #[true,true,true,true,true,false,false,false,true,false,true,true,true,true,false,false,false,false,false,false]) rfl (al.le (al.bj aa (σ':=⟨48,[(23,.own 3000000),(0,.ref 1000000 0),(5,vi x1.1),(22,.ref 1000000 0),(24,vi x1.1),(28,.ref 3 4),(31,vi aC.Year),(33,vs aC.Text)],[(3,.box (tc ah aC)),(1000000,.box [.own 3000000,.own 3000001]),(3000000,.deep 91 5 aW.Places.length [.flat,.flat,.flat,.flat,(.sl 169 5 [.flat,.flat,.flat,.flat,.flat])] (aW.Places.map ab)),(3000001,oa 85 4 ac aW.Links)]⟩) (by kernel_rfl)) Le.ao) (by kernel_rfl) d24,(List.forall_mem_cons.2 ⟨bW.mk (i:=9) (L':= #[true,true,true,false,true,false,false,false,true,true,true,true,true,true,false,false,false,false,false,false]) rfl (al.le (al.bj aa (σ':=⟨48,[(29,vs aC.Language),(0,.ref 1000000 0),(5,vi x1.1),(22,.ref 1000000 0),(24,vi x1.1),(28,.ref 3 4),(31,vi aC.Year),(33,vs aC.Text)],[(3,.box (tc ah aC)),(1000000,.box [.own 3000000,.own 3000001]),(3000000,.deep 91 5 aW.Places.length [.flat,.flat,.flat,.flat,(.sl 169 5 [.flat,.flat,.flat,.flat,.flat])] (aW.Places.map ab)),(3000001,oa 85 4 ac aW.Links)]⟩) (by kernel_rfl)) Le.ao) (by kernel_rfl) d26,(fun _ h=>absurd h List.not_mem_nil)⟩)⟩)
 refine DE.aJ (fuel:=11) (L:= #[true,true,true,false,true,false,false,false,true,true,true,false,true,true,false,false,false,false,false,false]) (σ:=⟨48,[(0,.ref 1000000 0),(5,vi x1.1),(22,.ref 1000000 0),(24,vi x1.1),(29,vs aC.Language),(30,.ref 3 0),(33,vs aC.Text)],[(3,.box (tc ah aC)),(1000000,.box [.own 3000000,.own 3000001]),(3000000,.deep 91 5 aW.Places.length [.flat,.flat,.flat,.flat,(.sl 169 5 [.flat,.flat,.flat,.flat,.flat])] (aW.Places.map ab)),(3000001,oa 85 4 ac aW.Links)]⟩) ?_ (fun d17=> ?_)
 exact DE.all [3,11] (by kernel_rfl) (by simp) (List.forall_mem_cons.2 ⟨bW.mk (i:=3) (L':= #[true,true,true,true,true,false,false,false,true,true,true,false,true,true,false,false,false,false,false,false]) rfl (al.le (al.bj aa (σ':=⟨48,[(23,.own 3000000),(0,.ref 1000000 0),(5,vi x1.1),(22,.ref 1000000 0),(24,vi x1.1),(29,vs aC.Language),(30,.ref 3 0),(33,vs aC.Text)],[(3,.box (tc ah aC)),(1000000,.box [.own 3000000,.own 3000001]),(3000000,.deep 91 5 aW.Places.length [.flat,.flat,.flat,.flat,(.sl 169 5 [.flat,.flat,.flat,.flat,.flat])] (aW.Places.map ab)),(3000001,oa 85 4 ac aW.Links)]⟩) (by kernel_rfl)) Le.ao) (by kernel_rfl) d22,(List.forall_mem_cons.2 ⟨bW.mk (i:=11) (L':= #[true,true,true,false,true,false,false,false,true,true,true,true,true,true,false,false,false,false,false,false]) rfl (al.le (al.bj aa (σ':=⟨48,[(31,vi aC.Year),(0,.ref 1000000 0),(5,vi x1.1),(22,.ref 1000000 0),(24,vi x1.1),(29,vs aC.Language),(30,.ref 3 0),(33,vs aC.Text)],[(3,.box (tc ah aC)),(1000000,.box [.own 3000000,.own 3000001]),(3000000,.deep 91 5 aW.Places.length [.flat,.flat,.flat,.flat,(.sl 169 5 [.flat,.flat,.flat,.flat,.flat])] (aW.Places.map ab)),(3000001,oa 85 4 ac aW.Links)]⟩) (by kernel_rfl)) Le.ao) (by kernel_rfl) d26,(fun _ h=>absurd h List.not_mem_nil)⟩)⟩)
 refine DE.aJ (fuel:=11) (L:= #[true,true,true,false,true,false,false,false,true,true,true,true,true,false,false,false,false,false,false,false]) (σ:=⟨48,[(0,.ref 1000000 0),(5,vi x1.1),(22,.ref 1000000 0),(24,vi x1.1),(29,vs aC.Language),(31,vi aC.Year),(32,.ref 3 5)],[(3,.box (tc ah aC)),(1000000,.box [.own 3000000,.own 3000001]),(3000000,.deep 91 5 aW.Places.length [.flat,.flat,.flat,.flat,(.sl 169 5 [.flat,.flat,.flat,.flat,.flat])] (aW.Places.map ab)),(3000001,oa 85 4 ac aW.Links)]⟩) ?_ (fun d16=> ?_)
 exact DE.all [3,13] (by kernel_rfl) (by simp) (List.forall_mem_cons.2 ⟨bW.mk (i:=3) (L':= #[true,true,true,true,true,false,false,false,true,true,true,true,true,false,false,false,false,false,false,false]) rfl (al.le (al.bj aa (σ':=⟨48,[(23,.own 3000000),(0,.ref 1000000 0),(5,vi x1.1),(22,.ref 1000000 0),(24,vi x1.1),(29,vs aC.Language),(31,vi aC.Year),(32,.ref 3 5)],[(3,.box (tc ah aC)),(1000000,.box [.own 3000000,.own 3000001]),(3000000,.deep 91 5 aW.Places.length [.flat,.flat,.flat,.flat,(.sl 169 5 [.flat,.flat,.flat,.flat,.flat])] (aW.Places.map ab)),(3000001,oa 85 4 ac aW.Links)]⟩) (by kernel_rfl)) Le.ao) (by kernel_rfl) d21,(List.forall_mem_cons.2 ⟨bW.mk (i:=13) (L':= #[true,true,true,false,true,false,false,false,true,true,true,true,true,true,false,false,false,false,false,false]) rfl (al.le (al.bj aa (σ':=⟨48,[(33,vs aC.Text),(0,.ref 1000000 0),(5,vi x1.1),(22,.ref 1000000 0),(24,vi x1.1),(29,vs aC.Language),(31,vi aC.Year),(32,.ref 3 5)],[(3,.box (tc ah aC)),(1000000,.box [.own 3000000,.own 3000001]),(3000000,.deep 91 5 aW.Places.length [.flat,.flat,.flat,.flat,(.sl 169 5 [.flat,.flat,.flat,.flat,.flat])] (aW.Places.map ab)),(3000001,oa 85 4 ac aW.Links)]⟩) (by kernel_rfl)) Le.ao) (by kernel_rfl) d26,(fun _ h=>absurd h List.not_mem_nil)⟩)⟩)
 refine DE.aJ (fuel:=11) (L:= #[true,true,true,true,true,false,false,false,true,false,true,false,true,true,false,false,false,false,false,false]) (σ:=⟨48,[(0,.ref 1000000 0),(5,vi x1.1),(23,.own 3000000),(24,vi x1.1),(28,.ref 3 4),(30,.ref 3 0),(33,vs aC.Text)],[(3,.box (tc ah aC)),(1000000,.box [.own 3000000,.own 3000001]),(3000000,.deep 91 5 aW.Places.length [.flat,.flat,.flat,.flat,(.sl 169 5 [.flat,.flat,.flat,.flat,.flat])] (aW.Places.map ab)),(3000001,oa 85 4 ac aW.Links)]⟩) ?_ (fun d15=> ?_)
 exact DE.all [5,9,11] (by kernel_rfl) (by simp) (List.forall_mem_cons.2 ⟨bW.mk (i:=5) (L':= #[true,true,true,true,true,true,false,false,true,false,true,false,true,true,false,false,false,false,false,false]) rfl (al.le (al.kn (cm (d:=3000000) (L:=aW.Places) (f:=ab) (ti:=df) (tj:=cD) (e:=91) (e':=91) (m:=5) (k:= .i64) (ss:=[.flat,.flat,.flat,.flat,(.sl 169 5 [.flat,.flat,.flat,.flat,.flat])]) aa rfl hx2) (by kernel_rfl)) Le.ao) (by kernel_rfl) d25,(List.forall_mem_cons.2 ⟨bW.mk (i:=9) (L':= #[true,true,true,true,true,false,false,false,true,true,true,false,true,true,false,false,false,false,false,false]) rfl (al.le (al.bj aa (σ':=⟨48,[(29,vs aC.Language),(0,.ref 1000000 0),(5,vi x1.1),(23,.own 3000000),(24,vi x1.1),(28,.ref 3 4),(30,.ref 3 0),(33,vs aC.Text)],[(3,.box (tc ah aC)),(1000000,.box [.own 3000000,.own 3000001]),(3000000,.deep 91 5 aW.Places.length [.flat,.flat,.flat,.flat,(.sl 169 5 [.flat,.flat,.flat,.flat,.flat])] (aW.Places.map ab)),(3000001,oa 85 4 ac aW.Links)]⟩) (by kernel_rfl)) Le.ao) (by kernel_rfl) d22,(List.forall_mem_cons.2 ⟨bW.mk (i:=11) (L':= #[true,true,true,true,true,false,false,false,true,false,true,true,true,true,false,false,false,false,false,false]) rfl (al.le (al.bj aa (σ':=⟨48,[(31,vi aC.Year),(0,.ref 1000000 0),(5,vi x1.1),(23,.own 3000000),(24,vi x1.1),(28,.ref 3 4),(30,.ref 3 0),(33,vs aC.Text)],[(3,.box (tc ah aC)),(1000000,.box [.own 3000000,.own 3000001]),(3000000,.deep 91 5 aW.Places.length [.flat,.flat,.flat,.flat,(.sl 169 5 [.flat,.flat,.flat,.flat,.flat])] (aW.Places.map ab)),(3000001,oa 85 4 ac aW.Links)]⟩) (by kernel_rfl)) Le.ao) (by kernel_rfl) d24,(fun _ h=>absurd h List.not_mem_nil)⟩)⟩)⟩)
 refine DE.aJ (fuel:=11) (L:= #[true,true,true,true,true,false,false,false,true,false,true,true,true,false,false,false,false,false,false,false]) (σ:=⟨48,[(0,.ref 1000000 0),(5,vi x1.1),(23,.own 3000000),(24,vi x1.1),(28,.ref 3 4),(31,vi aC.Year),(32,.ref 3 5)],[(3,.box (tc ah aC)),(1000000,.box [.own 3000000,.own 3000001]),(3000000,.deep 91 5 aW.Places.length [.flat,.flat,.flat,.flat,(.sl 169 5 [.flat,.flat,.flat,.flat,.flat])] (aW.Places.map ab)),(3000001,oa 85 4 ac aW.Links)]⟩) ?_ (fun d14=> ?_)
 exact DE.all [5,9,13] (by kernel_rfl) (by simp) (List.forall_mem_cons.2 ⟨bW.mk (i:=5) (L':= #[true,true,true,true,true,true,false,false,true,false,true,true,true,false,false,false,false,false,false,false]) rfl (al.le (al.kn (cm (d:=3000000) (L:=aW.Places) (f:=ab) (ti:=df) (tj:=cD) (e:=91) (e':=91) (m:=5) (k:= .i64) (ss:=[.flat,.flat,.flat,.flat,(.sl 169 5 [.flat,.flat,.flat,.flat,.flat])]) aa rfl hx2) (by kernel_rfl)) Le.ao) (by kernel_rfl) d23,(List.forall_mem_cons.2 ⟨bW.mk (i:=9) (L':= #[true,true,true,true,true,false,false,false,true,true,true,true,true,false,false,false,false,false,false,false]) rfl (al.le (al.bj aa (σ':=⟨48,[(29,vs aC.Language),(0,.ref 1000000 0),(5,vi x1.1),(23,.own 3000000),(24,vi x1.1),(28,.ref 3 4),(31,vi aC.Year),(32,.ref 3 5)],[(3,.box (tc ah aC)),(1000000,.box [.own 3000000,.own 3000001]),(3000000,.deep 91 5 aW.Places.length [.flat,.flat,.flat,.flat,(.sl 169 5 [.flat,.flat,.flat,.flat,.flat])] (aW.Places.map ab)),(3000001,oa 85 4 ac aW.Links)]⟩) (by kernel_rfl)) Le.ao) (by kernel_rfl) d21,(List.forall_mem_cons.2 ⟨bW.mk (i:=13) (L':= #[true,true,true,true,true,false,false,false,true,false,true,true,true,true,false,false,false,false,false,false]) rfl (al.le (al.bj aa (σ':=⟨48,[(33,vs aC.Text),(0,.ref 1000000 0),(5,vi x1.1),(23,.own 3000000),(24,vi x1.1),(28,.ref 3 4),(31,vi aC.Year),(32,.ref 3 5)],[(3,.box (tc ah aC)),(1000000,.box [.own 3000000,.own 3000001]),(3000000,.deep 91 5 aW.Places.length [.flat,.flat,.flat,.flat,(.sl 169 5 [.flat,.flat,.flat,.flat,.flat])] (aW.Places.map ab)),(3000001,oa 85 4 ac aW.Links)]⟩) (by kernel_rfl)) Le.ao) (by kernel_rfl) d24,(fun _ h=>absurd h List.not_mem_nil)⟩)⟩)⟩)
 refine DE.aJ (fuel:=11) (L:= #[true,true,true,true,true,false,false,false,true,true,true,false,true,false,false,false,false,false,false,false]) (σ:=⟨48,[(0,.ref 1000000 0),(5,vi x1.1),(23,.own 3000000),(24,vi x1.1),(29,vs aC.Language),(30,.ref 3 0),(32,.ref 3 5)],[(3,.box (tc ah aC)),(1000000,.box [.own 3000000,.own 3000001]),(3000000,.deep 91 5 aW.Places.length [.flat,.flat,.flat,.flat,(.sl 169 5 [.flat,.flat,.flat,.flat,.flat])] (aW.Places.map ab)),(3000001,oa 85 4 ac aW.Links)]⟩) ?_ (fun d13=> ?_)
 exact DE.all [5,11,13] (by kernel_rfl) (by simp) (List.forall_mem_cons.2 ⟨bW.mk (i:=5) (L':= #[true,true,true,true,true,true,false,false,true,true,true,false,true,false,false,false,false,false,false,false]) rfl (al.le (al.kn (cm (d:=3000000) (L:=aW.Places) (f:=ab) (ti:=df) (tj:=cD) (e:=91) (e':=91) (m:=5) (k:= .i64) (ss:=[.flat,.flat,.flat,.flat,(.sl 169 5 [.flat,.flat,.flat,.flat,.flat])]) aa rfl hx2) (by kernel_rfl)) Le.ao) (by kernel_rfl) d20,(List.forall_mem_cons.2 ⟨bW.mk (i:=11) (L':= #[true,true,true,true,true,false,false,false,true,true,true,true,true,false,false,false,false,false,false,false]) rfl (al.le (al.bj aa (σ':=⟨48,[(31,vi aC.Year),(0,.ref 1000000 0),(5,vi x1.1),(23,.own 3000000),(24,vi x1.1),(29,vs aC.Language),(30,.ref 3 0),(32,.ref 3 5)],[(3,.box (tc ah aC)),(1000000,.box [.own 3000000,.own 3000001]),(3000000,.deep 91 5 aW.Places.length [.flat,.flat,.flat,.flat,(.sl 169 5 [.flat,.flat,.flat,.flat,.flat])] (aW.Places.map ab)),(3000001,oa 85 4 ac aW.Links)]⟩) (by kernel_rfl)) Le.ao) (by kernel_rfl) d21,(List.forall_mem_cons.2 ⟨bW.mk (i:=13) (L':= #[true,true,true,true,true,false,false,false,true,true,true,false,true,true,false,false,false,false,false,false]) rfl (al.le (al.bj aa (σ':=⟨48,[(33,vs aC.Text),(0,.ref 1000000 0),(5,vi x1.1),(23,.own 3000000),(24,vi x1.1),(29,vs aC.Language),(30,.ref 3 0),(32,.ref 3 5)],[(3,.box (tc ah aC)),(1000000,.box [.own 3000000,.own 3000001]),(3000000,.deep 91 5 aW.Places.length [.flat,.flat,.flat,.flat,(.sl 169 5 [.flat,.flat,.flat,.flat,.flat])] (aW.Places.map ab)),(3000001,oa 85 4 ac aW.Links)]⟩) (by kernel_rfl)) Le.ao) (by kernel_rfl) d22,(fun _ h=>absurd h List.not_mem_nil)⟩)⟩)⟩)
 refine DE.aJ (fuel:=11) (L:= #[true,true,true,true,true,true,false,false,true,false,true,false,true,false,false,false,false,false,false,false]) (σ:=⟨48,[(0,.ref 1000000 0),(5,vi x1.1),(25,.eref 3000000 5 (Int.toNat x1.1) 0),(28,.ref 3 4),(30,.ref 3 0),(32,.ref 3 5)],[(3,.box (tc ah aC)),(1000000,.box [.own 3000000,.own 3000001]),(3000000,.deep 91 5 aW.Places.length [.flat,.flat,.flat,.flat,(.sl 169 5 [.flat,.flat,.flat,.flat,.flat])] (aW.Places.map ab)),(3000001,oa 85 4 ac aW.Links)]⟩) ?_ (fun d12=> ?_)
 exact DE.iM aa (i:=6) (L':= #[true,true,true,true,true,true,true,false,true,false,true,false,true,false,false,false,false,false,false,false]) (v:= .eref 3000000 5 (Int.toNat x1.1) 4) rfl rfl (by kernel_rfl) rfl (by kernel_rfl) (by kernel_rfl) (by kernel_rfl) (al.le (al.bj aa (σ':=⟨48,[(26,.eref 3000000 5 (Int.toNat x1.1) 4),(0,.ref 1000000 0),(5,vi x1.1),(25,.eref 3000000 5 (Int.toNat x1.1) 0),(28,.ref 3 4),(30,.ref 3 0),(32,.ref 3 5)],[(3,.box (tc ah aC)),(1000000,.box [.own 3000000,.own 3000001]),(3000000,.deep 91 5 aW.Places.length [.flat,.flat,.flat,.flat,(.sl 169 5 [.flat,.flat,.flat,.flat,.flat])] (aW.Places.map ab)),(3000001,oa 85 4 ac aW.Links)]⟩) (by kernel_rfl)) Le.ao) (by kernel_rfl) d19
 refine DE.aJ (fuel:=12) (L:= #[true,true,true,false,true,false,false,false,true,false,true,false,true,true,false,false,false,false,false,false]) (σ:=⟨48,[(0,.ref 1000000 0),(5,vi x1.1),(22,.ref 1000000 0),(24,vi x1.1),(28,.ref 3 4),(30,.ref 3 0),(33,vs aC.Text)],[(3,.box (tc ah aC)),(1000000,.box [.own 3000000,.own 3000001]),(3000000,.deep 91 5 aW.Places.length [.flat,.flat,.flat,.flat,(.sl 169 5 [.flat,.flat,.flat,.flat,.flat])] (aW.Places.map ab)),(3000001,oa 85 4 ac aW.Links)]⟩) ?_ (fun d11=> ?_)
 exact DE.all [3,9,11] (by kernel_rfl) (by simp) (List.forall_mem_cons.2 ⟨bW.mk (i:=3) (L':= #[true,true,true,true,true,false,false,false,true,false,true,false,true,true,false,false,false,false,false,false]) rfl (al.le (al.bj aa (σ':=⟨48,[(23,.own 3000000),(0,.ref 1000000 0),(5,vi x1.1),(22,.ref 1000000 0),(24,vi x1.1),(28,.ref 3 4),(30,.ref 3 0),(33,vs aC.Text)],[(3,.box (tc ah aC)),(1000000,.box [.own 3000000,.own 3000001]),(3000000,.deep 91 5 aW.Places.length [.flat,.flat,.flat,.flat,(.sl 169 5 [.flat,.flat,.flat,.flat,.flat])] (aW.Places.map ab)),(3000001,oa 85 4 ac aW.Links)]⟩) (by kernel_rfl)) Le.ao) (by kernel_rfl) d15,(List.forall_mem_cons.2 ⟨bW.mk (i:=9) (L':= #[true,true,true,false,true,false,false,false,true,true,true,false,true,true,false,false,false,false,false,false]) rfl (al.le (al.bj aa (σ':=⟨48,[(29,vs aC.Language),(0,.ref 1000000 0),(5,vi x1.1),(22,.ref 1000000 0),(24,vi x1.1),(28,.ref 3 4),(30,.ref 3 0),(33,vs aC.Text)],[(3,.box (tc ah aC)),(1000000,.box [.own 3000000,.own 3000001]),(3000000,.deep 91 5 aW.Places.length [.flat,.flat,.flat,.flat,(.sl 169 5 [.flat,.flat,.flat,.flat,.flat])] (aW.Places.map ab)),(3000001,oa 85 4 ac aW.Links)]⟩) (by kernel_rfl)) Le.ao) (by kernel_rfl) d17,(List.forall_mem_cons.2 ⟨bW.mk (i:=11) (L':= #[true,true,true,false,true,false,false,false,true,false,true,true,true,true,false,false,false,false,false,false]) rfl (al.le (al.bj aa (σ':=⟨48,[(31,vi aC.Year),(0,.ref 1000000 0),(5,vi x1.1),(22,.ref 1000000 0),(24,vi x1.1),(28,.ref 3 4),(30,.ref 3 0),(33,vs aC.Text)],[(3,.box (tc ah aC)),(1000000,.box [.own 3000000,.own 3000001]),(3000000,.deep 91 5 aW.Places.length [.flat,.flat,.flat,.flat,(.sl 169 5 [.flat,.flat,.flat,.flat,.flat])] (aW.Places.map ab)),(3000001,oa 85 4 ac aW.Links)]⟩) (by kernel_rfl)) Le.ao) (by kernel_rfl) d18,(fun _ h=>absurd h List.not_mem_nil)⟩)⟩)⟩)
 refine DE.aJ (fuel:=12) (L:= #[true,true,true,false,true,false,false,false,true,false,true,true,true,false,false,false,false,false,false,false]) (σ:=⟨48,[(0,.ref 1000000 0),(5,vi x1.1),(22,.ref 1000000 0),(24,vi x1.1),(28,.ref 3 4),(31,vi aC.Year),(32,.ref 3 5)],[(3,.box (tc ah aC)),(1000000,.box [.own 3000000,.own 3000001]),(3000000,.deep 91 5 aW.Places.length [.flat,.flat,.flat,.flat,(.sl 169 5 [.flat,.flat,.flat,.flat,.flat])] (aW.Places.map ab)),(3000001,oa 85 4 ac aW.Links)]⟩) ?_ (fun d10=> ?_)
 exact DE.all [3,9,13] (by kernel_rfl) (by simp) (List.forall_mem_cons.2 ⟨bW.mk (i:=3) (L':= #[true,true,true,true,true,false,false,false,true,false,true,true,true,false,false,false,false,false,false,false]) rfl (al.le (al.bj aa (σ':=⟨48,[(23,.own 3000000),(0,.ref 1000000 0),(5,vi x1.1),(22,.ref 1000000 0),(24,vi x1.1),(28,.ref 3 4),(31,vi aC.Year),(32,.ref 3 5)],[(3,.box (tc ah aC)),(1000000,.box [.own 3000000,.own 3000001]),(3000000,.deep 91 5 aW.Places.length [.flat,.flat,.flat,.flat,(.sl 169 5 [.flat,.flat,.flat,.flat,.flat])] (aW.Places.map ab)),(3000001,oa 85 4 ac aW.Links)]⟩) (by kernel_rfl)) Le.ao) (by kernel_rfl) d14,(List.forall_mem_cons.2 ⟨bW.mk (i:=9) (L':= #[true,true,true,false,true,false,false,false,true,true,true,true,true,false,false,false,false,false,false,false]) rfl (al.le (al.bj aa (σ':=⟨48,[(29,vs aC.Language),(0,.ref 1000000 0),(5,vi x1.1),(22,.ref 1000000 0),(24,vi x1.1),(28,.ref 3 4),(31,vi aC.Year),(32,.ref 3 5)],[(3,.box (tc ah aC)),(1000000,.box [.own 3000000,.own 3000001]),(3000000,.deep 91 5 aW.Places.length [.flat,.flat,.flat,.flat,(.sl 169 5 [.flat,.flat,.flat,.flat,.flat])] (aW.Places.map ab)),(3000001,oa 85 4 ac aW.Links)]⟩) (by kernel_rfl)) Le.ao) (by kernel_rfl) d16,(List.forall_mem_cons.2 ⟨bW.mk (i:=13) (L':= #[true,true,true,false,true,false,false,false,true,false,true,true,true,true,false,false,false,false,false,false]) rfl (al.le (al.bj aa (σ':=⟨48,[(33,vs aC.Text),(0,.ref 1000000 0),(5,vi x1.1),(22,.ref 1000000 0),(24,vi x1.1),(28,.ref 3 4),(31,vi aC.Year),(32,.ref 3 5)],[(3,.box (tc ah aC)),(1000000,.box [.own 3000000,.own 3000001]),(3000000,.deep 91 5 aW.Places.length [.flat,.flat,.flat,.flat,(.sl 169 5 [.flat,.flat,.flat,.flat,.flat])] (aW.Places.map ab)),(3000001,oa 85 4 ac aW.Links)]⟩) (by kernel_rfl)) Le.ao) (by kernel_rfl) d18,(fun _ h=>absurd h List.not_mem_nil)⟩)⟩)⟩)
 refine DE.aJ (fuel:=12) (L:= #[true,true,true,false,true,false,false,false,true,true,true,false,true,false,false,false,false,false,false,false]) (σ:=⟨48,[(0,.ref 1000000 0),(5,vi x1.1),(22,.ref 1000000 0),(24,vi x1.1),(29,vs aC.Language),(30,.ref 3 0),(32,.ref 3 5)],[(3,.box (tc ah aC)),(1000000,.box [.own 3000000,.own 3000001]),(3000000,.deep 91 5 aW.Places.length [.flat,.flat,.flat,.flat,(.sl 169 5 [.flat,.flat,.flat,.flat,.flat])] (aW.Places.map ab)),(3000001,oa 85 4 ac aW.Links)]⟩) ?_ (fun d9=> ?_)
 exact DE.all [3,11,13] (by kernel_rfl) (by simp) (List.forall_mem_cons.2 ⟨bW.mk (i:=3) (L':= #[true,true,true,true,true,false,false,false,true,true,true,false,true,false,false,false,false,false,false,false]) rfl (al.le (al.bj aa (σ':=⟨48,[(23,.own 3000000),(0,.ref 1000000 0),(5,vi x1.1),(22,.ref 1000000 0),(24,vi x1.1),(29,vs aC.Language),(30,.ref 3 0),(32,.ref 3 5)],[(3,.box (tc ah aC)),(1000000,.box [.own 3000000,.own 3000001]),(3000000,.deep 91 5 aW.Places.length [.flat,.flat,.flat,.flat,(.sl 169 5 [.flat,.flat,.flat,.flat,.flat])] (aW.Places.map ab)),(3000001,oa 85 4 ac aW.Links)]⟩) (by kernel_rfl)) Le.ao) (by kernel_rfl) d13,(List.forall_mem_cons.2 ⟨bW.mk (i:=11) (L':= #[true,true,true,false,true,false,false,false,true,true,true,true,true,false,false,false,false,false,false,false]) rfl (al.le (al.bj aa (σ':=⟨48,[(31,vi aC.Year),(0,.ref 1000000 0),(5,vi x1.1),(22,.ref 1000000 0),(24,vi x1.1),(29,vs aC.Language),(30,.ref 3 0),(32,.ref 3 5)],[(3,.box (tc ah aC)),(1000000,.box [.own 3000000,.own 3000001]),(3000000,.deep 91 5 aW.Places.length [.flat,.flat,.flat,.flat,(.sl 169 5 [.flat,.flat,.flat,.flat,.flat])] (aW.Places.map ab)),(3000001,oa 85 4 ac aW.Links)]⟩) (by kernel_rfl)) Le.ao) (by kernel_rfl) d16,(List.forall_mem_cons.2 ⟨bW.mk (i:=13) (L':= #[true,true,true,false,true,false,false,false,true,true,true,false,true,true,false,false,false,false,false,false]) rfl (al.le (al.bj aa (σ':=⟨48,[(33,vs aC.Text),(0,.ref 1000000 0),(5,vi x1.1),(22,.ref 1000000 0),(24,vi x1.1),(29,vs aC.Language),(30,.ref 3 0),(32,.ref 3 5)],[(3,.box (tc ah aC)),(1000000,.box [.own 3000000,.own 3000001]),(3000000,.deep 91 5 aW.Places.length [.flat,.flat,.flat,.flat,(.sl 169 5 [.flat,.flat,.flat,.flat,.flat])] (aW.Places.map ab)),(3000001,oa 85 4 ac aW.Links)]⟩) (by kernel_rfl)) Le.ao) (by kernel_rfl) d17,(fun _ h=>absurd h List.not_mem_nil)⟩)⟩)⟩)
 refine DE.aJ (fuel:=12) (L:= #[true,true,true,true,true,false,false,false,true,false,true,false,true,false,false,false,false,false,false,false]) (σ:=⟨48,[(0,.ref 1000000 0),(5,vi x1.1),(23,.own 3000000),(24,vi x1.1),(28,.ref 3 4),(30,.ref 3 0),(32,.ref 3 5)],[(3,.box (tc ah aC)),(1000000,.box [.own 3000000,.own 3000001]),(3000000,.deep 91 5 aW.Places.length [.flat,.flat,.flat,.flat,(.sl 169 5 [.flat,.flat,.flat,.flat,.flat])] (aW.Places.map ab)),(3000001,oa 85 4 ac aW.Links)]⟩) ?_ (fun d8=> ?_)
 exact DE.all [5,9,11,13] (by kernel_rfl) (by simp) (List.forall_mem_cons.2 ⟨bW.mk (i:=5) (L':= #[true,true,true,true,true,true,false,false,true,false,true,false,true,false,false,false,false,false,false,false]) rfl (al.le (al.kn (cm (d:=3000000) (L:=aW.Places) (f:=ab) (ti:=df) (tj:=cD) (e:=91) (e':=91) (m:=5) (k:= .i64) (ss:=[.flat,.flat,.flat,.flat,(.sl 169 5 [.flat,.flat,.flat,.flat,.flat])]) aa rfl hx2) (by kernel_rfl)) Le.ao) (by kernel_rfl) d12,(List.forall_mem_cons.2 ⟨bW.mk (i:=9) (L':= #[true,true,true,true,true,false,false,false,true,true,true,false,true,false,false,false,false,false,false,false]) rfl (al.le (al.bj aa (σ':=⟨48,[(29,vs aC.Language),(0,.ref 1000000 0),(5,vi x1.1),(23,.own 3000000),(24,vi x1.1),(28,.ref 3 4),(30,.ref 3 0),(32,.ref 3 5)],[(3,.box (tc ah aC)),(1000000,.box [.own 3000000,.own 3000001]),(3000000,.deep 91 5 aW.Places.length [.flat,.flat,.flat,.flat,(.sl 169 5 [.flat,.flat,.flat,.flat,.flat])] (aW.Places.map ab)),(3000001,oa 85 4 ac aW.Links)]⟩) (by kernel_rfl)) Le.ao) (by kernel_rfl) d13,(List.forall_mem_cons.2 ⟨bW.mk (i:=11) (L':= #[true,true,true,true,true,false,false,false,true,false,true,true,true,false,false,false,false,false,false,false]) rfl (al.le (al.bj aa (σ':=⟨48,[(31,vi aC.Year),(0,.ref 1000000 0),(5,vi x1.1),(23,.own 3000000),(24,vi x1.1),(28,.ref 3 4),(30,.ref 3 0),(32,.ref 3 5)],[(3,.box (tc ah aC)),(1000000,.box [.own 3000000,.own 3000001]),(3000000,.deep 91 5 aW.Places.length [.flat,.flat,.flat,.flat,(.sl 169 5 [.flat,.flat,.flat,.flat,.flat])] (aW.Places.map ab)),(3000001,oa 85 4 ac aW.Links)]⟩) (by kernel_rfl)) Le.ao) (by kernel_rfl) d14,(List.forall_mem_cons.2 ⟨bW.mk (i:=13) (L':= #[true,true,true,true,true,false,false,false,true,false,true,false,true,true,false,false,false,false,false,false]) rfl (al.le (al.bj aa (σ':=⟨48,[(33,vs aC.Text),(0,.ref 1000000 0),(5,vi x1.1),(23,.own 3000000),(24,vi x1.1),(28,.ref 3 4),(30,.ref 3 0),(32,.ref 3 5)],[(3,.box (tc ah aC)),(1000000,.box [.own 3000000,.own 3000001]),(3000000,.deep 91 5 aW.Places.length [.flat,.flat,.flat,.flat,(.sl 169 5 [.flat,.flat,.flat,.flat,.flat])] (aW.Places.map ab)),(3000001,oa 85 4 ac aW.Links)]⟩) (by kernel_rfl)) Le.ao) (by kernel_rfl) d15,(fun _ h=>absurd h List.not_mem_nil)⟩)⟩)⟩)⟩)
 refine DE.aJ (fuel:=13) (L:= #[true,true,true,false,true,false,false,false,true,false,true,false,true,false,false,false,false,false,false,false]) (σ:=⟨48,[(0,.ref 1000000 0),(5,vi x1.1),(22,.ref 1000000 0),(24,vi x1.1),(28,.ref 3 4),(30,.ref 3 0),(32,.ref 3 5)],[(3,.box (tc ah aC)),(1000000,.box [.own 3000000,.own 3000001]),(3000000,.deep 91 5 aW.Places.length [.flat,.flat,.flat,.flat,(.sl 169 5 [.flat,.flat,.flat,.flat,.flat])] (aW.Places.map ab)),(3000001,oa 85 4 ac aW.Links)]⟩) ?_ (fun d7=> ?_)
 exact DE.all [3,9,11,13] (by kernel_rfl) (by simp) (List.forall_mem_cons.2 ⟨bW.mk (i:=3) (L':= #[true,true,true,true,true,false,false,false,true,false,true,false,true,false,false,false,false,false,false,false]) rfl (al.le (al.bj aa (σ':=⟨48,[(23,.own 3000000),(0,.ref 1000000 0),(5,vi x1.1),(22,.ref 1000000 0),(24,vi x1.1),(28,.ref 3 4),(30,.ref 3 0),(32,.ref 3 5)],[(3,.box (tc ah aC)),(1000000,.box [.own 3000000,.own 3000001]),(3000000,.deep 91 5 aW.Places.length [.flat,.flat,.flat,.flat,(.sl 169 5 [.flat,.flat,.flat,.flat,.flat])] (aW.Places.map ab)),(3000001,oa 85 4 ac aW.Links)]⟩) (by kernel_rfl)) Le.ao) (by kernel_rfl) d8,(List.forall_mem_cons.2 ⟨bW.mk (i:=9) (L':= #[true,true,true,false,true,false,false,false,true,true,true,false,true,false,false,false,false,false,false,false]) rfl (al.le (al.bj aa (σ':=⟨48,[(29,vs aC.Language),(0,.ref 1000000 0),(5,vi x1.1),(22,.ref 1000000 0),(24,vi x1.1),(28,.ref 3 4),(30,.ref 3 0),(32,.ref 3 5)],[(3,.box (tc ah aC)),(1000000,.box [.own 3000000,.own 3000001]),(3000000,.deep 91 5 aW.Places.length [.flat,.flat,.flat,.flat,(.sl 169 5 [.flat,.flat,.flat,.flat,.flat])] (aW.Places.map ab)),(3000001,oa 85 4 ac aW.Links)]⟩) (by kernel_rfl)) Le.ao) (by kernel_rfl) d9,(List.forall_mem_cons.2 ⟨bW.mk (i:=11) (L':= #[true,true,true,false,true,false,false,false,true,false,true,true,true,false,false,false,false,false,false,false]) rfl (al.le (al.bj aa (σ':=⟨48,[(31,vi aC.Year),(0,.ref 1000000 0),(5,vi x1.1),(22,.ref 1000000 0),(24,vi x1.1),(28,.ref 3 4),(30,.ref 3 0),(32,.ref 3 5)],[(3,.box (tc ah aC)),(1000000,.box [.own 3000000,.own 3000001]),(3000000,.deep 91 5 aW.Places.length [.flat,.flat,.flat,.flat,(.sl 169 5 [.flat,.flat,.flat,.flat,.flat])] (aW.Places.map ab)),(3000001,oa 85 4 ac aW.Links)]⟩) (by kernel_rfl)) Le.ao) (by kernel_rfl) d10,(List.forall_mem_cons.2 ⟨bW.mk (i:=13) (L':= #[true,true,true,false,true,false,false,false,true,false,true,false,true,true,false,false,false,false,false,false]) rfl (al.le (al.bj aa (σ':=⟨48,[(33,vs aC.Text),(0,.ref 1000000 0),(5,vi x1.1),(22,.ref 1000000 0),(24,vi x1.1),(28,.ref 3 4),(30,.ref 3 0),(32,.ref 3 5)],[(3,.box (tc ah aC)),(1000000,.box [.own 3000000,.own 3000001]),(3000000,.deep 91 5 aW.Places.length [.flat,.flat,.flat,.flat,(.sl 169 5 [.flat,.flat,.flat,.flat,.flat])] (aW.Places.map ab)),(3000001,oa 85 4 ac aW.Links)]⟩) (by kernel_rfl)) Le.ao) (by kernel_rfl) d11,(fun _ h=>absurd h List.not_mem_nil)⟩)⟩)⟩)⟩)
 refine DE.aJ (fuel:=14) (L:= #[true,true,true,false,true,false,false,false,true,false,true,false,false,false,false,false,false,false,false,false]) (σ:=⟨48,[(0,.ref 1000000 0),(3,.ref 3 0),(5,vi x1.1),(22,.ref 1000000 0),(24,vi x1.1),(28,.ref 3 4),(30,.ref 3 0)],[(3,.box (tc ah aC)),(1000000,.box [.own 3000000,.own 3000001]),(3000000,.deep 91 5 aW.Places.length [.flat,.flat,.flat,.flat,(.sl 169 5 [.flat,.flat,.flat,.flat,.flat])] (aW.Places.map ab)),(3000001,oa 85 4 ac aW.Links)]⟩) ?_ (fun d6=> ?_)
 exact DE.iM aa (i:=12) (L':= #[true,true,true,false,true,false,false,false,true,false,true,false,true,false,false,false,false,false,false,false]) (v:= .ref 3 5) rfl rfl (by kernel_rfl) rfl (by kernel_rfl) (by kernel_rfl) (by kernel_rfl) (al.le (al.bj aa (σ':=⟨48,[(32,.ref 3 5),(0,.ref 1000000 0),(3,.ref 3 0),(5,vi x1.1),(22,.ref 1000000 0),(24,vi x1.1),(28,.ref 3 4),(30,.ref 3 0)],[(3,.box (tc ah aC)),(1000000,.box [.own 3000000,.own 3000001]),(3000000,.deep 91 5 aW.Places.length [.flat,.flat,.flat,.flat,(.sl 169 5 [.flat,.flat,.flat,.flat,.flat])] (aW.Places.map ab)),(3000001,oa 85 4 ac aW.Links)]⟩) (by kernel_rfl)) Le.ao) (by kernel_rfl) d7
 refine DE.aJ (fuel:=15) (L:= #[true,true,true,false,true,false,false,false,true,false,false,false,false,false,false,false,false,false,false,false]) (σ:=⟨48,[(0,.ref 1000000 0),(3,.ref 3 0),(5,vi x1.1),(22,.ref 1000000 0),(24,vi x1.1),(28,.ref 3 4)],[(3,.box (tc ah aC)),(1000000,.box [.own 3000000,.own 3000001]),(3000000,.deep 91 5 aW.Places.length [.flat,.flat,.flat,.flat,(.sl 169 5 [.flat,.flat,.flat,.flat,.flat])] (aW.Places.map ab)),(3000001,oa 85 4 ac aW.Links)]⟩) ?_ (fun d5=> ?_)
 exact DE.iM aa (i:=10) (L':= #[true,true,true,false,true,false,false,false,true,false,true,false,false,false,false,false,false,false,false,false]) (v:= .ref 3 0) rfl rfl (by kernel_rfl) rfl (by kernel_rfl) (by kernel_rfl) (by kernel_rfl) (al.le (al.bj aa (σ':=⟨48,[(30,.ref 3 0),(0,.ref 1000000 0),(3,.ref 3 0),(5,vi x1.1),(22,.ref 1000000 0),(24,vi x1.1),(28,.ref 3 4)],[(3,.box (tc ah aC)),(1000000,.box [.own 3000000,.own 3000001]),(3000000,.deep 91 5 aW.Places.length [.flat,.flat,.flat,.flat,(.sl 169 5 [.flat,.flat,.flat,.flat,.flat])] (aW.Places.map ab)),(3000001,oa 85 4 ac aW.Links)]⟩) (by kernel_rfl)) Le.ao) (by kernel_rfl) d6
 refine DE.aJ (fuel:=16) (L:= #[true,true,true,false,true,false,false,false,false,false,false,false,false,false,false,false,false,false,false,false]) (σ:=⟨48,[(0,.ref 1000000 0),(3,.ref 3 0),(5,vi x1.1),(22,.ref 1000000 0),(24,vi x1.1)],[(3,.box (tc ah aC)),(1000000,.box [.own 3000000,.own 3000001]),(3000000,.deep 91 5 aW.Places.length [.flat,.flat,.flat,.flat,(.sl 169 5 [.flat,.flat,.flat,.flat,.flat])] (aW.Places.map ab)),(3000001,oa 85 4 ac aW.Links)]⟩) ?_ (fun d4=> ?_)
 exact DE.iM aa (i:=8) (L':= #[true,true,true,false,true,false,false,false,true,false,false,false,false,false,false,false,false,false,false,false]) (v:= .ref 3 4) rfl rfl (by kernel_rfl) rfl (by kernel_rfl) (by kernel_rfl) (by kernel_rfl) (al.le (al.bj aa (σ':=⟨48,[(28,.ref 3 4),(0,.ref 1000000 0),(3,.ref 3 0),(5,vi x1.1),(22,.ref 1000000 0),(24,vi x1.1)],[(3,.box (tc ah aC)),(1000000,.box [.own 3000000,.own 3000001]),(3000000,.deep 91 5 aW.Places.length [.flat,.flat,.flat,.flat,(.sl 169 5 [.flat,.flat,.flat,.flat,.flat])] (aW.Places.map ab)),(3000001,oa 85 4 ac aW.Links)]⟩) (by kernel_rfl)) Le.ao) (by kernel_rfl) d5
 refine DE.aJ (fuel:=17) (L:= #[true,true,true,false,false,false,false,false,false,false,false,false,false,false,false,false,false,false,false,false]) (σ:=⟨48,[(0,.ref 1000000 0),(3,.ref 3 0),(5,vi x1.1),(22,.ref 1000000 0)],[(3,.box (tc ah aC)),(1000000,.box [.own 3000000,.own 3000001]),(3000000,.deep 91 5 aW.Places.length [.flat,.flat,.flat,.flat,(.sl 169 5 [.flat,.flat,.flat,.flat,.flat])] (aW.Places.map ab)),(3000001,oa 85 4 ac aW.Links)]⟩) ?_ (fun d3=> ?_)
 exact DE.take (i:=4) (L':= #[true,true,true,false,true,false,false,false,false,false,false,false,false,false,false,false,false,false,false,false]) rfl (.inl rfl) rfl (by kernel_rfl) (by kernel_rfl) (by kernel_rfl) (al.le (al.bj aa (σ':=⟨48,[(24,vi x1.1),(0,.ref 1000000 0),(3,.ref 3 0),(5,vi x1.1),(22,.ref 1000000 0)],[(3,.box (tc ah aC)),(1000000,.box [.own 3000000,.own 3000001]),(3000000,.deep 91 5 aW.Places.length [.flat,.flat,.flat,.flat,(.sl 169 5 [.flat,.flat,.flat,.flat,.flat])] (aW.Places.map ab)),(3000001,oa 85 4 ac aW.Links)]⟩) (by kernel_rfl)) Le.ao) (by kernel_rfl) d4
 refine DE.aJ (fuel:=18) (L:= #[true,true,false,false,false,false,false,false,false,false,false,false,false,false,false,false,false,false,false,false]) (σ:=⟨48,[(0,.ref 1000000 0),(3,.ref 3 0),(5,vi x1.1),(21,.ref 1000000 0)],[(3,.box (tc ah aC)),(1000000,.box [.own 3000000,.own 3000001]),(3000000,.deep 91 5 aW.Places.length [.flat,.flat,.flat,.flat,(.sl 169 5 [.flat,.flat,.flat,.flat,.flat])] (aW.Places.map ab)),(3000001,oa 85 4 ac aW.Links)]⟩) ?_ (fun d2=> ?_)
 exact DE.iM aa (i:=2) (L':= #[true,true,true,false,false,false,false,false,false,false,false,false,false,false,false,false,false,false,false,false]) (v:= .ref 1000000 0) rfl rfl (by kernel_rfl) rfl (by kernel_rfl) (by kernel_rfl) (by kernel_rfl) (al.le (al.bj aa (σ':=⟨48,[(22,.ref 1000000 0),(0,.ref 1000000 0),(3,.ref 3 0),(5,vi x1.1),(21,.ref 1000000 0)],[(3,.box (tc ah aC)),(1000000,.box [.own 3000000,.own 3000001]),(3000000,.deep 91 5 aW.Places.length [.flat,.flat,.flat,.flat,(.sl 169 5 [.flat,.flat,.flat,.flat,.flat])] (aW.Places.map ab)),(3000001,oa 85 4 ac aW.Links)]⟩) (by kernel_rfl)) Le.ao) (by kernel_rfl) d3
 refine DE.aJ (fuel:=19) (L:= #[true,false,false,false,false,false,false,false,false,false,false,false,false,false,false,false,false,false,false,false]) (σ:=⟨48,[(0,.ref 1000000 0),(3,.ref 3 0),(5,vi x1.1),(20,.ref 1000000 0)],[(3,.box (tc ah aC)),(1000000,.box [.own 3000000,.own 3000001]),(3000000,.deep 91 5 aW.Places.length [.flat,.flat,.flat,.flat,(.sl 169 5 [.flat,.flat,.flat,.flat,.flat])] (aW.Places.map ab)),(3000001,oa 85 4 ac aW.Links)]⟩) ?_ (fun d1=> ?_)
 exact DE.iM aa (i:=1) (L':= #[true,true,false,false,false,false,false,false,false,false,false,false,false,false,false,false,false,false,false,false]) (v:= .ref 1000000 0) rfl rfl (by kernel_rfl) rfl (by kernel_rfl) (by kernel_rfl) (by kernel_rfl) (al.le (al.bj aa (σ':=⟨48,[(21,.ref 1000000 0),(0,.ref 1000000 0),(3,.ref 3 0),(5,vi x1.1),(20,.ref 1000000 0)],[(3,.box (tc ah aC)),(1000000,.box [.own 3000000,.own 3000001]),(3000000,.deep 91 5 aW.Places.length [.flat,.flat,.flat,.flat,(.sl 169 5 [.flat,.flat,.flat,.flat,.flat])] (aW.Places.map ab)),(3000001,oa 85 4 ac aW.Links)]⟩) (by kernel_rfl)) Le.ao) (by kernel_rfl) d2
 exact DE.take (i:=0) (L':= #[true,false,false,false,false,false,false,false,false,false,false,false,false,false,false,false,false,false,false,false]) rfl (.inl rfl) rfl (by kernel_rfl) (by kernel_rfl) (by kernel_rfl) (al.le (al.bj aa (σ':=⟨48,[(20,.ref 1000000 0),(0,.ref 1000000 0),(3,.ref 3 0),(5,vi x1.1)],[(3,.box (tc ah aC)),(1000000,.box [.own 3000000,.own 3000001]),(3000000,.deep 91 5 aW.Places.length [.flat,.flat,.flat,.flat,(.sl 169 5 [.flat,.flat,.flat,.flat,.flat])] (aW.Places.map ab)),(3000001,oa 85 4 ac aW.Links)]⟩) (by kernel_rfl)) Le.ao) (by kernel_rfl) d1
 refine a8 ?_
 refine ai ?_
 refine az aa ⟨48,[(0,.ref 1000000 0),(5,vi x1.1),(7,.own 34),(8,vi x3.2),(38,vb (x3.2==0))],[(34,oa 169 5 af x3.1),(1000000,.box [.own 3000000,.own 3000001]),(3000000,.deep 91 5 aW.Places.length [.flat,.flat,.flat,.flat,(.sl 169 5 [.flat,.flat,.flat,.flat,.flat])] (aW.Places.map ab)),(3000001,oa 85 4 ac aW.Links)]⟩ ?_
 refine bg h (fun j4=>⟨48,[(8,vi x3.2)],[(1000000,.box [.own 3000000,.own 3000001]),(3000000,.deep 91 5 j4.1.length [.flat,.flat,.flat,.flat,(.sl 169 5 [.flat,.flat,.flat,.flat,.flat])] (j4.1.map ab)),(3000001,oa 85 4 ac j4.2)]⟩) (fun v5 h=> ?_) (fun j4 h=> ?_)
 refine aq h (fun h=> ?_) fun h=> ?_
 refine aE ?_
 refine ae.ck aa 6 ⟨48,[(8,vi x3.2),(42,.own 3000000),(43,vi x1.1),(44,.own 34)],[(34,oa 169 5 af x3.1),(1000000,.box [.own 3000000,.own 3000001]),(3000000,.deep 91 5 aW.Places.length [.flat,.flat,.flat,.flat,(.sl 169 5 [.flat,.flat,.flat,.flat,.flat])] (aW.Places.map ab)),(3000001,oa 85 4 ac aW.Links)]⟩ ?_
 obtain⟨x6,hx6,h⟩:=bind_some h
 refine ae.ls (cm (d:=3000000) (L:=aW.Places) (f:=ab) (ti:=df) (tj:=cD) (e:=91) (e':=91) (m:=5) (k:= .i64) (ss:=[.flat,.flat,.flat,.flat,(.sl 169 5 [.flat,.flat,.flat,.flat,.flat])]) aa rfl hx6) ?_
 refine ae.ck aa 1 ⟨48,[(8,vi x3.2),(44,.own 34),(46,.eref 3000000 5 (Int.toNat x1.1) 4)],[(34,oa 169 5 af x3.1),(1000000,.box [.own 3000000,.own 3000001]),(3000000,.deep 91 5 aW.Places.length [.flat,.flat,.flat,.flat,(.sl 169 5 [.flat,.flat,.flat,.flat,.flat])] (aW.Places.map ab)),(3000001,oa 85 4 ac aW.Links)]⟩ ?_
 refine ae.cf (kK (d:=3000000) (m:=5) (j:=4) (L:=aW.Places) (f:=ab) (x:=(Place.mk x6.Code x6.Class x6.Years x3.1)) (z:=x6) (ti:=ej) (e:=91) (ss:=[.flat,.flat,.flat,.flat,(.sl 169 5 [.flat,.flat,.flat,.flat,.flat])]) (ss2:=[(.sl 169 5 [.flat,.flat,.flat,.flat,.flat])]) (ts:=[.sl x3.1.length (x3.1.map af)]) (vs:=[.own 34]) (v:= .own 34) (ds:=[34]) aa rfl rfl hx6 (.cons _ _ _ [34] _ _ _ _ (pH (d:=34) (e:=169) (m:=5) (n:=x3.1.length) (es:=x3.1.map af) (ss:=[.flat,.flat,.flat,.flat,.flat]) (b9 bu _)) .nil (by decide))) ?_
 refine ae.nil ?_
 obtain rfl:=inj h
 exact fO (Le.ao)
 refine an ?_
 obtain rfl:=inj h
 exact fO (Le.ao)
 refine az aa ⟨48,[(4,vi x3.2)],[(1000000,.box [.own 3000000,.own 3000001]),(3000000,.deep 91 5 j4.1.length [.flat,.flat,.flat,.flat,(.sl 169 5 [.flat,.flat,.flat,.flat,.flat])] (j4.1.map ab)),(3000001,oa 85 4 ac j4.2)]⟩ ?_
 refine ak ?_
 obtain rfl:=inj h
 exact l4 (fw aa)
theorem A6:a7 Tryz.prog 90:=aw Tryz.func90 (by kernel_rfl) rfl
noncomputable def du(aW:World)(bf:ByteArray)(bB:ByteArray)(ag:Int):Option (au):=
 ((cB aW bf).bind fun x1=>((cB aW bB).bind fun x2=>(((iQ (aW.Links.length:Int) (fun(i5:Int) (s5:Int)=>((at' aW.Links i5).bind fun x9=>(bif((x9.Child.toList==bf.toList)&&(decide (x9.Years.From>ag)))then some (bL s5 (aZ (x9.Years.From - 1)))else some s5))) (fun(s5:Int)=>s5) 0 (bL x1.Years.To x2.Years.To))).bind fun(j3:Int)=>some (au.mk bf bB (Span.mk ag j3)))))
theorem kE(aW:World)(bf:ByteArray)(bB:ByteArray)(ag:Int)(r:au)(h:du aW bf bB ag=some r):aF Tryz.prog 142 [.v (.agg (tc aj aW)),.v (vs bf),.v (vs bB),.v (vi ag)] ⟨[.v (.agg (tc ac r))],[],false⟩:=by
 refine ar Tryz.func142 rfl [(.cell 8 85)] rfl (fun r=>⟨[.v (.agg (tc ac r))],[],false⟩) (r:=r) ?_
 unfold du at h
 refine az aa ⟨54,[(1,vs bf),(2,vs bB),(3,vi ag),(4,.ref 4 0),(8,.ref 8 0)],[(4,.box (tc aj aW)),(8,.box [vs (ByteArray.mk #[]),vs (ByteArray.mk #[]),vi 0,vi 0])]⟩ ?_
 refine ai ?_
 refine di mixed ?_
 refine aQ.ck aa false 2 ⟨54,[(1,vs bf),(2,vs bB),(3,vi ag),(4,.ref 4 0),(8,.ref 8 0),(12,.agg (tc aj aW)),(13,vs bf)],[(4,.box (tc aj aW)),(8,.box [vs (ByteArray.mk #[]),vs (ByteArray.mk #[]),vi 0,vi 0])]⟩ ?_
 obtain⟨x1,hx1,h⟩:=bind_some h
 refine aQ.step (xc rG (dG aW bf _ hx1)) ?_
 refine aQ.ck aa false 4 ⟨54,[(1,vs bf),(2,vs bB),(3,vi ag),(4,.ref 4 0),(8,.ref 8 0),(16,vi x1.Years.To),(17,.agg (tc aj aW)),(18,vs bB)],[(4,.box (tc aj aW)),(8,.box [vs (ByteArray.mk #[]),vs (ByteArray.mk #[]),vi 0,vi 0])]⟩ ?_
 obtain⟨x2,hx2,h⟩:=bind_some h
 refine aQ.step (xc rG (dG aW bB _ hx2)) ?_
 refine aQ.ck aa false 4 ⟨54,[(1,vs bf),(2,vs bB),(3,vi ag),(4,.ref 4 0),(8,.ref 8 0),(9,vi (bL x1.Years.To x2.Years.To))],[(4,.box (tc aj aW)),(8,.box [vs (ByteArray.mk #[]),vs (ByteArray.mk #[]),vi 0,vi 0])]⟩ ?_
 refine aQ.nx ?_
 refine ai ?_
 refine az aa ⟨54,[(1,vs bf),(2,vs bB),(3,vi ag),(8,.ref 8 0),(9,vi (bL x1.Years.To x2.Years.To)),(24,vl ac aW.Links),(25,vi (aW.Links.length:Int)),(26,vi 0)],[(8,.box [vs (ByteArray.mk #[]),vs (ByteArray.mk #[]),vi 0,vi 0])]⟩ ?_
 refine bg h (fun j3=>⟨54,[(1,vs bf),(2,vs bB),(3,vi ag),(8,.ref 8 0),(9,vi j3)],[(8,.box [vs (ByteArray.mk #[]),vs (ByteArray.mk #[]),vi 0,vi 0])]⟩) (fun v4 h=> ?_) (fun j3 h=> ?_)
 refine ax (a:=v4) ?_
 refine a6 (r:=v4) (s:=(0,(bL x1.Years.To x2.Years.To))) _ (fun s5=>⟨54,[(1,vs bf),(2,vs bB),(3,vi ag),(8,.ref 8 0),(9,vi s5.2),(24,vl ac aW.Links),(25,vi (aW.Links.length:Int)),(26,vi s5.1)],[(8,.box [vs (ByteArray.mk #[]),vs (ByteArray.mk #[]),vi 0,vi 0])]⟩) _ (Le.ao) h (fun s5 v6 h=> ?_)
 refine az aa ⟨54,[(1,vs bf),(2,vs bB),(3,vi ag),(8,.ref 8 0),(9,vi s5.2),(24,vl ac aW.Links),(25,vi (aW.Links.length:Int)),(26,vi s5.1),(27,vb (decide (s5.1<(aW.Links.length:Int))))],[(8,.box [vs (ByteArray.mk #[]),vs (ByteArray.mk #[]),vi 0,vi 0])]⟩ ?_
 refine ai ?_
 refine aq h (fun h=> ?_) fun h=> ?_
 refine an ?_
 refine a8 ?_
 refine ai ?_
 refine bg h (fun j7=>⟨54,[(1,vs bf),(2,vs bB),(3,vi ag),(8,.ref 8 0),(9,vi j7),(24,vl ac aW.Links),(25,vi (aW.Links.length:Int)),(26,vi s5.1)],[(8,.box [vs (ByteArray.mk #[]),vs (ByteArray.mk #[]),vi 0,vi 0])]⟩) (fun v8 h=> ?_) (fun j7 h=> ?_)
 refine ax (a:=v8) ?_
 refine sr ?_
 obtain⟨x9,hx9,h⟩:=bind_some h
 refine ae.ls (aG (L:=aW.Links) (f:=ac) (ti:=eh) (tj:=ei) (e:=85) (k:= .i64) aa rfl hx9) ?_
 refine bU aa 3 ⟨54,[(1,vs bf),(2,vs bB),(3,vi ag),(8,.ref 8 0),(9,vi s5.2),(11,.ref 11 0),(24,vl ac aW.Links),(25,vi (aW.Links.length:Int)),(26,vi s5.1)],[(8,.box [vs (ByteArray.mk #[]),vs (ByteArray.mk #[]),vi 0,vi 0]),(11,.box (tc ac x9))]⟩ ?_
 refine ai ?_
 refine cQ ⟨54,[(1,vs bf),(2,vs bB),(3,vi ag),(8,.ref 8 0),(9,vi s5.2),(11,.ref 11 0),(24,vl ac aW.Links),(25,vi (aW.Links.length:Int)),(26,vi s5.1),(40,vb ((x9.Child.toList==bf.toList)&&(decide (x9.Years.From>ag))))],[(8,.box [vs (ByteArray.mk #[]),vs (ByteArray.mk #[]),vi 0,vi 0]),(11,.box (tc ac x9))]⟩ ?_ ?_
 refine ae.ck aa 5 ⟨54,[(1,vs bf),(2,vs bB),(3,vi ag),(8,.ref 8 0),(9,vi s5.2),(11,.ref 11 0),(24,vl ac aW.Links),(25,vi (aW.Links.length:Int)),(26,vi s5.1),(34,vb (x9.Child.toList==bf.toList))],[(8,.box [vs (ByteArray.mk #[]),vs (ByteArray.mk #[]),vi 0,vi 0]),(11,.box (tc ac x9))]⟩ ?_
 generalize (x9.Child.toList==bf.toList)=bb
 cases bb
 refine ae.ck aa 6 ⟨54,[(1,vs bf),(2,vs bB),(3,vi ag),(8,.ref 8 0),(9,vi s5.2),(11,.ref 11 0),(24,vl ac aW.Links),(25,vi (aW.Links.length:Int)),(26,vi s5.1),(40,vb false)],[(8,.box [vs (ByteArray.mk #[]),vs (ByteArray.mk #[]),vi 0,vi 0]),(11,.box (tc ac x9))]⟩ ?_
 exact ae.nil (Le.ao)
 refine ae.ck aa 6 ⟨54,[(1,vs bf),(2,vs bB),(3,vi ag),(8,.ref 8 0),(9,vi s5.2),(11,.ref 11 0),(24,vl ac aW.Links),(25,vi (aW.Links.length:Int)),(26,vi s5.1),(40,vb (decide (x9.Years.From>ag)))],[(8,.box [vs (ByteArray.mk #[]),vs (ByteArray.mk #[]),vi 0,vi 0]),(11,.box (tc ac x9))]⟩ ?_
 exact ae.nil (Le.ao)
 refine aq h (fun h=> ?_) fun h=> ?_
 refine aE ?_
 refine ae.ck aa 7 ⟨54,[(1,vs bf),(2,vs bB),(3,vi ag),(8,.ref 8 0),(9,vi (bL s5.2 (aZ (x9.Years.From - 1)))),(24,vl ac aW.Links),(25,vi (aW.Links.length:Int)),(26,vi s5.1)],[(8,.box [vs (ByteArray.mk #[]),vs (ByteArray.mk #[]),vi 0,vi 0])]⟩ ?_
 refine ae.nil ?_
 obtain rfl:=inj h
 exact bY (fO (Le.ao))
 refine an ?_
 obtain rfl:=inj h
 exact bY (fO (Le.ao))
 refine aE ?_
 refine ae.ck aa 2 ⟨54,[(1,vs bf),(2,vs bB),(3,vi ag),(8,.ref 8 0),(9,vi j7),(24,vl ac aW.Links),(25,vi (aW.Links.length:Int)),(26,vi (aZ (s5.1+1)))],[(8,.box [vs (ByteArray.mk #[]),vs (ByteArray.mk #[]),vi 0,vi 0])]⟩ ?_
 refine ae.nil ?_
 obtain rfl:=inj h
 exact cb (Le.ao)
 refine aO ?_
 obtain rfl:=inj h
 exact cH (cJ (cI (fO (Le.ao))))
 refine sr ?_
 refine ae.ck aa 4 ⟨54,[(8,.ref 8 0),(48,vs bf),(49,vs bB),(50,vi ag),(51,vi j3)],[(8,.box [vs (ByteArray.mk #[]),vs (ByteArray.mk #[]),vi 0,vi 0])]⟩ ?_
 refine ae.ls (bt (v:= .agg [vi ag,vi j3]) aa rfl) ?_
 refine ae.ls (bt (v:= .agg [vs bf,vs bB,vi ag,vi j3]) aa rfl) ?_
 refine bU aa 1 ⟨54,[(8,.ref 8 0)],[(8,.box [vs bf,vs bB,vi ag,vi j3])]⟩ ?_
 refine ak ?_
 obtain rfl:=inj h
 exact aD (f1 (fc aa))
theorem zc:a7 Tryz.prog 142:=aw Tryz.func142 (by kernel_rfl) rfl
noncomputable def cz(aW:World)(bf:ByteArray)(bB:ByteArray)(ag:Int):Option (Int×World):=
 (bif(bf.toList==bB.toList)then some (5,aW)else((du aW bf bB ag).bind fun x1=>(((iQ (aW.Links.length:Int) (fun(i4:Int) (s4:(List au))=>((at' aW.Links i4).bind fun x8=>(((bif(x8.Child.toList==bf.toList)then((bF x8.Years ag).bind fun x9=>some x9)else some false)).bind fun(j10:Bool)=>(((bif j10 then some (au.mk x8.Child x8.Parent (Span.mk x8.Years.From (aZ (ag - 1))))else some x8)).bind fun(j12:au)=>(bif(decide (j12.Years.From≤j12.Years.To))then((dU s4 ([j12]:List au)).bind fun x14=>some x14)else some s4))))) (fun(s4:(List au))=>s4) 0 ([]:List au))).bind fun(j2:(List au))=>((dU j2 ([x1]:List au)).bind fun x15=>(((bif(decide ((x15.length:Int)>20))then some (.inr (3,aW))else((dN x15).bind fun x18=>(bif(!x18)then some (.inr (5,aW))else some (.inl ()))))).bind (Sum.elim (fun(_:Unit)=>some (0,(World.mk aW.Places x15))) some))))))
theorem iX(aW:World)(bf:ByteArray)(bB:ByteArray)(ag:Int)(r:Int×World)(h:cz aW bf bB ag=some r):jl Tryz.prog 91 [.ref 1000000 0,vs bf,vs bB,vi ag] [(1000000,.box [.own 3000000,.own 3000001]),(3000000,.deep 91 5 aW.Places.length [.flat,.flat,.flat,.flat,(.sl 169 5 [.flat,.flat,.flat,.flat,.flat])] (aW.Places.map ab)),(3000001,oa 85 4 ac aW.Links)] [(1000000,.box [.own 3000000,.own 3000001]),(3000000,.deep 91 5 r.2.Places.length [.flat,.flat,.flat,.flat,(.sl 169 5 [.flat,.flat,.flat,.flat,.flat])] (r.2.Places.map ab)),(3000001,oa 85 4 ac r.2.Links)] [vi r.1]:=by
 refine iN Tryz.func91 rfl [(.tmp 8)] rfl (fun r=>[(1000000,.box [.own 3000000,.own 3000001]),(3000000,.deep 91 5 r.2.Places.length [.flat,.flat,.flat,.flat,(.sl 169 5 [.flat,.flat,.flat,.flat,.flat])] (r.2.Places.map ab)),(3000001,oa 85 4 ac r.2.Links)]) (fun r=>[vi r.1]) (r:=r) (cw SV.dW (cw trivial (cw (b9 dt _) jI))) ?_
 unfold cz at h
 refine az aa ⟨74,[(0,.ref 1000000 0),(1,vs bf),(2,vs bB),(3,vi ag)],[(1000000,.box [.own 3000000,.own 3000001]),(3000000,.deep 91 5 aW.Places.length [.flat,.flat,.flat,.flat,(.sl 169 5 [.flat,.flat,.flat,.flat,.flat])] (aW.Places.map ab)),(3000001,oa 85 4 ac aW.Links)]⟩ ?_
 refine ai ?_
 refine az aa ⟨74,[(0,.ref 1000000 0),(1,vs bf),(2,vs bB),(3,vi ag),(15,vb (bf.toList==bB.toList))],[(1000000,.box [.own 3000000,.own 3000001]),(3000000,.deep 91 5 aW.Places.length [.flat,.flat,.flat,.flat,(.sl 169 5 [.flat,.flat,.flat,.flat,.flat])] (aW.Places.map ab)),(3000001,oa 85 4 ac aW.Links)]⟩ ?_
 refine aq h (fun h=> ?_) fun h=> ?_
 refine az aa ⟨74,[(8,vi 5)],[(1000000,.box [.own 3000000,.own 3000001]),(3000000,.deep 91 5 aW.Places.length [.flat,.flat,.flat,.flat,(.sl 169 5 [.flat,.flat,.flat,.flat,.flat])] (aW.Places.map ab)),(3000001,oa 85 4 ac aW.Links)]⟩ ?_
 refine ak ?_
 obtain rfl:=inj h
 exact bS (l4 (fw aa))
 refine an ?_
 refine a8 ?_
 refine sr ?_
 refine ae.ck aa 6 ⟨74,[(0,.ref 1000000 0),(1,vs bf),(3,vi ag),(18,.agg [.own 3000000,.own 3000001]),(19,vs bf),(20,vs bB),(21,vi ag)],[(1000000,.box [.own 3000000,.own 3000001]),(3000000,.deep 91 5 aW.Places.length [.flat,.flat,.flat,.flat,(.sl 169 5 [.flat,.flat,.flat,.flat,.flat])] (aW.Places.map ab)),(3000001,oa 85 4 ac aW.Links)]⟩ ?_
 obtain⟨x1,hx1,h⟩:=bind_some h
 refine ae.ls (xc zc (kE aW bf bB ag _ hx1)) ?_
 refine bU aa 2 ⟨74,[(0,.ref 1000000 0),(1,vs bf),(3,vi ag),(9,.ref 9 0)],[(9,.box (tc ac x1)),(1000000,.box [.own 3000000,.own 3000001]),(3000000,.deep 91 5 aW.Places.length [.flat,.flat,.flat,.flat,(.sl 169 5 [.flat,.flat,.flat,.flat,.flat])] (aW.Places.map ab)),(3000001,oa 85 4 ac aW.Links)]⟩ ?_
 refine az aa ⟨74,[(0,.ref 1000000 0),(1,vs bf),(3,vi ag),(9,.ref 9 0),(10,.own 10)],[(9,.box (tc ac x1)),(10,oa 85 4 ac ([]:List au)),(1000000,.box [.own 3000000,.own 3000001]),(3000000,.deep 91 5 aW.Places.length [.flat,.flat,.flat,.flat,(.sl 169 5 [.flat,.flat,.flat,.flat,.flat])] (aW.Places.map ab)),(3000001,oa 85 4 ac aW.Links)]⟩ ?_
 refine ai ?_
 refine az aa ⟨74,[(0,.ref 1000000 0),(1,vs bf),(3,vi ag),(9,.ref 9 0),(10,.own 10),(26,.own 3000001),(27,vi (aW.Links.length:Int)),(28,vi 0)],[(9,.box (tc ac x1)),(10,oa 85 4 ac ([]:List au)),(1000000,.box [.own 3000000,.own 3000001]),(3000000,.deep 91 5 aW.Places.length [.flat,.flat,.flat,.flat,(.sl 169 5 [.flat,.flat,.flat,.flat,.flat])] (aW.Places.map ab)),(3000001,oa 85 4 ac aW.Links)]⟩ ?_
 refine bg h (fun j2=>⟨74,[(0,.ref 1000000 0),(9,.ref 9 0),(10,.own 10)],[(9,.box (tc ac x1)),(10,oa 85 4 ac j2),(1000000,.box [.own 3000000,.own 3000001]),(3000000,.deep 91 5 aW.Places.length [.flat,.flat,.flat,.flat,(.sl 169 5 [.flat,.flat,.flat,.flat,.flat])] (aW.Places.map ab)),(3000001,oa 85 4 ac aW.Links)]⟩) (fun v3 h=> ?_) (fun j2 h=> ?_)
 refine ax (a:=v3) ?_
 refine a6 (r:=v3) (s:=(0,([]:List au))) _ (fun s4=>⟨74,[(0,.ref 1000000 0),(1,vs bf),(3,vi ag),(9,.ref 9 0),(10,.own 10),(26,.own 3000001),(27,vi (aW.Links.length:Int)),(28,vi s4.1)],[(9,.box (tc ac x1)),(10,oa 85 4 ac s4.2),(1000000,.box [.own 3000000,.own 3000001]),(3000000,.deep 91 5 aW.Places.length [.flat,.flat,.flat,.flat,(.sl 169 5 [.flat,.flat,.flat,.flat,.flat])] (aW.Places.map ab)),(3000001,oa 85 4 ac aW.Links)]⟩) _ (Le.ao) h (fun s4 v5 h=> ?_)
 refine az aa ⟨74,[(0,.ref 1000000 0),(1,vs bf),(3,vi ag),(9,.ref 9 0),(10,.own 10),(26,.own 3000001),(27,vi (aW.Links.length:Int)),(28,vi s4.1),(29,vb (decide (s4.1<(aW.Links.length:Int))))],[(9,.box (tc ac x1)),(10,oa 85 4 ac s4.2),(1000000,.box [.own 3000000,.own 3000001]),(3000000,.deep 91 5 aW.Places.length [.flat,.flat,.flat,.flat,(.sl 169 5 [.flat,.flat,.flat,.flat,.flat])] (aW.Places.map ab)),(3000001,oa 85 4 ac aW.Links)]⟩ ?_
 refine ai ?_
 refine aq h (fun h=> ?_) fun h=> ?_
 refine an ?_
 refine a8 ?_
 refine ai ?_
 refine bg h (fun j6=>⟨74,[(0,.ref 1000000 0),(1,vs bf),(3,vi ag),(9,.ref 9 0),(10,.own 10),(26,.own 3000001),(27,vi (aW.Links.length:Int)),(28,vi s4.1)],[(9,.box (tc ac x1)),(10,oa 85 4 ac j6),(1000000,.box [.own 3000000,.own 3000001]),(3000000,.deep 91 5 aW.Places.length [.flat,.flat,.flat,.flat,(.sl 169 5 [.flat,.flat,.flat,.flat,.flat])] (aW.Places.map ab)),(3000001,oa 85 4 ac aW.Links)]⟩) (fun v7 h=> ?_) (fun j6 h=> ?_)
 refine ax (a:=v7) ?_
 refine sr ?_
 obtain⟨x8,hx8,h⟩:=bind_some h
 refine ae.ls (bX (d:=3000001) (L:=aW.Links) (f:=ac) (ti:=eh) (tj:=ei) (e:=85) (e':=85) (m:=4) (k:= .i64) aa rfl hx8) ?_
 refine ae.ls (dd (d:=3000001) (m:=4) (j:=0) (L:=aW.Links) (f:=ac) (ti:=ei) (e:=85) (v:= .agg (tc ac x8)) aa rfl hx8) ?_
 refine bU aa 2 ⟨74,[(0,.ref 1000000 0),(1,vs bf),(3,vi ag),(9,.ref 9 0),(10,.own 10),(12,.ref 12 0),(26,.own 3000001),(27,vi (aW.Links.length:Int)),(28,vi s4.1)],[(9,.box (tc ac x1)),(10,oa 85 4 ac s4.2),(12,.box (tc ac x8)),(1000000,.box [.own 3000000,.own 3000001]),(3000000,.deep 91 5 aW.Places.length [.flat,.flat,.flat,.flat,(.sl 169 5 [.flat,.flat,.flat,.flat,.flat])] (aW.Places.map ab)),(3000001,oa 85 4 ac aW.Links)]⟩ ?_
 refine ai ?_
 refine ai ?_
 refine bk h (fun j10=>⟨74,[(0,.ref 1000000 0),(1,vs bf),(3,vi ag),(9,.ref 9 0),(10,.own 10),(12,.ref 12 0),(26,.own 3000001),(27,vi (aW.Links.length:Int)),(28,vi s4.1),(41,vb j10)],[(9,.box (tc ac x1)),(10,oa 85 4 ac s4.2),(12,.box (tc ac x8)),(1000000,.box [.own 3000000,.own 3000001]),(3000000,.deep 91 5 aW.Places.length [.flat,.flat,.flat,.flat,(.sl 169 5 [.flat,.flat,.flat,.flat,.flat])] (aW.Places.map ab)),(3000001,oa 85 4 ac aW.Links)]⟩) (fun v11 h=> ?_) (fun j10 h=> ?_)
 refine ae.ck aa 5 ⟨74,[(0,.ref 1000000 0),(1,vs bf),(3,vi ag),(9,.ref 9 0),(10,.own 10),(12,.ref 12 0),(26,.own 3000001),(27,vi (aW.Links.length:Int)),(28,vi s4.1),(36,vb (x8.Child.toList==bf.toList))],[(9,.box (tc ac x1)),(10,oa 85 4 ac s4.2),(12,.box (tc ac x8)),(1000000,.box [.own 3000000,.own 3000001]),(3000000,.deep 91 5 aW.Places.length [.flat,.flat,.flat,.flat,(.sl 169 5 [.flat,.flat,.flat,.flat,.flat])] (aW.Places.map ab)),(3000001,oa 85 4 ac aW.Links)]⟩ ?_
 refine ae.cu [(36,fun b=>b)] h (fun h=> ?_) fun h=> ?_
 refine ae.ck aa 3 ⟨74,[(0,.ref 1000000 0),(1,vs bf),(3,vi ag),(9,.ref 9 0),(10,.own 10),(12,.ref 12 0),(26,.own 3000001),(27,vi (aW.Links.length:Int)),(28,vi s4.1),(36,vb true),(38,.agg (tc bc x8.Years)),(39,vi ag)],[(9,.box (tc ac x1)),(10,oa 85 4 ac s4.2),(12,.box (tc ac x8)),(1000000,.box [.own 3000000,.own 3000001]),(3000000,.deep 91 5 aW.Places.length [.flat,.flat,.flat,.flat,(.sl 169 5 [.flat,.flat,.flat,.flat,.flat])] (aW.Places.map ab)),(3000001,oa 85 4 ac aW.Links)]⟩ ?_
 obtain⟨x9,hx9,h⟩:=bind_some h
 refine ae.ls (xc lb (ct x8.Years ag _ hx9)) ?_
 refine ae.ck aa 1 ⟨74,[(0,.ref 1000000 0),(1,vs bf),(3,vi ag),(9,.ref 9 0),(10,.own 10),(12,.ref 12 0),(26,.own 3000001),(27,vi (aW.Links.length:Int)),(28,vi s4.1),(41,vb x9)],[(9,.box (tc ac x1)),(10,oa 85 4 ac s4.2),(12,.box (tc ac x8)),(1000000,.box [.own 3000000,.own 3000001]),(3000000,.deep 91 5 aW.Places.length [.flat,.flat,.flat,.flat,(.sl 169 5 [.flat,.flat,.flat,.flat,.flat])] (aW.Places.map ab)),(3000001,oa 85 4 ac aW.Links)]⟩ ?_
 refine ae.nil ?_
 obtain rfl:=inj h
 exact Le.ao
 refine ae.ck aa 5 ⟨74,[(0,.ref 1000000 0),(1,vs bf),(3,vi ag),(9,.ref 9 0),(10,.own 10),(12,.ref 12 0),(26,.own 3000001),(27,vi (aW.Links.length:Int)),(28,vi s4.1),(41,vb false)],[(9,.box (tc ac x1)),(10,oa 85 4 ac s4.2),(12,.box (tc ac x8)),(1000000,.box [.own 3000000,.own 3000001]),(3000000,.deep 91 5 aW.Places.length [.flat,.flat,.flat,.flat,(.sl 169 5 [.flat,.flat,.flat,.flat,.flat])] (aW.Places.map ab)),(3000001,oa 85 4 ac aW.Links)]⟩ ?_
 refine ae.nil ?_
 obtain rfl:=inj h
 exact Le.ao
 refine bg h (fun j12=>⟨74,[(0,.ref 1000000 0),(1,vs bf),(3,vi ag),(9,.ref 9 0),(10,.own 10),(12,.ref 12 0),(26,.own 3000001),(27,vi (aW.Links.length:Int)),(28,vi s4.1)],[(9,.box (tc ac x1)),(10,oa 85 4 ac s4.2),(12,.box (tc ac j12)),(1000000,.box [.own 3000000,.own 3000001]),(3000000,.deep 91 5 aW.Places.length [.flat,.flat,.flat,.flat,(.sl 169 5 [.flat,.flat,.flat,.flat,.flat])] (aW.Places.map ab)),(3000001,oa 85 4 ac aW.Links)]⟩) (fun v13 h=> ?_) (fun j12 h=> ?_)
 refine aq h (fun h=> ?_) fun h=> ?_
 refine aE ?_
 refine ae.ck aa 5 ⟨74,[(0,.ref 1000000 0),(1,vs bf),(3,vi ag),(9,.ref 9 0),(10,.own 10),(12,.ref 12 0),(26,.own 3000001),(27,vi (aW.Links.length:Int)),(28,vi s4.1)],[(9,.box (tc ac x1)),(10,oa 85 4 ac s4.2),(12,.box [vs x8.Child,vs x8.Parent,vi x8.Years.From,vi (aZ (ag - 1))]),(1000000,.box [.own 3000000,.own 3000001]),(3000000,.deep 91 5 aW.Places.length [.flat,.flat,.flat,.flat,(.sl 169 5 [.flat,.flat,.flat,.flat,.flat])] (aW.Places.map ab)),(3000001,oa 85 4 ac aW.Links)]⟩ ?_
 refine ae.nil ?_
 obtain rfl:=inj h
 exact fO (Le.ao)
 refine an ?_
 obtain rfl:=inj h
 exact fO (Le.ao)
 refine az aa ⟨74,[(0,.ref 1000000 0),(1,vs bf),(3,vi ag),(9,.ref 9 0),(10,.own 10),(12,.ref 12 0),(26,.own 3000001),(27,vi (aW.Links.length:Int)),(28,vi s4.1),(52,vb (decide (j12.Years.From≤j12.Years.To)))],[(9,.box (tc ac x1)),(10,oa 85 4 ac s4.2),(12,.box (tc ac j12)),(1000000,.box [.own 3000000,.own 3000001]),(3000000,.deep 91 5 aW.Places.length [.flat,.flat,.flat,.flat,(.sl 169 5 [.flat,.flat,.flat,.flat,.flat])] (aW.Places.map ab)),(3000001,oa 85 4 ac aW.Links)]⟩ ?_
 refine aq h (fun h=> ?_) fun h=> ?_
 refine aE ?_
 refine ae.ck aa 3 ⟨74,[(0,.ref 1000000 0),(1,vs bf),(3,vi ag),(9,.ref 9 0),(26,.own 3000001),(27,vi (aW.Links.length:Int)),(28,vi s4.1),(53,.own 10),(55,.own 55)],[(9,.box (tc ac x1)),(10,oa 85 4 ac s4.2),(55,oa 85 4 ac ([j12]:List au)),(1000000,.box [.own 3000000,.own 3000001]),(3000000,.deep 91 5 aW.Places.length [.flat,.flat,.flat,.flat,(.sl 169 5 [.flat,.flat,.flat,.flat,.flat])] (aW.Places.map ab)),(3000001,oa 85 4 ac aW.Links)]⟩ ?_
 obtain⟨x14,hx14,h⟩:=bind_some h
 refine ae.cf (bT (f:=ac) (t:=33) (ti:=eh) (tj:=ei) (zs:=[.string (ByteArray.mk #[]),.string (ByteArray.mk #[]),.int .i64 0,.int .i64 0]) (e:=85) (m:=4) (d:=10) (xv:= .own 55) hx14 aa rfl rfl rfl rfl (dj (e:=85))) ?_
 refine ae.ck aa 1 ⟨74,[(0,.ref 1000000 0),(1,vs bf),(3,vi ag),(9,.ref 9 0),(10,.own 56),(26,.own 3000001),(27,vi (aW.Links.length:Int)),(28,vi s4.1)],[(9,.box (tc ac x1)),(56,oa 85 4 ac x14),(1000000,.box [.own 3000000,.own 3000001]),(3000000,.deep 91 5 aW.Places.length [.flat,.flat,.flat,.flat,(.sl 169 5 [.flat,.flat,.flat,.flat,.flat])] (aW.Places.map ab)),(3000001,oa 85 4 ac aW.Links)]⟩ ?_
 refine ae.nil ?_
 obtain rfl:=inj h
 exact bY (fO (Le.rr [9,56,1000000,3000000,3000001] [(56,10)]))
 refine an ?_
 obtain rfl:=inj h
 exact bY (fO (Le.ao))
 refine aE ?_
 refine ae.ck aa 2 ⟨74,[(0,.ref 1000000 0),(1,vs bf),(3,vi ag),(9,.ref 9 0),(10,.own 10),(26,.own 3000001),(27,vi (aW.Links.length:Int)),(28,vi (aZ (s4.1+1)))],[(9,.box (tc ac x1)),(10,oa 85 4 ac j6),(1000000,.box [.own 3000000,.own 3000001]),(3000000,.deep 91 5 aW.Places.length [.flat,.flat,.flat,.flat,(.sl 169 5 [.flat,.flat,.flat,.flat,.flat])] (aW.Places.map ab)),(3000001,oa 85 4 ac aW.Links)]⟩ ?_
 refine ae.nil ?_
 obtain rfl:=inj h
 exact cb (Le.ao)
 refine aO ?_
 obtain rfl:=inj h
 exact cH (cJ (cI (fO (Le.ao))))
 refine sr ?_
 refine ae.ck aa 3 ⟨74,[(0,.ref 1000000 0),(58,.own 10),(60,.own 60)],[(10,oa 85 4 ac j2),(60,oa 85 4 ac ([x1]:List au)),(1000000,.box [.own 3000000,.own 3000001]),(3000000,.deep 91 5 aW.Places.length [.flat,.flat,.flat,.flat,(.sl 169 5 [.flat,.flat,.flat,.flat,.flat])] (aW.Places.map ab)),(3000001,oa 85 4 ac aW.Links)]⟩ ?_
 obtain⟨x15,hx15,h⟩:=bind_some h
 refine ae.cf (bT (f:=ac) (t:=33) (ti:=eh) (tj:=ei) (zs:=[.string (ByteArray.mk #[]),.string (ByteArray.mk #[]),.int .i64 0,.int .i64 0]) (e:=85) (m:=4) (d:=10) (xv:= .own 60) hx15 aa rfl rfl rfl rfl (dj (e:=85))) ?_
 refine bU aa 1 ⟨74,[(0,.ref 1000000 0),(10,.own 61)],[(61,oa 85 4 ac x15),(1000000,.box [.own 3000000,.own 3000001]),(3000000,.deep 91 5 aW.Places.length [.flat,.flat,.flat,.flat,(.sl 169 5 [.flat,.flat,.flat,.flat,.flat])] (aW.Places.map ab)),(3000001,oa 85 4 ac aW.Links)]⟩ ?_
 refine ai ?_
 refine bl (r:=r) h (fun j16=>⟨74,[(0,.ref 1000000 0),(10,.own 10)],[(10,oa 85 4 ac x15),(1000000,.box [.own 3000000,.own 3000001]),(3000000,.deep 91 5 aW.Places.length [.flat,.flat,.flat,.flat,(.sl 169 5 [.flat,.flat,.flat,.flat,.flat])] (aW.Places.map ab)),(3000001,oa 85 4 ac aW.Links)]⟩) (fun v17 h=> ?_) (fun j16 h=> ?_)
 refine ax (a:=v17) ?_
 refine az aa ⟨74,[(0,.ref 1000000 0),(10,.own 61),(62,vb (decide ((x15.length:Int)>20)))],[(61,oa 85 4 ac x15),(1000000,.box [.own 3000000,.own 3000001]),(3000000,.deep 91 5 aW.Places.length [.flat,.flat,.flat,.flat,(.sl 169 5 [.flat,.flat,.flat,.flat,.flat])] (aW.Places.map ab)),(3000001,oa 85 4 ac aW.Links)]⟩ ?_
 refine aq h (fun h=> ?_) fun h=> ?_
 refine az aa ⟨74,[(8,vi 3)],[(1000000,.box [.own 3000000,.own 3000001]),(3000000,.deep 91 5 aW.Places.length [.flat,.flat,.flat,.flat,(.sl 169 5 [.flat,.flat,.flat,.flat,.flat])] (aW.Places.map ab)),(3000001,oa 85 4 ac aW.Links)]⟩ ?_
 refine ak ?_
 obtain rfl:=inj h
 exact bw (bi (l4 (fw aa)))
 refine sr ?_
 refine ae.ck aa 1 ⟨74,[(0,.ref 1000000 0),(10,.own 61),(67,.own 61)],[(61,oa 85 4 ac x15),(1000000,.box [.own 3000000,.own 3000001]),(3000000,.deep 91 5 aW.Places.length [.flat,.flat,.flat,.flat,(.sl 169 5 [.flat,.flat,.flat,.flat,.flat])] (aW.Places.map ab)),(3000001,oa 85 4 ac aW.Links)]⟩ ?_
 obtain⟨x18,hx18,h⟩:=bind_some h
 refine ae.ls (xc uB (gH x15 _ hx18)) ?_
 refine bU aa 2 ⟨74,[(0,.ref 1000000 0),(10,.own 61),(66,vb (!x18))],[(61,oa 85 4 ac x15),(1000000,.box [.own 3000000,.own 3000001]),(3000000,.deep 91 5 aW.Places.length [.flat,.flat,.flat,.flat,(.sl 169 5 [.flat,.flat,.flat,.flat,.flat])] (aW.Places.map ab)),(3000001,oa 85 4 ac aW.Links)]⟩ ?_
 refine aq h (fun h=> ?_) fun h=> ?_
 refine az aa ⟨74,[(8,vi 5)],[(1000000,.box [.own 3000000,.own 3000001]),(3000000,.deep 91 5 aW.Places.length [.flat,.flat,.flat,.flat,(.sl 169 5 [.flat,.flat,.flat,.flat,.flat])] (aW.Places.map ab)),(3000001,oa 85 4 ac aW.Links)]⟩ ?_
 refine ak ?_
 obtain rfl:=inj h
 exact bw (bi (l4 (fw aa)))
 refine an ?_
 obtain rfl:=inj h
 exact bY (cb (Le.rr [61,1000000,3000000,3000001] [(61,10)]))
 refine sr ?_
 refine ae.ck aa 4 ⟨74,[(71,.own 10),(73,.ref 1000000 1)],[(10,oa 85 4 ac x15),(1000000,.box [.own 3000000,.own 3000001]),(3000000,.deep 91 5 aW.Places.length [.flat,.flat,.flat,.flat,(.sl 169 5 [.flat,.flat,.flat,.flat,.flat])] (aW.Places.map ab)),(3000001,oa 85 4 ac aW.Links)]⟩ ?_
 refine ae.cf (mr (d:=1000000) (k:=1) (ti:=eh) (cs:=[.own 3000000,.own 3000001]) (vs:=[.own 10]) (v:= .own 10) aa rfl rfl) ?_
 refine ae.le (Le.less _ [3000001]) ?_
 refine ae.le (Le.tE 10 3000001) ?_
 refine ae.nx ?_
 refine az aa ⟨74,[(8,vi 0)],[(1000000,.box [.own 3000000,.own 3000001]),(3000000,.deep 91 5 aW.Places.length [.flat,.flat,.flat,.flat,(.sl 169 5 [.flat,.flat,.flat,.flat,.flat])] (aW.Places.map ab)),(3000001,oa 85 4 ac x15)]⟩ ?_
 refine ak ?_
 obtain rfl:=inj h
 exact l4 (fw aa)
theorem xD:a7 Tryz.prog 91:=aw Tryz.func91 (by kernel_rfl) rfl
noncomputable def fX(ad:(List au))(ag:Int)(kx:(List ByteArray)):Option (Int):=
 ((((((dN ad).bind fun x3=>(bif(!x3)then some true else((dQ kx).bind fun x4=>some (!x4))))).bind fun(j5:Bool)=>(bif j5 then some (.inr 1)else((dI ag).bind fun x7=>(bif(!x7)then some (.inr 2)else some (.inl ())))))).bind (Sum.elim (fun(_:Unit)=>some 0) some))
theorem m9(ad:(List au))(ag:Int)(kx:(List ByteArray))(r:Int)(h:fX ad ag kx=some r):aF Tryz.prog 186 [.v (vl ac ad),.v (vi ag),.v (vl eS kx)] ⟨[.v (vi r)],[],false⟩:=by
 refine ar Tryz.func186 rfl [(.tmp 6)] rfl (fun r=>⟨[.v (vi r)],[],false⟩) (r:=r) ?_
 unfold fX at h
 refine az aa ⟨20,[(0,vl ac ad),(1,vi ag),(2,vl eS kx)],[]⟩ ?_
 refine ai ?_
 refine bl (r:=r) h (fun j1=>⟨20,[],[]⟩) (fun v2 h=> ?_) (fun j1 h=> ?_)
 refine ax (a:=v2) ?_
 refine ai ?_
 refine bk h (fun j5=>⟨20,[(1,vi ag),(7,vb j5)],[]⟩) (fun v6 h=> ?_) (fun j5 h=> ?_)
 refine ae.ck aa 1 ⟨20,[(1,vi ag),(2,vl eS kx),(8,vl ac ad)],[]⟩ ?_
 obtain⟨x3,hx3,h⟩:=bind_some h
 refine ae.ls (xc uB (gH ad _ hx3)) ?_
 refine ae.ck aa 2 ⟨20,[(1,vi ag),(2,vl eS kx),(11,vb (!x3))],[]⟩ ?_
 refine ae.cu [(11,fun b=>b)] h (fun h=> ?_) fun h=> ?_
 refine ae.ck aa 5 ⟨20,[(1,vi ag),(7,vb true)],[]⟩ ?_
 refine ae.nil ?_
 obtain rfl:=inj h
 exact Le.ao
 refine ae.ck aa 1 ⟨20,[(1,vi ag),(11,vb false),(12,vl eS kx)],[]⟩ ?_
 obtain⟨x4,hx4,h⟩:=bind_some h
 refine ae.ls (xc ru (gM kx _ hx4)) ?_
 refine ae.ck aa 3 ⟨20,[(1,vi ag),(7,vb (!x4))],[]⟩ ?_
 refine ae.nil ?_
 obtain rfl:=inj h
 exact Le.ao
 refine aq h (fun h=> ?_) fun h=> ?_
 refine az aa ⟨20,[(6,vi 1)],[]⟩ ?_
 refine ak ?_
 obtain rfl:=inj h
 exact bw (bi (aD (f1 fv)))
 refine sr ?_
 refine ae.ck aa 1 ⟨20,[(17,vi ag)],[]⟩ ?_
 obtain⟨x7,hx7,h⟩:=bind_some h
 refine ae.ls (xc pk (gn ag _ hx7)) ?_
 refine bU aa 2 ⟨20,[(16,vb (!x7))],[]⟩ ?_
 refine aq h (fun h=> ?_) fun h=> ?_
 refine az aa ⟨20,[(6,vi 2)],[]⟩ ?_
 refine ak ?_
 obtain rfl:=inj h
 exact bw (bi (aD (f1 fv)))
 refine an ?_
 obtain rfl:=inj h
 exact bY (cb (Le.ao))
 refine az aa ⟨20,[(6,vi 0)],[]⟩ ?_
 refine ak ?_
 obtain rfl:=inj h
 exact aD (f1 fv)
theorem zv:a7 Tryz.prog 186:=aw Tryz.func186 (by kernel_rfl) rfl
noncomputable def fb(bf:ByteArray)(c0:(List au))(c1:Int)(c2:ByteArray):Option (Bool):=
 ((cE c0 bf c1).bind fun x1=>some (x1.1.toList==c2.toList))
theorem kS(bf:ByteArray)(c0:(List au))(c1:Int)(c2:ByteArray)(r:Bool)(h:fb bf c0 c1 c2=some r):aF Tryz.prog 188 [.v (vs bf),.v (.ptr [vl ac c0] 0),.v (.ptr [vi c1] 0),.v (.ptr [vs c2] 0)] ⟨[.v (vb r)],[],false⟩:=by
 refine ar Tryz.func188 rfl [(.tmp 5)] rfl (fun r=>⟨[.v (vb r)],[],false⟩) (r:=r) ?_
 unfold fb at h
 refine az aa ⟨18,[(0,vs bf),(1,.ptr [vl ac c0] 0),(2,.ptr [vi c1] 0),(3,.ptr [vs c2] 0)],[]⟩ ?_
 refine sr ?_
 refine ae.ck aa 3 ⟨18,[(3,.ptr [vs c2] 0),(9,vl ac c0),(10,vs bf),(11,vi c1)],[]⟩ ?_
 obtain⟨x1,hx1,h⟩:=bind_some h
 refine ae.ls (xc rA (gN c0 bf c1 _ hx1)) ?_
 refine bU aa 5 ⟨18,[(3,.ptr [vs c2] 0),(6,vs x1.1)],[]⟩ ?_
 refine az aa ⟨18,[(5,vb (x1.1.toList==c2.toList))],[]⟩ ?_
 refine ak ?_
 obtain rfl:=inj h
 exact aD (f1 fv)
theorem zx:a7 Tryz.prog 188:=aw Tryz.func188 (by kernel_rfl) rfl
theorem oS(L r:List ByteArray)(h:iF L=some r):rk Tryz.prog 215 9 1 (L.map eS) (r.map eS):=uW Tryz.zT rfl Tryz.zU rfl 9 L r h
theorem zI:a7 Tryz.prog 215:=aw Tryz.func215 (by kernel_rfl) rfl
noncomputable def bG(ad:(List au))(ag:Int)(jE:(List au))(jF:Int)(jG:ByteArray):Option ((List ByteArray)):=
 (((iQ (ad.length:Int) (fun(i3:Int) (s3:(List ByteArray))=>((at' ad i3).bind fun x7=>((((bF x7.Years ag).bind fun x8=>(bif x8 then((fb x7.Child jE jF jG).bind fun x9=>some x9)else some false))).bind fun(j10:Bool)=>(bif j10 then((dU s3 ([x7.Child]:List ByteArray)).bind fun x12=>some x12)else some s3)))) (fun(s3:(List ByteArray))=>s3) 0 ([]:List ByteArray))).bind fun(j1:(List ByteArray))=>((iF j1).bind fun x13=>some x13))
theorem fG(ad:(List au))(ag:Int)(jE:(List au))(jF:Int)(jG:ByteArray)(r:(List ByteArray))(h:bG ad ag jE jF jG=some r):aF Tryz.prog 187 [.v (vl ac ad),.v (vi ag),.v (.clo 188 [.ptr [vl ac jE] 0,.ptr [vi jF] 0,.ptr [vs jG] 0])] ⟨[.own 9 1 r.length (r.map eS)],[],false⟩:=by
 refine ar Tryz.func187 rfl [(.tmp 6)] rfl (fun r=>⟨[.own 9 1 r.length (r.map eS)],[],false⟩) (r:=r) ?_
 unfold bG at h
 refine az aa ⟨34,[(0,vl ac ad),(1,vi ag),(2,.clo 188 [.ptr [vl ac jE] 0,.ptr [vi jF] 0,.ptr [vs jG] 0])],[]⟩ ?_
 refine az aa ⟨34,[(0,vl ac ad),(1,vi ag),(2,.clo 188 [.ptr [vl ac jE] 0,.ptr [vi jF] 0,.ptr [vs jG] 0]),(7,.own 7)],[(7,oa 9 1 eS ([]:List ByteArray))]⟩ ?_
 refine ai ?_
 refine az aa ⟨34,[(1,vi ag),(2,.clo 188 [.ptr [vl ac jE] 0,.ptr [vi jF] 0,.ptr [vs jG] 0]),(7,.own 7),(10,vl ac ad),(11,vi (ad.length:Int)),(12,vi 0)],[(7,oa 9 1 eS ([]:List ByteArray))]⟩ ?_
 refine bg h (fun j1=>⟨34,[(7,.own 7)],[(7,oa 9 1 eS j1)]⟩) (fun v2 h=> ?_) (fun j1 h=> ?_)
 refine ax (a:=v2) ?_
 refine a6 (r:=v2) (s:=(0,([]:List ByteArray))) _ (fun s3=>⟨34,[(1,vi ag),(2,.clo 188 [.ptr [vl ac jE] 0,.ptr [vi jF] 0,.ptr [vs jG] 0]),(7,.own 7),(10,vl ac ad),(11,vi (ad.length:Int)),(12,vi s3.1)],[(7,oa 9 1 eS s3.2)]⟩) _ (Le.ao) h (fun s3 v4 h=> ?_)
 refine az aa ⟨34,[(1,vi ag),(2,.clo 188 [.ptr [vl ac jE] 0,.ptr [vi jF] 0,.ptr [vs jG] 0]),(7,.own 7),(10,vl ac ad),(11,vi (ad.length:Int)),(12,vi s3.1),(13,vb (decide (s3.1<(ad.length:Int))))],[(7,oa 9 1 eS s3.2)]⟩ ?_
 refine ai ?_
 refine aq h (fun h=> ?_) fun h=> ?_
 refine an ?_
 refine a8 ?_
 refine ai ?_
 refine bg h (fun j5=>⟨34,[(1,vi ag),(2,.clo 188 [.ptr [vl ac jE] 0,.ptr [vi jF] 0,.ptr [vs jG] 0]),(7,.own 7),(10,vl ac ad),(11,vi (ad.length:Int)),(12,vi s3.1)],[(7,oa 9 1 eS j5)]⟩) (fun v6 h=> ?_) (fun j5 h=> ?_)
 refine ax (a:=v6) ?_
 refine sr ?_
 obtain⟨x7,hx7,h⟩:=bind_some h
 refine ae.ls (aG (L:=ad) (f:=ac) (ti:=eh) (tj:=ei) (e:=85) (k:= .i64) aa rfl hx7) ?_
 refine bU aa 3 ⟨34,[(1,vi ag),(2,.clo 188 [.ptr [vl ac jE] 0,.ptr [vi jF] 0,.ptr [vs jG] 0]),(7,.own 7),(9,.ref 9 0),(10,vl ac ad),(11,vi (ad.length:Int)),(12,vi s3.1)],[(7,oa 9 1 eS s3.2),(9,.box (tc ac x7))]⟩ ?_
 refine ai ?_
 refine bk h (fun j10=>⟨34,[(1,vi ag),(2,.clo 188 [.ptr [vl ac jE] 0,.ptr [vi jF] 0,.ptr [vs jG] 0]),(7,.own 7),(9,.ref 9 0),(10,vl ac ad),(11,vi (ad.length:Int)),(12,vi s3.1),(25,vb j10)],[(7,oa 9 1 eS s3.2),(9,.box (tc ac x7))]⟩) (fun v11 h=> ?_) (fun j10 h=> ?_)
 refine ae.ck aa 3 ⟨34,[(1,vi ag),(2,.clo 188 [.ptr [vl ac jE] 0,.ptr [vi jF] 0,.ptr [vs jG] 0]),(7,.own 7),(9,.ref 9 0),(10,vl ac ad),(11,vi (ad.length:Int)),(12,vi s3.1),(17,.agg (tc bc x7.Years)),(18,vi ag)],[(7,oa 9 1 eS s3.2),(9,.box (tc ac x7))]⟩ ?_
 obtain⟨x8,hx8,h⟩:=bind_some h
 refine ae.ls (xc lb (ct x7.Years ag _ hx8)) ?_
 refine ae.ck aa 1 ⟨34,[(1,vi ag),(2,.clo 188 [.ptr [vl ac jE] 0,.ptr [vi jF] 0,.ptr [vs jG] 0]),(7,.own 7),(9,.ref 9 0),(10,vl ac ad),(11,vi (ad.length:Int)),(12,vi s3.1),(20,vb x8)],[(7,oa 9 1 eS s3.2),(9,.box (tc ac x7))]⟩ ?_
 refine ae.cu [(20,fun b=>b)] h (fun h=> ?_) fun h=> ?_
 refine ae.ck aa 3 ⟨34,[(1,vi ag),(2,.clo 188 [.ptr [vl ac jE] 0,.ptr [vi jF] 0,.ptr [vs jG] 0]),(7,.own 7),(9,.ref 9 0),(10,vl ac ad),(11,vi (ad.length:Int)),(12,vi s3.1),(20,vb true),(21,.clo 188 [.ptr [vl ac jE] 0,.ptr [vi jF] 0,.ptr [vs jG] 0]),(23,vs x7.Child)],[(7,oa 9 1 eS s3.2),(9,.box (tc ac x7))]⟩ ?_
 obtain⟨x9,hx9,h⟩:=bind_some h
 refine ae.ls (xc zx (kS x7.Child jE jF jG _ hx9)) ?_
 refine ae.ck aa 1 ⟨34,[(1,vi ag),(2,.clo 188 [.ptr [vl ac jE] 0,.ptr [vi jF] 0,.ptr [vs jG] 0]),(7,.own 7),(9,.ref 9 0),(10,vl ac ad),(11,vi (ad.length:Int)),(12,vi s3.1),(25,vb x9)],[(7,oa 9 1 eS s3.2),(9,.box (tc ac x7))]⟩ ?_
 refine ae.nil ?_
 obtain rfl:=inj h
 exact Le.ao
 refine ae.ck aa 5 ⟨34,[(1,vi ag),(2,.clo 188 [.ptr [vl ac jE] 0,.ptr [vi jF] 0,.ptr [vs jG] 0]),(7,.own 7),(9,.ref 9 0),(10,vl ac ad),(11,vi (ad.length:Int)),(12,vi s3.1),(25,vb false)],[(7,oa 9 1 eS s3.2),(9,.box (tc ac x7))]⟩ ?_
 refine ae.nil ?_
 obtain rfl:=inj h
 exact Le.ao
 refine aq h (fun h=> ?_) fun h=> ?_
 refine aE ?_
 refine ae.ck aa 4 ⟨34,[(1,vi ag),(2,.clo 188 [.ptr [vl ac jE] 0,.ptr [vi jF] 0,.ptr [vs jG] 0]),(10,vl ac ad),(11,vi (ad.length:Int)),(12,vi s3.1),(26,.own 7),(29,.own 29)],[(7,oa 9 1 eS s3.2),(29,oa 9 1 eS ([x7.Child]:List ByteArray))]⟩ ?_
 obtain⟨x12,hx12,h⟩:=bind_some h
 refine ae.cf (bT (f:=eS) (t:=106) (ti:=cn) (tj:=ig) (zs:=[.string (ByteArray.mk #[])]) (e:=9) (m:=1) (d:=7) (xv:= .own 29) hx12 aa rfl rfl rfl rfl (dj (e:=9))) ?_
 refine ae.ck aa 1 ⟨34,[(1,vi ag),(2,.clo 188 [.ptr [vl ac jE] 0,.ptr [vi jF] 0,.ptr [vs jG] 0]),(7,.own 30),(10,vl ac ad),(11,vi (ad.length:Int)),(12,vi s3.1)],[(30,oa 9 1 eS x12)]⟩ ?_
 refine ae.nil ?_
 obtain rfl:=inj h
 exact bY (fO (Le.rr [30] [(30,7)]))
 refine an ?_
 obtain rfl:=inj h
 exact bY (fO (Le.ao))
 refine aE ?_
 refine ae.ck aa 2 ⟨34,[(1,vi ag),(2,.clo 188 [.ptr [vl ac jE] 0,.ptr [vi jF] 0,.ptr [vs jG] 0]),(7,.own 7),(10,vl ac ad),(11,vi (ad.length:Int)),(12,vi (aZ (s3.1+1)))],[(7,oa 9 1 eS j5)]⟩ ?_
 refine ae.nil ?_
 obtain rfl:=inj h
 exact cb (Le.ao)
 refine aO ?_
 obtain rfl:=inj h
 exact cH (cJ (cI (fO (Le.ao))))
 refine sr ?_
 refine ae.ck aa 1 ⟨34,[(32,.own 7)],[(7,oa 9 1 eS j1)]⟩ ?_
 obtain⟨x13,hx13,h⟩:=bind_some h
 refine ae.cf (BT (d:=7) (d0:=33) (n:=j1.length) (n':=x13.length) (es:=j1.map eS) zI (oS j1 _ hx13) (b9 fa _) (b9 fa _) rfl rfl rfl (List.length_map _) (List.length_map _)) ?_
 refine bU aa 1 ⟨34,[(6,.own 33)],[(33,oa 9 1 eS x13)]⟩ ?_
 refine ak ?_
 obtain rfl:=inj h
 exact aD (f1 (fo fa))
theorem zw:a7 Tryz.prog 187:=aw Tryz.func187 (by kernel_rfl) rfl
noncomputable def eF(ad:(List au))(ap:ByteArray)(ag:Int):Option ((List ByteArray)×Int):=
 ((fX ad ag ([ap]:List ByteArray)).bind fun x1=>(bif(x1 !=0)then some (([]:List ByteArray),x1)else((bG ad ag ad ag ap).bind fun x2=>some (x2,0))))
theorem lV(ad:(List au))(ap:ByteArray)(ag:Int)(r:(List ByteArray)×Int)(h:eF ad ap ag=some r):aF Tryz.prog 143 [.v (vl ac ad),.v (vs ap),.v (vi ag)] ⟨[.own 9 1 r.1.length (r.1.map eS),.v (vi r.2)],[],false⟩:=by
 refine ar Tryz.func143 rfl [(.tmp 6),(.tmp 7)] rfl (fun r=>⟨[.own 9 1 r.1.length (r.1.map eS),.v (vi r.2)],[],false⟩) (r:=r) ?_
 unfold eF at h
 refine az aa ⟨21,[(3,.ref 3 0),(4,.ref 4 0),(5,.ref 5 0)],[(3,.box [vl ac ad]),(4,.box [vs ap]),(5,.box [vi ag])]⟩ ?_
 refine ai ?_
 refine sr ?_
 refine ae.ck aa 4 ⟨21,[(3,.ref 3 0),(4,.ref 4 0),(5,.ref 5 0),(9,vl ac ad),(10,vi ag),(12,.own 12)],[(3,.box [vl ac ad]),(4,.box [vs ap]),(5,.box [vi ag]),(12,oa 9 1 eS ([ap]:List ByteArray))]⟩ ?_
 obtain⟨x1,hx1,h⟩:=bind_some h
 refine ae.ls (xc zv (m9 ad ag ([ap]:List ByteArray) _ hx1)) ?_
 refine bU aa 1 ⟨21,[(3,.ref 3 0),(4,.ref 4 0),(5,.ref 5 0),(8,vi x1)],[(3,.box [vl ac ad]),(4,.box [vs ap]),(5,.box [vi ag])]⟩ ?_
 refine az aa ⟨21,[(3,.ref 3 0),(4,.ref 4 0),(5,.ref 5 0),(8,vi x1),(15,vb (x1 !=0))],[(3,.box [vl ac ad]),(4,.box [vs ap]),(5,.box [vi ag])]⟩ ?_
 refine aq h (fun h=> ?_) fun h=> ?_
 refine az aa ⟨21,[(6,.own 6),(7,vi x1)],[(6,oa 9 1 eS ([]:List ByteArray))]⟩ ?_
 refine ak ?_
 obtain rfl:=inj h
 exact bS (aD (f2 (fo fa) fv))
 refine an ?_
 refine a8 ?_
 refine sr ?_
 refine ae.ck aa 3 ⟨21,[(17,vl ac ad),(18,vi ag),(19,.clo 188 [.ref 3 0,.ref 5 0,.ref 4 0])],[(3,.box [vl ac ad]),(4,.box [vs ap]),(5,.box [vi ag])]⟩ ?_
 obtain⟨x2,hx2,h⟩:=bind_some h
 refine ae.ls (xc zw (fG ad ag ad ag ap _ hx2)) ?_
 refine bU aa 2 ⟨21,[(6,.own 20),(7,vi 0)],[(20,oa 9 1 eS x2)]⟩ ?_
 refine ak ?_
 obtain rfl:=inj h
 exact aD (f2 (fo fa) fv)
theorem zd:a7 Tryz.prog 143:=aw Tryz.func143 (by kernel_rfl) rfl
noncomputable def dY(aP:Place)(ag:Int):Option (Place):=
 (((iQ (aP.Names.length:Int) (fun(i3:Int) (s3:ByteArray×Int×Int×Int×(List Name))=>((at' aP.Names i3).bind fun x7=>(bif(decide (x7.Years.From<ag))then((dU s3.2.2.2.2 ([(Name.mk x7.Text x7.Language x7.Status (Span.mk x7.Years.From (bL x7.Years.To (aZ (ag - 1)))))]:List Name)).bind fun x8=>some (s3.1,s3.2.1,s3.2.2.1,s3.2.2.2.1,x8))else some (s3.1,s3.2.1,s3.2.2.1,s3.2.2.2.1,s3.2.2.2.2)))) (fun(s3:ByteArray×Int×Int×Int×(List Name))=>(s3.1,s3.2.1,s3.2.2.1,s3.2.2.2.1,s3.2.2.2.2)) 0 (aP.Code,aP.Class,aP.Years.From,(aZ (ag - 1)),([]:List Name)))).bind fun(j1:ByteArray×Int×Int×Int×(List Name))=>some (Place.mk j1.1 j1.2.1 (Span.mk j1.2.2.1 j1.2.2.2.1) j1.2.2.2.2))
theorem iC(aP:Place)(ag:Int)(r:Place)(h:dY aP ag=some r):aF Tryz.prog 144 [.v (.agg (tc ab aP)),.v (vi ag)] ⟨[.part [vs r.Code,vi r.Class,vi r.Years.From,vi r.Years.To] [] (oa 169 5 af r.Names)],[],false⟩:=by
 refine ar Tryz.func144 rfl [(.cell 4 91)] rfl (fun r=>⟨[.part [vs r.Code,vi r.Class,vi r.Years.From,vi r.Years.To] [] (oa 169 5 af r.Names)],[],false⟩) (r:=r) ?_
 unfold dY at h
 refine az aa ⟨47,[(1,vi ag),(2,.ref 2 0),(4,.ref 4 0)],[(2,.box (tc ab aP)),(4,.box [vs (ByteArray.mk #[]),vi 0,vi 0,vi 0,vl af ([]:List Name)])]⟩ ?_
 refine sr ?_
 refine ae.ck aa 9 ⟨47,[(1,vi ag),(2,.ref 2 0),(4,.ref 4 0),(9,vs aP.Code),(11,vi aP.Class),(14,vi aP.Years.From),(16,vi (aZ (ag - 1)))],[(2,.box (tc ab aP)),(4,.box [vs (ByteArray.mk #[]),vi 0,vi 0,vi 0,vl af ([]:List Name)])]⟩ ?_
 refine ae.ls (bt (v:= .agg [vi aP.Years.From,vi (aZ (ag - 1))]) aa rfl) ?_
 refine ae.ls (o0 (d:=18) (e:=169) (m:=5) (v:= .agg [vs aP.Code,vi aP.Class,vi aP.Years.From,vi (aZ (ag - 1)),.own 18]) aa rfl (by kernel_rfl) rfl (by kernel_rfl) (by kernel_rfl)) ?_
 refine bU aa 2 ⟨47,[(1,vi ag),(2,.ref 2 0),(4,.ref 4 0),(5,.ref 5 0)],[(2,.box (tc ab aP)),(4,.box [vs (ByteArray.mk #[]),vi 0,vi 0,vi 0,vl af ([]:List Name)]),(5,.box [vs aP.Code,vi aP.Class,vi aP.Years.From,vi (aZ (ag - 1)),.own 18]),(18,oa 169 5 af ([]:List Name))]⟩ ?_
 refine ai ?_
 refine az aa ⟨47,[(1,vi ag),(4,.ref 4 0),(5,.ref 5 0),(20,vl af aP.Names),(21,vi (aP.Names.length:Int)),(22,vi 0)],[(4,.box [vs (ByteArray.mk #[]),vi 0,vi 0,vi 0,vl af ([]:List Name)]),(5,.box [vs aP.Code,vi aP.Class,vi aP.Years.From,vi (aZ (ag - 1)),.own 18]),(18,oa 169 5 af ([]:List Name))]⟩ ?_
 refine bg h (fun j1=>⟨47,[(4,.ref 4 0),(5,.ref 5 0)],[(4,.box [vs (ByteArray.mk #[]),vi 0,vi 0,vi 0,vl af ([]:List Name)]),(5,.box [vs j1.1,vi j1.2.1,vi j1.2.2.1,vi j1.2.2.2.1,.own 18]),(18,oa 169 5 af j1.2.2.2.2)]⟩) (fun v2 h=> ?_) (fun j1 h=> ?_)
 refine ax (a:=v2) ?_
 refine a6 (r:=v2) (s:=(0,aP.Code,aP.Class,aP.Years.From,(aZ (ag - 1)),([]:List Name))) _ (fun s3=>⟨47,[(1,vi ag),(4,.ref 4 0),(5,.ref 5 0),(20,vl af aP.Names),(21,vi (aP.Names.length:Int)),(22,vi s3.1)],[(4,.box [vs (ByteArray.mk #[]),vi 0,vi 0,vi 0,vl af ([]:List Name)]),(5,.box [vs s3.2.1,vi s3.2.2.1,vi s3.2.2.2.1,vi s3.2.2.2.2.1,.own 18]),(18,oa 169 5 af s3.2.2.2.2.2)]⟩) _ (Le.ao) h (fun s3 v4 h=> ?_)
 refine az aa ⟨47,[(1,vi ag),(4,.ref 4 0),(5,.ref 5 0),(20,vl af aP.Names),(21,vi (aP.Names.length:Int)),(22,vi s3.1),(23,vb (decide (s3.1<(aP.Names.length:Int))))],[(4,.box [vs (ByteArray.mk #[]),vi 0,vi 0,vi 0,vl af ([]:List Name)]),(5,.box [vs s3.2.1,vi s3.2.2.1,vi s3.2.2.2.1,vi s3.2.2.2.2.1,.own 18]),(18,oa 169 5 af s3.2.2.2.2.2)]⟩ ?_
 refine ai ?_
 refine aq h (fun h=> ?_) fun h=> ?_
 refine an ?_
 refine a8 ?_
 refine ai ?_
 refine bg h (fun j5=>⟨47,[(1,vi ag),(4,.ref 4 0),(5,.ref 5 0),(20,vl af aP.Names),(21,vi (aP.Names.length:Int)),(22,vi s3.1)],[(4,.box [vs (ByteArray.mk #[]),vi 0,vi 0,vi 0,vl af ([]:List Name)]),(5,.box [vs j5.1,vi j5.2.1,vi j5.2.2.1,vi j5.2.2.2.1,.own 18]),(18,oa 169 5 af j5.2.2.2.2)]⟩) (fun v6 h=> ?_) (fun j5 h=> ?_)
 refine ax (a:=v6) ?_
 refine sr ?_
 obtain⟨x7,hx7,h⟩:=bind_some h
 refine ae.ls (aG (L:=aP.Names) (f:=af) (ti:=ej) (tj:=dq) (e:=169) (k:= .i64) aa rfl hx7) ?_
 refine bU aa 3 ⟨47,[(1,vi ag),(4,.ref 4 0),(5,.ref 5 0),(7,.ref 7 0),(20,vl af aP.Names),(21,vi (aP.Names.length:Int)),(22,vi s3.1)],[(4,.box [vs (ByteArray.mk #[]),vi 0,vi 0,vi 0,vl af ([]:List Name)]),(5,.box [vs s3.2.1,vi s3.2.2.1,vi s3.2.2.2.1,vi s3.2.2.2.2.1,.own 18]),(7,.box (tc af x7)),(18,oa 169 5 af s3.2.2.2.2.2)]⟩ ?_
 refine az aa ⟨47,[(1,vi ag),(4,.ref 4 0),(5,.ref 5 0),(7,.ref 7 0),(20,vl af aP.Names),(21,vi (aP.Names.length:Int)),(22,vi s3.1),(30,vb (decide (x7.Years.From<ag)))],[(4,.box [vs (ByteArray.mk #[]),vi 0,vi 0,vi 0,vl af ([]:List Name)]),(5,.box [vs s3.2.1,vi s3.2.2.1,vi s3.2.2.2.1,vi s3.2.2.2.2.1,.own 18]),(7,.box (tc af x7)),(18,oa 169 5 af s3.2.2.2.2.2)]⟩ ?_
 refine aq h (fun h=> ?_) fun h=> ?_
 refine az aa ⟨47,[(1,vi ag),(4,.ref 4 0),(5,.ref 5 0),(7,.ref 7 0),(20,vl af aP.Names),(21,vi (aP.Names.length:Int)),(22,vi s3.1)],[(4,.box [vs (ByteArray.mk #[]),vi 0,vi 0,vi 0,vl af ([]:List Name)]),(5,.box [vs s3.2.1,vi s3.2.2.1,vi s3.2.2.2.1,vi s3.2.2.2.2.1,.own 18]),(7,.box [vs x7.Text,vs x7.Language,vi x7.Status,vi x7.Years.From,vi (bL x7.Years.To (aZ (ag - 1)))]),(18,oa 169 5 af s3.2.2.2.2.2)]⟩ ?_
 refine aE ?_
 refine ae.ck aa 4 ⟨47,[(1,vi ag),(4,.ref 4 0),(5,.ref 5 0),(20,vl af aP.Names),(21,vi (aP.Names.length:Int)),(22,vi s3.1),(40,.own 18),(42,.own 42)],[(4,.box [vs (ByteArray.mk #[]),vi 0,vi 0,vi 0,vl af ([]:List Name)]),(5,.box [vs s3.2.1,vi s3.2.2.1,vi s3.2.2.2.1,vi s3.2.2.2.2.1,.own 18]),(18,oa 169 5 af s3.2.2.2.2.2),(42,oa 169 5 af ([(Name.mk x7.Text x7.Language x7.Status (Span.mk x7.Years.From (bL x7.Years.To (aZ (ag - 1)))))]:List Name))]⟩ ?_
 refine ae.le (Le.yH (d:=5) (j:=4) (k:=18) (cs:=[vs s3.2.1,vi s3.2.2.1,vi s3.2.2.2.1,vi s3.2.2.2.2.1,.own 18]) (by kernel_rfl) rfl) ?_
 obtain⟨x8,hx8,h⟩:=bind_some h
 refine ae.cf (bT (f:=af) (t:=89) (ti:=ej) (tj:=dq) (zs:=[.string (ByteArray.mk #[]),.string (ByteArray.mk #[]),.int .i64 0,.int .i64 0,.int .i64 0]) (e:=169) (m:=5) (d:=18) (xv:= .own 42) hx8 aa rfl rfl rfl rfl (dj (e:=169))) ?_
 refine ae.ck aa 2 ⟨47,[(1,vi ag),(4,.ref 4 0),(5,.ref 5 0),(20,vl af aP.Names),(21,vi (aP.Names.length:Int)),(22,vi s3.1)],[(4,.box [vs (ByteArray.mk #[]),vi 0,vi 0,vi 0,vl af ([]:List Name)]),(5,.box [vs s3.2.1,vi s3.2.2.1,vi s3.2.2.2.1,vi s3.2.2.2.2.1,.own 43]),(43,oa 169 5 af x8)]⟩ ?_
 refine ae.nil ?_
 obtain rfl:=inj h
 exact bY (fO (Le.rr [4,5,43] [(43,18)]))
 refine an ?_
 obtain rfl:=inj h
 exact bY (fO (Le.ao))
 refine aE ?_
 refine ae.ck aa 2 ⟨47,[(1,vi ag),(4,.ref 4 0),(5,.ref 5 0),(20,vl af aP.Names),(21,vi (aP.Names.length:Int)),(22,vi (aZ (s3.1+1)))],[(4,.box [vs (ByteArray.mk #[]),vi 0,vi 0,vi 0,vl af ([]:List Name)]),(5,.box [vs j5.1,vi j5.2.1,vi j5.2.2.1,vi j5.2.2.2.1,.own 18]),(18,oa 169 5 af j5.2.2.2.2)]⟩ ?_
 refine ae.nil ?_
 obtain rfl:=inj h
 exact cb (Le.ao)
 refine aO ?_
 obtain rfl:=inj h
 exact cH (cJ (cI (fO (Le.ao))))
 refine az aa ⟨47,[(4,.ref 4 0)],[(4,.box [vs j1.1,vi j1.2.1,vi j1.2.2.1,vi j1.2.2.2.1,.own 18]),(18,oa 169 5 af j1.2.2.2.2)]⟩ ?_
 refine ak ?_
 obtain rfl:=inj h
 exact aD (f1 (zM (d:=18) [vs j1.1,vi j1.2.1,vi j1.2.2.1,vi j1.2.2.2.1] [] (dg aa (d:=4) (cs:=[vs j1.1,vi j1.2.1,vi j1.2.2.1,vi j1.2.2.2.1,.own 18]) (ti:=cD) (by kernel_rfl) (by kernel_rfl) (by kernel_rfl) (by kernel_rfl)) (by kernel_rfl) (b9 bu _) rfl rfl SV.dW SV.dW (by kernel_rfl)))
theorem vu:a7 Tryz.prog 144:=aw Tryz.func144 (by kernel_rfl) rfl
noncomputable def fW(ad:(List au))(ap:ByteArray)(ag:Int):Option ((List au)):=
 (((iQ (ad.length:Int) (fun(i3:Int) (s3:(List au))=>((at' ad i3).bind fun x7=>(((bif((x7.Child.toList==ap.toList) || (x7.Parent.toList==ap.toList))then some (au.mk x7.Child x7.Parent (Span.mk x7.Years.From (bL x7.Years.To (aZ (ag - 1)))))else some x7)).bind fun(j8:au)=>(bif(decide (j8.Years.From≤j8.Years.To))then((dU s3 ([j8]:List au)).bind fun x10=>some x10)else some s3)))) (fun(s3:(List au))=>s3) 0 ([]:List au))).bind fun(j1:(List au))=>some j1)
theorem m6(ad:(List au))(ap:ByteArray)(ag:Int)(r:(List au))(h:fW ad ap ag=some r):aF Tryz.prog 145 [.v (vl ac ad),.v (vs ap),.v (vi ag)] ⟨[.own 85 4 r.length (r.map ac)],[],false⟩:=by
 refine ar Tryz.func145 rfl [(.tmp 6)] rfl (fun r=>⟨[.own 85 4 r.length (r.map ac)],[],false⟩) (r:=r) ?_
 unfold fW at h
 refine az aa ⟨47,[(0,vl ac ad),(1,vs ap),(2,vi ag)],[]⟩ ?_
 refine az aa ⟨47,[(0,vl ac ad),(1,vs ap),(2,vi ag),(7,.own 7)],[(7,oa 85 4 ac ([]:List au))]⟩ ?_
 refine ai ?_
 refine az aa ⟨47,[(1,vs ap),(2,vi ag),(7,.own 7),(10,vl ac ad),(11,vi (ad.length:Int)),(12,vi 0)],[(7,oa 85 4 ac ([]:List au))]⟩ ?_
 refine bg h (fun j1=>⟨47,[(7,.own 7)],[(7,oa 85 4 ac j1)]⟩) (fun v2 h=> ?_) (fun j1 h=> ?_)
 refine ax (a:=v2) ?_
 refine a6 (r:=v2) (s:=(0,([]:List au))) _ (fun s3=>⟨47,[(1,vs ap),(2,vi ag),(7,.own 7),(10,vl ac ad),(11,vi (ad.length:Int)),(12,vi s3.1)],[(7,oa 85 4 ac s3.2)]⟩) _ (Le.ao) h (fun s3 v4 h=> ?_)
 refine az aa ⟨47,[(1,vs ap),(2,vi ag),(7,.own 7),(10,vl ac ad),(11,vi (ad.length:Int)),(12,vi s3.1),(13,vb (decide (s3.1<(ad.length:Int))))],[(7,oa 85 4 ac s3.2)]⟩ ?_
 refine ai ?_
 refine aq h (fun h=> ?_) fun h=> ?_
 refine an ?_
 refine a8 ?_
 refine ai ?_
 refine bg h (fun j5=>⟨47,[(1,vs ap),(2,vi ag),(7,.own 7),(10,vl ac ad),(11,vi (ad.length:Int)),(12,vi s3.1)],[(7,oa 85 4 ac j5)]⟩) (fun v6 h=> ?_) (fun j5 h=> ?_)
 refine ax (a:=v6) ?_
 refine sr ?_
 obtain⟨x7,hx7,h⟩:=bind_some h
 refine ae.ls (aG (L:=ad) (f:=ac) (ti:=eh) (tj:=ei) (e:=85) (k:= .i64) aa rfl hx7) ?_
 refine bU aa 3 ⟨47,[(1,vs ap),(2,vi ag),(7,.own 7),(9,.ref 9 0),(10,vl ac ad),(11,vi (ad.length:Int)),(12,vi s3.1)],[(7,oa 85 4 ac s3.2),(9,.box (tc ac x7))]⟩ ?_
 refine ai ?_
 refine ai ?_
 refine cQ ⟨47,[(1,vs ap),(2,vi ag),(7,.own 7),(9,.ref 9 0),(10,vl ac ad),(11,vi (ad.length:Int)),(12,vi s3.1),(25,vb ((x7.Child.toList==ap.toList) || (x7.Parent.toList==ap.toList)))],[(7,oa 85 4 ac s3.2),(9,.box (tc ac x7))]⟩ ?_ ?_
 refine ae.ck aa 5 ⟨47,[(1,vs ap),(2,vi ag),(7,.own 7),(9,.ref 9 0),(10,vl ac ad),(11,vi (ad.length:Int)),(12,vi s3.1),(20,vb (x7.Child.toList==ap.toList))],[(7,oa 85 4 ac s3.2),(9,.box (tc ac x7))]⟩ ?_
 generalize (x7.Child.toList==ap.toList)=bb
 cases bb
 refine ae.ck aa 5 ⟨47,[(1,vs ap),(2,vi ag),(7,.own 7),(9,.ref 9 0),(10,vl ac ad),(11,vi (ad.length:Int)),(12,vi s3.1),(25,vb (x7.Parent.toList==ap.toList))],[(7,oa 85 4 ac s3.2),(9,.box (tc ac x7))]⟩ ?_
 exact ae.nil (Le.ao)
 refine ae.ck aa 5 ⟨47,[(1,vs ap),(2,vi ag),(7,.own 7),(9,.ref 9 0),(10,vl ac ad),(11,vi (ad.length:Int)),(12,vi s3.1),(25,vb true)],[(7,oa 85 4 ac s3.2),(9,.box (tc ac x7))]⟩ ?_
 exact ae.nil (Le.ao)
 refine bg h (fun j8=>⟨47,[(1,vs ap),(2,vi ag),(7,.own 7),(9,.ref 9 0),(10,vl ac ad),(11,vi (ad.length:Int)),(12,vi s3.1)],[(7,oa 85 4 ac s3.2),(9,.box (tc ac j8))]⟩) (fun v9 h=> ?_) (fun j8 h=> ?_)
 refine aq h (fun h=> ?_) fun h=> ?_
 refine aE ?_
 refine ae.ck aa 9 ⟨47,[(1,vs ap),(2,vi ag),(7,.own 7),(9,.ref 9 0),(10,vl ac ad),(11,vi (ad.length:Int)),(12,vi s3.1)],[(7,oa 85 4 ac s3.2),(9,.box [vs x7.Child,vs x7.Parent,vi x7.Years.From,vi (bL x7.Years.To (aZ (ag - 1)))])]⟩ ?_
 refine ae.nil ?_
 obtain rfl:=inj h
 exact fO (Le.ao)
 refine an ?_
 obtain rfl:=inj h
 exact fO (Le.ao)
 refine az aa ⟨47,[(1,vs ap),(2,vi ag),(7,.own 7),(9,.ref 9 0),(10,vl ac ad),(11,vi (ad.length:Int)),(12,vi s3.1),(40,vb (decide (j8.Years.From≤j8.Years.To)))],[(7,oa 85 4 ac s3.2),(9,.box (tc ac j8))]⟩ ?_
 refine aq h (fun h=> ?_) fun h=> ?_
 refine aE ?_
 refine ae.ck aa 3 ⟨47,[(1,vs ap),(2,vi ag),(10,vl ac ad),(11,vi (ad.length:Int)),(12,vi s3.1),(41,.own 7),(43,.own 43)],[(7,oa 85 4 ac s3.2),(43,oa 85 4 ac ([j8]:List au))]⟩ ?_
 obtain⟨x10,hx10,h⟩:=bind_some h
 refine ae.cf (bT (f:=ac) (t:=33) (ti:=eh) (tj:=ei) (zs:=[.string (ByteArray.mk #[]),.string (ByteArray.mk #[]),.int .i64 0,.int .i64 0]) (e:=85) (m:=4) (d:=7) (xv:= .own 43) hx10 aa rfl rfl rfl rfl (dj (e:=85))) ?_
 refine ae.ck aa 1 ⟨47,[(1,vs ap),(2,vi ag),(7,.own 44),(10,vl ac ad),(11,vi (ad.length:Int)),(12,vi s3.1)],[(44,oa 85 4 ac x10)]⟩ ?_
 refine ae.nil ?_
 obtain rfl:=inj h
 exact bY (fO (Le.rr [44] [(44,7)]))
 refine an ?_
 obtain rfl:=inj h
 exact bY (fO (Le.ao))
 refine aE ?_
 refine ae.ck aa 2 ⟨47,[(1,vs ap),(2,vi ag),(7,.own 7),(10,vl ac ad),(11,vi (ad.length:Int)),(12,vi (aZ (s3.1+1)))],[(7,oa 85 4 ac j5)]⟩ ?_
 refine ae.nil ?_
 obtain rfl:=inj h
 exact cb (Le.ao)
 refine aO ?_
 obtain rfl:=inj h
 exact cH (cJ (cI (fO (Le.ao))))
 refine az aa ⟨47,[(6,.own 7)],[(7,oa 85 4 ac j1)]⟩ ?_
 refine ak ?_
 obtain rfl:=inj h
 exact aD (f1 (fo dt))
theorem ze:a7 Tryz.prog 145:=aw Tryz.func145 (by kernel_rfl) rfl
noncomputable def eb(aW:World)(ap:ByteArray)(ag:Int):Option (World):=
 ((bZ aW.Places ap).bind fun x1=>((at' aW.Places x1.1).bind fun x2=>((dY x2 ag).bind fun x3=>((at' aW.Places x1.1).bind fun _=>((fW aW.Links ap ag).bind fun x5=>some (World.mk (List.set aW.Places (Int.toNat x1.1) x3) x5))))))
theorem ju(aW:World)(ap:ByteArray)(ag:Int)(r:World)(h:eb aW ap ag=some r):jl Tryz.prog 93 [.ref 1000000 0,vs ap,vi ag] [(1000000,.box [.own 3000000,.own 3000001]),(3000000,.deep 91 5 aW.Places.length [.flat,.flat,.flat,.flat,(.sl 169 5 [.flat,.flat,.flat,.flat,.flat])] (aW.Places.map ab)),(3000001,oa 85 4 ac aW.Links)] [(1000000,.box [.own 3000000,.own 3000001]),(3000000,.deep 91 5 r.Places.length [.flat,.flat,.flat,.flat,(.sl 169 5 [.flat,.flat,.flat,.flat,.flat])] (r.Places.map ab)),(3000001,oa 85 4 ac r.Links)] []:=by
 refine iN Tryz.func93 rfl [] rfl (fun r=>[(1000000,.box [.own 3000000,.own 3000001]),(3000000,.deep 91 5 r.Places.length [.flat,.flat,.flat,.flat,(.sl 169 5 [.flat,.flat,.flat,.flat,.flat])] (r.Places.map ab)),(3000001,oa 85 4 ac r.Links)]) (fun r=>[]) (r:=r) (cw SV.dW (cw trivial (cw (b9 dt _) jI))) ?_
 unfold eb at h
 refine sr ?_
 refine ae.ck aa 5 ⟨42,[(0,.ref 1000000 0),(1,vs ap),(2,vi ag),(12,.own 3000000),(13,vs ap)],[(1000000,.box [.own 3000000,.own 3000001]),(3000000,.deep 91 5 aW.Places.length [.flat,.flat,.flat,.flat,(.sl 169 5 [.flat,.flat,.flat,.flat,.flat])] (aW.Places.map ab)),(3000001,oa 85 4 ac aW.Links)]⟩ ?_
 obtain⟨x1,hx1,h⟩:=bind_some h
 refine ae.ls (xc mT (dy aW.Places ap _ hx1)) ?_
 refine bU aa 5 ⟨42,[(0,.ref 1000000 0),(1,vs ap),(2,vi ag),(6,vi x1.1)],[(1000000,.box [.own 3000000,.own 3000001]),(3000000,.deep 91 5 aW.Places.length [.flat,.flat,.flat,.flat,(.sl 169 5 [.flat,.flat,.flat,.flat,.flat])] (aW.Places.map ab)),(3000001,oa 85 4 ac aW.Links)]⟩ ?_
 refine ai ?_
 obtain⟨x2,hx2,h⟩:=bind_some h
 obtain⟨x3,hx3,h⟩:=bind_some h
 obtain⟨x4,hx4,h⟩:=bind_some h
 refine di mixed ?_
 refine aQ.xF (σE:=⟨42,[(0,.ref 1000000 0),(1,vs ap),(2,vi ag)],[(1000000,.box [.own 3000000,.own 3000001]),(3000000,.deep 91 5 (List.set aW.Places (Int.toNat x1.1) x3).length [.flat,.flat,.flat,.flat,(.sl 169 5 [.flat,.flat,.flat,.flat,.flat])] ((List.set aW.Places (Int.toNat x1.1) x3).map ab)),(3000001,oa 85 4 ac aW.Links)]⟩) (n:=16) (L0:= #[false,false,false,false,false,false,false,false,false,false,false,false,false,false,false,false]) (by kernel_rfl) (by kernel_rfl) (fun K hk=> ?_) ?_
 refine DE.aJ (fuel:=0) (L:= #[true,true,true,true,true,true,true,true,true,true,true,true,true,true,true,true]) (σ:=⟨42,[(0,.ref 1000000 0),(1,vs ap),(2,vi ag)],[(1000000,.box [.own 3000000,.own 3000001]),(3000000,.deep 91 5 (List.set aW.Places (Int.toNat x1.1) x3).length [.flat,.flat,.flat,.flat,(.sl 169 5 [.flat,.flat,.flat,.flat,.flat])] ((List.set aW.Places (Int.toNat x1.1) x3).map ab)),(3000001,oa 85 4 ac aW.Links)]⟩) ?_ (fun d20=> ?_)
 exact DE.done (by kernel_rfl) hk
 refine DE.aJ (fuel:=1) (L:= #[true,true,true,true,true,true,true,true,true,true,true,true,true,true,true,false]) (σ:=⟨42,[(0,.ref 1000000 0),(1,vs ap),(2,vi ag),(30,.agg [vs x3.Code,vi x3.Class,vi x3.Years.From,vi x3.Years.To,.own 30]),(31,.eref 3000000 5 (Int.toNat x1.1) 0)],[(30,oa 169 5 af x3.Names),(1000000,.box [.own 3000000,.own 3000001]),(3000000,.deep 91 5 aW.Places.length [.flat,.flat,.flat,.flat,(.sl 169 5 [.flat,.flat,.flat,.flat,.flat])] (aW.Places.map ab)),(3000001,oa 85 4 ac aW.Links)]⟩) ?_ (fun d19=> ?_)
 exact DE.all [15] (by kernel_rfl) (by simp) (List.forall_mem_cons.2 ⟨bW.mk (i:=15) (L':= #[true,true,true,true,true,true,true,true,true,true,true,true,true,true,true,true]) rfl (al.le (kK (d:=3000000) (m:=5) (j:=0) (L:=aW.Places) (f:=ab) (x:=x3) (z:=x4) (ti:=cD) (e:=91) (ss:=[.flat,.flat,.flat,.flat,(.sl 169 5 [.flat,.flat,.flat,.flat,.flat])]) (ss2:=[.flat,.flat,.flat,.flat,(.sl 169 5 [.flat,.flat,.flat,.flat,.flat])]) (ts:=[.str x3.Code,.int .i64 x3.Class,.int .i64 x3.Years.From,.int .i64 x3.Years.To,.sl x3.Names.length (x3.Names.map af)]) (vs:=[vs x3.Code,vi x3.Class,vi x3.Years.From,vi x3.Years.To,.own 30]) (v:= .agg [vs x3.Code,vi x3.Class,vi x3.Years.From,vi x3.Years.To,.own 30]) (ds:=[30]) aa rfl rfl hx4 (.cons _ _ _ [] _ _ _ _ (.flat (.str x3.Code) rfl) (.cons _ _ _ [] _ _ _ _ (.flat (.int .i64 x3.Class) rfl) (.cons _ _ _ [] _ _ _ _ (.flat (.int .i64 x3.Years.From) rfl) (.cons _ _ _ [] _ _ _ _ (.flat (.int .i64 x3.Years.To) rfl) (.cons _ _ _ [30] _ _ _ _ (pH (d:=30) (e:=169) (m:=5) (n:=x3.Names.length) (es:=x3.Names.map af) (ss:=[.flat,.flat,.flat,.flat,.flat]) (b9 bu _)) .nil (by decide)) (by decide)) (by decide)) (by decide)) (by decide))) Le.ao) (by kernel_rfl) d20,(fun _ h=>absurd h List.not_mem_nil)⟩)
 refine DE.aJ (fuel:=2) (L:= #[true,true,true,true,true,true,true,true,true,true,true,true,true,true,false,false]) (σ:=⟨42,[(0,.ref 1000000 0),(1,vs ap),(2,vi ag),(20,.own 3000000),(21,vi x1.1),(30,.agg [vs x3.Code,vi x3.Class,vi x3.Years.From,vi x3.Years.To,.own 30])],[(30,oa 169 5 af x3.Names),(1000000,.box [.own 3000000,.own 3000001]),(3000000,.deep 91 5 aW.Places.length [.flat,.flat,.flat,.flat,(.sl 169 5 [.flat,.flat,.flat,.flat,.flat])] (aW.Places.map ab)),(3000001,oa 85 4 ac aW.Links)]⟩) ?_ (fun d18=> ?_)
 exact DE.all [14] (by kernel_rfl) (by simp) (List.forall_mem_cons.2 ⟨bW.mk (i:=14) (L':= #[true,true,true,true,true,true,true,true,true,true,true,true,true,true,true,false]) rfl (al.le (al.kn (cm (d:=3000000) (L:=aW.Places) (f:=ab) (ti:=df) (tj:=cD) (e:=91) (e':=91) (m:=5) (k:= .i64) (ss:=[.flat,.flat,.flat,.flat,(.sl 169 5 [.flat,.flat,.flat,.flat,.flat])]) aa rfl hx4) (by kernel_rfl)) Le.ao) (by kernel_rfl) d19,(fun _ h=>absurd h List.not_mem_nil)⟩)
 refine DE.aJ (fuel:=3) (L:= #[true,true,true,false,true,true,true,true,true,true,true,true,true,true,false,false]) (σ:=⟨42,[(0,.ref 1000000 0),(1,vs ap),(2,vi ag),(19,.ref 1000000 0),(21,vi x1.1),(30,.agg [vs x3.Code,vi x3.Class,vi x3.Years.From,vi x3.Years.To,.own 30])],[(30,oa 169 5 af x3.Names),(1000000,.box [.own 3000000,.own 3000001]),(3000000,.deep 91 5 aW.Places.length [.flat,.flat,.flat,.flat,(.sl 169 5 [.flat,.flat,.flat,.flat,.flat])] (aW.Places.map ab)),(3000001,oa 85 4 ac aW.Links)]⟩) ?_ (fun d17=> ?_)
 exact DE.all [3] (by kernel_rfl) (by simp) (List.forall_mem_cons.2 ⟨bW.mk (i:=3) (L':= #[true,true,true,true,true,true,true,true,true,true,true,true,true,true,false,false]) rfl (al.le (al.bj aa (σ':=⟨42,[(20,.own 3000000),(0,.ref 1000000 0),(1,vs ap),(2,vi ag),(19,.ref 1000000 0),(21,vi x1.1),(30,.agg [vs x3.Code,vi x3.Class,vi x3.Years.From,vi x3.Years.To,.own 30])],[(30,oa 169 5 af x3.Names),(1000000,.box [.own 3000000,.own 3000001]),(3000000,.deep 91 5 aW.Places.length [.flat,.flat,.flat,.flat,(.sl 169 5 [.flat,.flat,.flat,.flat,.flat])] (aW.Places.map ab)),(3000001,oa 85 4 ac aW.Links)]⟩) (by kernel_rfl)) Le.ao) (by kernel_rfl) d18,(fun _ h=>absurd h List.not_mem_nil)⟩)
 refine DE.aJ (fuel:=3) (L:= #[true,true,true,true,true,true,true,true,true,true,true,true,true,false,false,false]) (σ:=⟨42,[(0,.ref 1000000 0),(1,vs ap),(2,vi ag),(20,.own 3000000),(21,vi x1.1),(28,.agg [vs x2.Code,vi x2.Class,vi x2.Years.From,vi x2.Years.To,.own 3001028]),(29,vi ag)],[(1000000,.box [.own 3000000,.own 3000001]),(3000000,.hol 91 5 aW.Places.length [.flat,.flat,.flat,.flat,(.sl 169 5 [.flat,.flat,.flat,.flat,.flat])] (aW.Places.map ab) (Int.toNat x1.1) 4 3001028),(3000001,oa 85 4 ac aW.Links),(3001028,oa 169 5 af x2.Names)]⟩) ?_ (fun d16=> ?_)
 exact DE.all [13] (by kernel_rfl) (by simp) (List.forall_mem_cons.2 ⟨bW.mk (i:=13) (L':= #[true,true,true,true,true,true,true,true,true,true,true,true,true,true,false,false]) rfl (al.le (al.le (al.kn (xc vu (iC x2 ag _ hx3)) (by kernel_rfl)) (qA (L:=aW.Places) (f:=ab) (x:=x2) (d:=3000000) (k:=3001028) (e:=91) (m:=5) (j:=4) (e':=169) (m':=5) (n':=x2.Names.length) (ss:=[.flat,.flat,.flat,.flat,(.sl 169 5 [.flat,.flat,.flat,.flat,.flat])]) (ss':=[.flat,.flat,.flat,.flat,.flat]) (es':=x2.Names.map af) hx2 (b9 bu _))) Le.ao) (by kernel_rfl) d18,(fun _ h=>absurd h List.not_mem_nil)⟩)
 refine DE.aJ (fuel:=4) (L:= #[true,true,true,false,true,true,true,true,true,true,true,true,true,false,false,false]) (σ:=⟨42,[(0,.ref 1000000 0),(1,vs ap),(2,vi ag),(19,.ref 1000000 0),(21,vi x1.1),(28,.agg [vs x2.Code,vi x2.Class,vi x2.Years.From,vi x2.Years.To,.own 3001028]),(29,vi ag)],[(1000000,.box [.own 3000000,.own 3000001]),(3000000,.hol 91 5 aW.Places.length [.flat,.flat,.flat,.flat,(.sl 169 5 [.flat,.flat,.flat,.flat,.flat])] (aW.Places.map ab) (Int.toNat x1.1) 4 3001028),(3000001,oa 85 4 ac aW.Links),(3001028,oa 169 5 af x2.Names)]⟩) ?_ (fun d15=> ?_)
 exact DE.all [3,13] (by kernel_rfl) (by simp) (List.forall_mem_cons.2 ⟨bW.mk (i:=3) (L':= #[true,true,true,true,true,true,true,true,true,true,true,true,true,false,false,false]) rfl (al.le (al.bj aa (σ':=⟨42,[(20,.own 3000000),(0,.ref 1000000 0),(1,vs ap),(2,vi ag),(19,.ref 1000000 0),(21,vi x1.1),(28,.agg [vs x2.Code,vi x2.Class,vi x2.Years.From,vi x2.Years.To,.own 3001028]),(29,vi ag)],[(1000000,.box [.own 3000000,.own 3000001]),(3000000,.hol 91 5 aW.Places.length [.flat,.flat,.flat,.flat,(.sl 169 5 [.flat,.flat,.flat,.flat,.flat])] (aW.Places.map ab) (Int.toNat x1.1) 4 3001028),(3000001,oa 85 4 ac aW.Links),(3001028,oa 169 5 af x2.Names)]⟩) (by kernel_rfl)) Le.ao) (by kernel_rfl) d16,(List.forall_mem_cons.2 ⟨bW.mk (i:=13) (L':= #[true,true,true,false,true,true,true,true,true,true,true,true,true,true,false,false]) rfl (al.le (al.le (al.kn (xc vu (iC x2 ag _ hx3)) (by kernel_rfl)) (qA (L:=aW.Places) (f:=ab) (x:=x2) (d:=3000000) (k:=3001028) (e:=91) (m:=5) (j:=4) (e':=169) (m':=5) (n':=x2.Names.length) (ss:=[.flat,.flat,.flat,.flat,(.sl 169 5 [.flat,.flat,.flat,.flat,.flat])]) (ss':=[.flat,.flat,.flat,.flat,.flat]) (es':=x2.Names.map af) hx2 (b9 bu _))) Le.ao) (by kernel_rfl) d17,(fun _ h=>absurd h List.not_mem_nil)⟩)⟩)
 refine DE.aJ (fuel:=4) (L:= #[true,true,true,true,true,true,true,true,true,true,true,false,true,false,false,false]) (σ:=⟨42,[(0,.ref 1000000 0),(1,vs ap),(2,vi ag),(20,.own 3000000),(21,vi x1.1),(27,.eref 3000000 5 (Int.toNat x1.1) 0),(29,vi ag)],[(1000000,.box [.own 3000000,.own 3000001]),(3000000,.deep 91 5 aW.Places.length [.flat,.flat,.flat,.flat,(.sl 169 5 [.flat,.flat,.flat,.flat,.flat])] (aW.Places.map ab)),(3000001,oa 85 4 ac aW.Links)]⟩) ?_ (fun d14=> ?_)
 exact DE.all [11] (by kernel_rfl) (by simp) (List.forall_mem_cons.2 ⟨bW.mk (i:=11) (L':= #[true,true,true,true,true,true,true,true,true,true,true,true,true,false,false,false]) rfl (al.le (ug (L:=aW.Places) (f:=ab) (d:=3000000) (k:=3001028) (e:=91) (m:=5) (j:=4) (e':=169) (m':=5) (n':=x2.Names.length) (ss:=[.flat,.flat,.flat,.flat,(.sl 169 5 [.flat,.flat,.flat,.flat,.flat])]) (ss':=[.flat,.flat,.flat,.flat,.flat]) (es':=x2.Names.map af) (ti:=cD) (y:=oa 169 5 af x2.Names) hx2 aa rfl rfl (.inr ⟨rfl,rfl⟩)) Le.ao) (by kernel_rfl) d16,(fun _ h=>absurd h List.not_mem_nil)⟩)
 refine DE.aJ (fuel:=5) (L:= #[true,true,true,false,true,true,true,true,true,true,true,false,true,false,false,false]) (σ:=⟨42,[(0,.ref 1000000 0),(1,vs ap),(2,vi ag),(19,.ref 1000000 0),(21,vi x1.1),(27,.eref 3000000 5 (Int.toNat x1.1) 0),(29,vi ag)],[(1000000,.box [.own 3000000,.own 3000001]),(3000000,.deep 91 5 aW.Places.length [.flat,.flat,.flat,.flat,(.sl 169 5 [.flat,.flat,.flat,.flat,.flat])] (aW.Places.map ab)),(3000001,oa 85 4 ac aW.Links)]⟩) ?_ (fun d13=> ?_)
 exact DE.all [3,11] (by kernel_rfl) (by simp) (List.forall_mem_cons.2 ⟨bW.mk (i:=3) (L':= #[true,true,true,true,true,true,true,true,true,true,true,false,true,false,false,false]) rfl (al.le (al.bj aa (σ':=⟨42,[(20,.own 3000000),(0,.ref 1000000 0),(1,vs ap),(2,vi ag),(19,.ref 1000000 0),(21,vi x1.1),(27,.eref 3000000 5 (Int.toNat x1.1) 0),(29,vi ag)],[(1000000,.box [.own 3000000,.own 3000001]),(3000000,.deep 91 5 aW.Places.length [.flat,.flat,.flat,.flat,(.sl 169 5 [.flat,.flat,.flat,.flat,.flat])] (aW.Places.map ab)),(3000001,oa 85 4 ac aW.Links)]⟩) (by kernel_rfl)) Le.ao) (by kernel_rfl) d14,(List.forall_mem_cons.2 ⟨bW.mk (i:=11) (L':= #[true,true,true,false,true,true,true,true,true,true,true,true,true,false,false,false]) rfl (al.le (ug (L:=aW.Places) (f:=ab) (d:=3000000) (k:=3001028) (e:=91) (m:=5) (j:=4) (e':=169) (m':=5) (n':=x2.Names.length) (ss:=[.flat,.flat,.flat,.flat,(.sl 169 5 [.flat,.flat,.flat,.flat,.flat])]) (ss':=[.flat,.flat,.flat,.flat,.flat]) (es':=x2.Names.map af) (ti:=cD) (y:=oa 169 5 af x2.Names) hx2 aa rfl rfl (.inr ⟨rfl,rfl⟩)) Le.ao) (by kernel_rfl) d15,(fun _ h=>absurd h List.not_mem_nil)⟩)⟩)
 refine DE.aJ (fuel:=5) (L:= #[true,true,true,true,true,true,true,true,true,true,false,false,true,false,false,false]) (σ:=⟨42,[(0,.ref 1000000 0),(1,vs ap),(2,vi ag),(20,.own 3000000),(21,vi x1.1),(25,.own 3000000),(26,vi x1.1),(29,vi ag)],[(1000000,.box [.own 3000000,.own 3000001]),(3000000,.deep 91 5 aW.Places.length [.flat,.flat,.flat,.flat,(.sl 169 5 [.flat,.flat,.flat,.flat,.flat])] (aW.Places.map ab)),(3000001,oa 85 4 ac aW.Links)]⟩) ?_ (fun d12=> ?_)
 exact DE.all [10] (by kernel_rfl) (by simp) (List.forall_mem_cons.2 ⟨bW.mk (i:=10) (L':= #[true,true,true,true,true,true,true,true,true,true,true,false,true,false,false,false]) rfl (al.le (al.kn (cm (d:=3000000) (L:=aW.Places) (f:=ab) (ti:=df) (tj:=cD) (e:=91) (e':=91) (m:=5) (k:= .i64) (ss:=[.flat,.flat,.flat,.flat,(.sl 169 5 [.flat,.flat,.flat,.flat,.flat])]) aa rfl hx2) (by kernel_rfl)) Le.ao) (by kernel_rfl) d14,(fun _ h=>absurd h List.not_mem_nil)⟩)
 refine DE.aJ (fuel:=6) (L:= #[true,true,true,false,true,true,true,true,true,true,false,false,true,false,false,false]) (σ:=⟨42,[(0,.ref 1000000 0),(1,vs ap),(2,vi ag),(19,.ref 1000000 0),(21,vi x1.1),(25,.own 3000000),(26,vi x1.1),(29,vi ag)],[(1000000,.box [.own 3000000,.own 3000001]),(3000000,.deep 91 5 aW.Places.length [.flat,.flat,.flat,.flat,(.sl 169 5 [.flat,.flat,.flat,.flat,.flat])] (aW.Places.map ab)),(3000001,oa 85 4 ac aW.Links)]⟩) ?_ (fun d11=> ?_)
 exact DE.all [3,10] (by kernel_rfl) (by simp) (List.forall_mem_cons.2 ⟨bW.mk (i:=3) (L':= #[true,true,true,true,true,true,true,true,true,true,false,false,true,false,false,false]) rfl (al.le (al.bj aa (σ':=⟨42,[(20,.own 3000000),(0,.ref 1000000 0),(1,vs ap),(2,vi ag),(19,.ref 1000000 0),(21,vi x1.1),(25,.own 3000000),(26,vi x1.1),(29,vi ag)],[(1000000,.box [.own 3000000,.own 3000001]),(3000000,.deep 91 5 aW.Places.length [.flat,.flat,.flat,.flat,(.sl 169 5 [.flat,.flat,.flat,.flat,.flat])] (aW.Places.map ab)),(3000001,oa 85 4 ac aW.Links)]⟩) (by kernel_rfl)) Le.ao) (by kernel_rfl) d12,(List.forall_mem_cons.2 ⟨bW.mk (i:=10) (L':= #[true,true,true,false,true,true,true,true,true,true,true,false,true,false,false,false]) rfl (al.le (al.kn (cm (d:=3000000) (L:=aW.Places) (f:=ab) (ti:=df) (tj:=cD) (e:=91) (e':=91) (m:=5) (k:= .i64) (ss:=[.flat,.flat,.flat,.flat,(.sl 169 5 [.flat,.flat,.flat,.flat,.flat])]) aa rfl hx2) (by kernel_rfl)) Le.ao) (by kernel_rfl) d13,(fun _ h=>absurd h List.not_mem_nil)⟩)⟩)
 refine DE.aJ (fuel:=6) (L:= #[true,true,true,true,true,true,true,true,false,true,false,false,true,false,false,false]) (σ:=⟨42,[(0,.ref 1000000 0),(1,vs ap),(2,vi ag),(20,.own 3000000),(21,vi x1.1),(24,.ref 1000000 0),(26,vi x1.1),(29,vi ag)],[(1000000,.box [.own 3000000,.own 3000001]),(3000000,.deep 91 5 aW.Places.length [.flat,.flat,.flat,.flat,(.sl 169 5 [.flat,.flat,.flat,.flat,.flat])] (aW.Places.map ab)),(3000001,oa 85 4 ac aW.Links)]⟩) ?_ (fun d10=> ?_)
 exact DE.all [8] (by kernel_rfl) (by simp) (List.forall_mem_cons.2 ⟨bW.mk (i:=8) (L':= #[true,true,true,true,true,true,true,true,true,true,false,false,true,false,false,false]) rfl (al.le (al.bj aa (σ':=⟨42,[(25,.own 3000000),(0,.ref 1000000 0),(1,vs ap),(2,vi ag),(20,.own 3000000),(21,vi x1.1),(24,.ref 1000000 0),(26,vi x1.1),(29,vi ag)],[(1000000,.box [.own 3000000,.own 3000001]),(3000000,.deep 91 5 aW.Places.length [.flat,.flat,.flat,.flat,(.sl 169 5 [.flat,.flat,.flat,.flat,.flat])] (aW.Places.map ab)),(3000001,oa 85 4 ac aW.Links)]⟩) (by kernel_rfl)) Le.ao) (by kernel_rfl) d12,(fun _ h=>absurd h List.not_mem_nil)⟩)
 refine DE.aJ (fuel:=7) (L:= #[true,true,true,false,true,true,true,true,false,true,false,false,true,false,false,false]) (σ:=⟨42,[(0,.ref 1000000 0),(1,vs ap),(2,vi ag),(19,.ref 1000000 0),(21,vi x1.1),(24,.ref 1000000 0),(26,vi x1.1),(29,vi ag)],[(1000000,.box [.own 3000000,.own 3000001]),(3000000,.deep 91 5 aW.Places.length [.flat,.flat,.flat,.flat,(.sl 169 5 [.flat,.flat,.flat,.flat,.flat])] (aW.Places.map ab)),(3000001,oa 85 4 ac aW.Links)]⟩) ?_ (fun d9=> ?_)
 exact DE.all [3,8] (by kernel_rfl) (by simp) (List.forall_mem_cons.2 ⟨bW.mk (i:=3) (L':= #[true,true,true,true,true,true,true,true,false,true,false,false,true,false,false,false]) rfl (al.le (al.bj aa (σ':=⟨42,[(20,.own 3000000),(0,.ref 1000000 0),(1,vs ap),(2,vi ag),(19,.ref 1000000 0),(21,vi x1.1),(24,.ref 1000000 0),(26,vi x1.1),(29,vi ag)],[(1000000,.box [.own 3000000,.own 3000001]),(3000000,.deep 91 5 aW.Places.length [.flat,.flat,.flat,.flat,(.sl 169 5 [.flat,.flat,.flat,.flat,.flat])] (aW.Places.map ab)),(3000001,oa 85 4 ac aW.Links)]⟩) (by kernel_rfl)) Le.ao) (by kernel_rfl) d10,(List.forall_mem_cons.2 ⟨bW.mk (i:=8) (L':= #[true,true,true,false,true,true,true,true,true,true,false,false,true,false,false,false]) rfl (al.le (al.bj aa (σ':=⟨42,[(25,.own 3000000),(0,.ref 1000000 0),(1,vs ap),(2,vi ag),(19,.ref 1000000 0),(21,vi x1.1),(24,.ref 1000000 0),(26,vi x1.1),(29,vi ag)],[(1000000,.box [.own 3000000,.own 3000001]),(3000000,.deep 91 5 aW.Places.length [.flat,.flat,.flat,.flat,(.sl 169 5 [.flat,.flat,.flat,.flat,.flat])] (aW.Places.map ab)),(3000001,oa 85 4 ac aW.Links)]⟩) (by kernel_rfl)) Le.ao) (by kernel_rfl) d11,(fun _ h=>absurd h List.not_mem_nil)⟩)⟩)
 refine DE.aJ (fuel:=8) (L:= #[true,true,true,false,true,true,true,true,false,true,false,false,false,false,false,false]) (σ:=⟨42,[(0,.ref 1000000 0),(1,vs ap),(2,vi ag),(19,.ref 1000000 0),(21,vi x1.1),(24,.ref 1000000 0),(26,vi x1.1)],[(1000000,.box [.own 3000000,.own 3000001]),(3000000,.deep 91 5 aW.Places.length [.flat,.flat,.flat,.flat,(.sl 169 5 [.flat,.flat,.flat,.flat,.flat])] (aW.Places.map ab)),(3000001,oa 85 4 ac aW.Links)]⟩) ?_ (fun d8=> ?_)
 exact DE.take (i:=12) (L':= #[true,true,true,false,true,true,true,true,false,true,false,false,true,false,false,false]) rfl (.inl rfl) rfl (by kernel_rfl) (by kernel_rfl) (by kernel_rfl) (al.le (al.bj aa (σ':=⟨42,[(29,vi ag),(0,.ref 1000000 0),(1,vs ap),(2,vi ag),(19,.ref 1000000 0),(21,vi x1.1),(24,.ref 1000000 0),(26,vi x1.1)],[(1000000,.box [.own 3000000,.own 3000001]),(3000000,.deep 91 5 aW.Places.length [.flat,.flat,.flat,.flat,(.sl 169 5 [.flat,.flat,.flat,.flat,.flat])] (aW.Places.map ab)),(3000001,oa 85 4 ac aW.Links)]⟩) (by kernel_rfl)) Le.ao) (by kernel_rfl) d9
 refine DE.aJ (fuel:=9) (L:= #[true,true,true,false,true,true,true,true,false,false,false,false,false,false,false,false]) (σ:=⟨42,[(0,.ref 1000000 0),(1,vs ap),(2,vi ag),(6,vi x1.1),(19,.ref 1000000 0),(21,vi x1.1),(24,.ref 1000000 0)],[(1000000,.box [.own 3000000,.own 3000001]),(3000000,.deep 91 5 aW.Places.length [.flat,.flat,.flat,.flat,(.sl 169 5 [.flat,.flat,.flat,.flat,.flat])] (aW.Places.map ab)),(3000001,oa 85 4 ac aW.Links)]⟩) ?_ (fun d7=> ?_)
 exact DE.take (i:=9) (L':= #[true,true,true,false,true,true,true,true,false,true,false,false,false,false,false,false]) rfl (.inl rfl) rfl (by kernel_rfl) (by kernel_rfl) (by kernel_rfl) (al.le (al.bj aa (σ':=⟨42,[(26,vi x1.1),(0,.ref 1000000 0),(1,vs ap),(2,vi ag),(6,vi x1.1),(19,.ref 1000000 0),(21,vi x1.1),(24,.ref 1000000 0)],[(1000000,.box [.own 3000000,.own 3000001]),(3000000,.deep 91 5 aW.Places.length [.flat,.flat,.flat,.flat,(.sl 169 5 [.flat,.flat,.flat,.flat,.flat])] (aW.Places.map ab)),(3000001,oa 85 4 ac aW.Links)]⟩) (by kernel_rfl)) Le.ao) (by kernel_rfl) d8
 refine DE.aJ (fuel:=10) (L:= #[true,true,true,false,true,true,true,false,false,false,false,false,false,false,false,false]) (σ:=⟨42,[(0,.ref 1000000 0),(1,vs ap),(2,vi ag),(6,vi x1.1),(19,.ref 1000000 0),(21,vi x1.1),(23,.ref 1000000 0)],[(1000000,.box [.own 3000000,.own 3000001]),(3000000,.deep 91 5 aW.Places.length [.flat,.flat,.flat,.flat,(.sl 169 5 [.flat,.flat,.flat,.flat,.flat])] (aW.Places.map ab)),(3000001,oa 85 4 ac aW.Links)]⟩) ?_ (fun d6=> ?_)
 exact DE.iM aa (i:=7) (L':= #[true,true,true,false,true,true,true,true,false,false,false,false,false,false,false,false]) (v:= .ref 1000000 0) rfl rfl (by kernel_rfl) rfl (by kernel_rfl) (by kernel_rfl) (by kernel_rfl) (al.le (al.bj aa (σ':=⟨42,[(24,.ref 1000000 0),(0,.ref 1000000 0),(1,vs ap),(2,vi ag),(6,vi x1.1),(19,.ref 1000000 0),(21,vi x1.1),(23,.ref 1000000 0)],[(1000000,.box [.own 3000000,.own 3000001]),(3000000,.deep 91 5 aW.Places.length [.flat,.flat,.flat,.flat,(.sl 169 5 [.flat,.flat,.flat,.flat,.flat])] (aW.Places.map ab)),(3000001,oa 85 4 ac aW.Links)]⟩) (by kernel_rfl)) Le.ao) (by kernel_rfl) d7
 refine DE.aJ (fuel:=11) (L:= #[true,true,true,false,true,true,false,false,false,false,false,false,false,false,false,false]) (σ:=⟨42,[(0,.ref 1000000 0),(1,vs ap),(2,vi ag),(6,vi x1.1),(19,.ref 1000000 0),(21,vi x1.1),(22,.ref 1000000 0)],[(1000000,.box [.own 3000000,.own 3000001]),(3000000,.deep 91 5 aW.Places.length [.flat,.flat,.flat,.flat,(.sl 169 5 [.flat,.flat,.flat,.flat,.flat])] (aW.Places.map ab)),(3000001,oa 85 4 ac aW.Links)]⟩) ?_ (fun d5=> ?_)
 exact DE.iM aa (i:=6) (L':= #[true,true,true,false,true,true,true,false,false,false,false,false,false,false,false,false]) (v:= .ref 1000000 0) rfl rfl (by kernel_rfl) rfl (by kernel_rfl) (by kernel_rfl) (by kernel_rfl) (al.le (al.bj aa (σ':=⟨42,[(23,.ref 1000000 0),(0,.ref 1000000 0),(1,vs ap),(2,vi ag),(6,vi x1.1),(19,.ref 1000000 0),(21,vi x1.1),(22,.ref 1000000 0)],[(1000000,.box [.own 3000000,.own 3000001]),(3000000,.deep 91 5 aW.Places.length [.flat,.flat,.flat,.flat,(.sl 169 5 [.flat,.flat,.flat,.flat,.flat])] (aW.Places.map ab)),(3000001,oa 85 4 ac aW.Links)]⟩) (by kernel_rfl)) Le.ao) (by kernel_rfl) d6
 refine DE.aJ (fuel:=12) (L:= #[true,true,true,false,true,false,false,false,false,false,false,false,false,false,false,false]) (σ:=⟨42,[(0,.ref 1000000 0),(1,vs ap),(2,vi ag),(6,vi x1.1),(19,.ref 1000000 0),(21,vi x1.1)],[(1000000,.box [.own 3000000,.own 3000001]),(3000000,.deep 91 5 aW.Places.length [.flat,.flat,.flat,.flat,(.sl 169 5 [.flat,.flat,.flat,.flat,.flat])] (aW.Places.map ab)),(3000001,oa 85 4 ac aW.Links)]⟩) ?_ (fun d4=> ?_)
 exact DE.take (i:=5) (L':= #[true,true,true,false,true,true,false,false,false,false,false,false,false,false,false,false]) rfl (.inl rfl) rfl (by kernel_rfl) (by kernel_rfl) (by kernel_rfl) (al.le (al.bj aa (σ':=⟨42,[(22,.ref 1000000 0),(0,.ref 1000000 0),(1,vs ap),(2,vi ag),(6,vi x1.1),(19,.ref 1000000 0),(21,vi x1.1)],[(1000000,.box [.own 3000000,.own 3000001]),(3000000,.deep 91 5 aW.Places.length [.flat,.flat,.flat,.flat,(.sl 169 5 [.flat,.flat,.flat,.flat,.flat])] (aW.Places.map ab)),(3000001,oa 85 4 ac aW.Links)]⟩) (by kernel_rfl)) Le.ao) (by kernel_rfl) d5
 refine DE.aJ (fuel:=13) (L:= #[true,true,true,false,false,false,false,false,false,false,false,false,false,false,false,false]) (σ:=⟨42,[(0,.ref 1000000 0),(1,vs ap),(2,vi ag),(6,vi x1.1),(19,.ref 1000000 0)],[(1000000,.box [.own 3000000,.own 3000001]),(3000000,.deep 91 5 aW.Places.length [.flat,.flat,.flat,.flat,(.sl 169 5 [.flat,.flat,.flat,.flat,.flat])] (aW.Places.map ab)),(3000001,oa 85 4 ac aW.Links)]⟩) ?_ (fun d3=> ?_)
 exact DE.take (i:=4) (L':= #[true,true,true,false,true,false,false,false,false,false,false,false,false,false,false,false]) rfl (.inl rfl) rfl (by kernel_rfl) (by kernel_rfl) (by kernel_rfl) (al.le (al.bj aa (σ':=⟨42,[(21,vi x1.1),(0,.ref 1000000 0),(1,vs ap),(2,vi ag),(6,vi x1.1),(19,.ref 1000000 0)],[(1000000,.box [.own 3000000,.own 3000001]),(3000000,.deep 91 5 aW.Places.length [.flat,.flat,.flat,.flat,(.sl 169 5 [.flat,.flat,.flat,.flat,.flat])] (aW.Places.map ab)),(3000001,oa 85 4 ac aW.Links)]⟩) (by kernel_rfl)) Le.ao) (by kernel_rfl) d4
 refine DE.aJ (fuel:=14) (L:= #[true,true,false,false,false,false,false,false,false,false,false,false,false,false,false,false]) (σ:=⟨42,[(0,.ref 1000000 0),(1,vs ap),(2,vi ag),(6,vi x1.1),(18,.ref 1000000 0)],[(1000000,.box [.own 3000000,.own 3000001]),(3000000,.deep 91 5 aW.Places.length [.flat,.flat,.flat,.flat,(.sl 169 5 [.flat,.flat,.flat,.flat,.flat])] (aW.Places.map ab)),(3000001,oa 85 4 ac aW.Links)]⟩) ?_ (fun d2=> ?_)
 exact DE.iM aa (i:=2) (L':= #[true,true,true,false,false,false,false,false,false,false,false,false,false,false,false,false]) (v:= .ref 1000000 0) rfl rfl (by kernel_rfl) rfl (by kernel_rfl) (by kernel_rfl) (by kernel_rfl) (al.le (al.bj aa (σ':=⟨42,[(19,.ref 1000000 0),(0,.ref 1000000 0),(1,vs ap),(2,vi ag),(6,vi x1.1),(18,.ref 1000000 0)],[(1000000,.box [.own 3000000,.own 3000001]),(3000000,.deep 91 5 aW.Places.length [.flat,.flat,.flat,.flat,(.sl 169 5 [.flat,.flat,.flat,.flat,.flat])] (aW.Places.map ab)),(3000001,oa 85 4 ac aW.Links)]⟩) (by kernel_rfl)) Le.ao) (by kernel_rfl) d3
 refine DE.aJ (fuel:=15) (L:= #[true,false,false,false,false,false,false,false,false,false,false,false,false,false,false,false]) (σ:=⟨42,[(0,.ref 1000000 0),(1,vs ap),(2,vi ag),(6,vi x1.1),(17,.ref 1000000 0)],[(1000000,.box [.own 3000000,.own 3000001]),(3000000,.deep 91 5 aW.Places.length [.flat,.flat,.flat,.flat,(.sl 169 5 [.flat,.flat,.flat,.flat,.flat])] (aW.Places.map ab)),(3000001,oa 85 4 ac aW.Links)]⟩) ?_ (fun d1=> ?_)
 exact DE.iM aa (i:=1) (L':= #[true,true,false,false,false,false,false,false,false,false,false,false,false,false,false,false]) (v:= .ref 1000000 0) rfl rfl (by kernel_rfl) rfl (by kernel_rfl) (by kernel_rfl) (by kernel_rfl) (al.le (al.bj aa (σ':=⟨42,[(18,.ref 1000000 0),(0,.ref 1000000 0),(1,vs ap),(2,vi ag),(6,vi x1.1),(17,.ref 1000000 0)],[(1000000,.box [.own 3000000,.own 3000001]),(3000000,.deep 91 5 aW.Places.length [.flat,.flat,.flat,.flat,(.sl 169 5 [.flat,.flat,.flat,.flat,.flat])] (aW.Places.map ab)),(3000001,oa 85 4 ac aW.Links)]⟩) (by kernel_rfl)) Le.ao) (by kernel_rfl) d2
 exact DE.take (i:=0) (L':= #[true,false,false,false,false,false,false,false,false,false,false,false,false,false,false,false]) rfl (.inl rfl) rfl (by kernel_rfl) (by kernel_rfl) (by kernel_rfl) (al.le (al.bj aa (σ':=⟨42,[(17,.ref 1000000 0),(0,.ref 1000000 0),(1,vs ap),(2,vi ag),(6,vi x1.1)],[(1000000,.box [.own 3000000,.own 3000001]),(3000000,.deep 91 5 aW.Places.length [.flat,.flat,.flat,.flat,(.sl 169 5 [.flat,.flat,.flat,.flat,.flat])] (aW.Places.map ab)),(3000001,oa 85 4 ac aW.Links)]⟩) (by kernel_rfl)) Le.ao) (by kernel_rfl) d1
 refine a8 ?_
 refine aE ?_
 refine ae.ck aa 7 ⟨42,[(32,.ref 1000000 0),(36,.own 3000001),(37,vs ap),(38,vi ag)],[(1000000,.box [.own 3000000,.own 3000001]),(3000000,.deep 91 5 (List.set aW.Places (Int.toNat x1.1) x3).length [.flat,.flat,.flat,.flat,(.sl 169 5 [.flat,.flat,.flat,.flat,.flat])] ((List.set aW.Places (Int.toNat x1.1) x3).map ab)),(3000001,oa 85 4 ac aW.Links)]⟩ ?_
 obtain⟨x5,hx5,h⟩:=bind_some h
 refine ae.ls (xc ze (m6 aW.Links ap ag _ hx5)) ?_
 refine ae.ck aa 2 ⟨42,[(39,.own 39),(41,.ref 1000000 1)],[(39,oa 85 4 ac x5),(1000000,.box [.own 3000000,.own 3000001]),(3000000,.deep 91 5 (List.set aW.Places (Int.toNat x1.1) x3).length [.flat,.flat,.flat,.flat,(.sl 169 5 [.flat,.flat,.flat,.flat,.flat])] ((List.set aW.Places (Int.toNat x1.1) x3).map ab)),(3000001,oa 85 4 ac aW.Links)]⟩ ?_
 refine ae.cf (mr (d:=1000000) (k:=1) (ti:=eh) (cs:=[.own 3000000,.own 3000001]) (vs:=[.own 39]) (v:= .own 39) aa rfl rfl) ?_
 refine ae.le (Le.less _ [3000001]) ?_
 refine ae.le (Le.tE 39 3000001) ?_
 refine ae.nil ?_
 obtain rfl:=inj h
 exact BZ (fw aa)
theorem xE:a7 Tryz.prog 93:=aw Tryz.func93 (by kernel_rfl) rfl
noncomputable def fF(aW:World)(aC:Change):Option (Int×World):=
 ((eF aW.Links aC.Code aC.Year).bind fun x1=>(((cY (x1.1.length:Int) (fun(i4:Int) (s4:(List Place)×(List au))=>((at' x1.1 i4).bind fun x8=>((cz (World.mk s4.1 s4.2) x8 aC.Other aC.Year).bind fun x9=>(bif(x9.1 !=0)then some (.inr (.inr (x9.1,x9.2)))else some (.inl (x9.2.Places,x9.2.Links)))))) (fun(s4:(List Place)×(List au))=>(.inl (s4.1,s4.2))) 0 (aW.Places,aW.Links))).bind (Sum.elim (fun(j2:(List Place)×(List au))=>((eb (World.mk j2.1 j2.2) aC.Code aC.Year).bind fun x10=>some (0,x10))) some)))
theorem lm(aW:World)(aC:Change)(r:Int×World)(h:fF aW aC=some r):jl Tryz.prog 92 [.ref 1000000 0,.agg (tc ah aC)] [(1000000,.box [.own 3000000,.own 3000001]),(3000000,.deep 91 5 aW.Places.length [.flat,.flat,.flat,.flat,(.sl 169 5 [.flat,.flat,.flat,.flat,.flat])] (aW.Places.map ab)),(3000001,oa 85 4 ac aW.Links)] [(1000000,.box [.own 3000000,.own 3000001]),(3000000,.deep 91 5 r.2.Places.length [.flat,.flat,.flat,.flat,(.sl 169 5 [.flat,.flat,.flat,.flat,.flat])] (r.2.Places.map ab)),(3000001,oa 85 4 ac r.2.Links)] [vi r.1]:=by
 refine iN Tryz.func92 rfl [(.tmp 4)] rfl (fun r=>[(1000000,.box [.own 3000000,.own 3000001]),(3000000,.deep 91 5 r.2.Places.length [.flat,.flat,.flat,.flat,(.sl 169 5 [.flat,.flat,.flat,.flat,.flat])] (r.2.Places.map ab)),(3000001,oa 85 4 ac r.2.Links)]) (fun r=>[vi r.1]) (r:=r) (cw SV.dW (cw trivial (cw (b9 dt _) jI))) ?_
 unfold fF at h
 refine az aa ⟨45,[(0,.ref 1000000 0),(3,.ref 3 0)],[(3,.box (tc ah aC)),(1000000,.box [.own 3000000,.own 3000001]),(3000000,.deep 91 5 aW.Places.length [.flat,.flat,.flat,.flat,(.sl 169 5 [.flat,.flat,.flat,.flat,.flat])] (aW.Places.map ab)),(3000001,oa 85 4 ac aW.Links)]⟩ ?_
 refine ai ?_
 refine di mixed ?_
 refine aQ.ck aa false 8 ⟨45,[(0,.ref 1000000 0),(3,.ref 3 0),(14,.own 3000001),(16,vs aC.Code),(18,vi aC.Year)],[(3,.box (tc ah aC)),(1000000,.box [.own 3000000,.own 3000001]),(3000000,.deep 91 5 aW.Places.length [.flat,.flat,.flat,.flat,(.sl 169 5 [.flat,.flat,.flat,.flat,.flat])] (aW.Places.map ab)),(3000001,oa 85 4 ac aW.Links)]⟩ ?_
 obtain⟨x1,hx1,h⟩:=bind_some h
 refine aQ.step (xc zd (lV aW.Links aC.Code aC.Year _ hx1)) ?_
 refine aQ.ck aa false 5 ⟨45,[(0,.ref 1000000 0),(3,.ref 3 0),(5,.own 19)],[(3,.box (tc ah aC)),(19,oa 9 1 eS x1.1),(1000000,.box [.own 3000000,.own 3000001]),(3000000,.deep 91 5 aW.Places.length [.flat,.flat,.flat,.flat,(.sl 169 5 [.flat,.flat,.flat,.flat,.flat])] (aW.Places.map ab)),(3000001,oa 85 4 ac aW.Links)]⟩ ?_
 refine aQ.nx ?_
 refine ai ?_
 refine az aa ⟨45,[(0,.ref 1000000 0),(3,.ref 3 0),(22,.own 19),(23,vi (x1.1.length:Int)),(24,vi 0)],[(3,.box (tc ah aC)),(19,oa 9 1 eS x1.1),(1000000,.box [.own 3000000,.own 3000001]),(3000000,.deep 91 5 aW.Places.length [.flat,.flat,.flat,.flat,(.sl 169 5 [.flat,.flat,.flat,.flat,.flat])] (aW.Places.map ab)),(3000001,oa 85 4 ac aW.Links)]⟩ ?_
 refine bl (r:=r) h (fun j2=>⟨45,[(0,.ref 1000000 0),(3,.ref 3 0)],[(3,.box (tc ah aC)),(1000000,.box [.own 3000000,.own 3000001]),(3000000,.deep 91 5 j2.1.length [.flat,.flat,.flat,.flat,(.sl 169 5 [.flat,.flat,.flat,.flat,.flat])] (j2.1.map ab)),(3000001,oa 85 4 ac j2.2)]⟩) (fun v3 h=> ?_) (fun j2 h=> ?_)
 refine ax (a:=v3) ?_
 refine a6 (r:=v3) (s:=(0,aW.Places,aW.Links)) _ (fun s4=>⟨45,[(0,.ref 1000000 0),(3,.ref 3 0),(22,.own 22),(23,vi (x1.1.length:Int)),(24,vi s4.1)],[(3,.box (tc ah aC)),(22,oa 9 1 eS x1.1),(1000000,.box [.own 3000000,.own 3000001]),(3000000,.deep 91 5 s4.2.1.length [.flat,.flat,.flat,.flat,(.sl 169 5 [.flat,.flat,.flat,.flat,.flat])] (s4.2.1.map ab)),(3000001,oa 85 4 ac s4.2.2)]⟩) _ (Le.rr [3,19,1000000,3000000,3000001] [(19,22)]) h (fun s4 v5 h=> ?_)
 refine az aa ⟨45,[(0,.ref 1000000 0),(3,.ref 3 0),(22,.own 22),(23,vi (x1.1.length:Int)),(24,vi s4.1),(25,vb (decide (s4.1<(x1.1.length:Int))))],[(3,.box (tc ah aC)),(22,oa 9 1 eS x1.1),(1000000,.box [.own 3000000,.own 3000001]),(3000000,.deep 91 5 s4.2.1.length [.flat,.flat,.flat,.flat,(.sl 169 5 [.flat,.flat,.flat,.flat,.flat])] (s4.2.1.map ab)),(3000001,oa 85 4 ac s4.2.2)]⟩ ?_
 refine ai ?_
 refine aq h (fun h=> ?_) fun h=> ?_
 refine an ?_
 refine a8 ?_
 refine ai ?_
 refine bp (r:=v5) h (fun j6=>⟨45,[(0,.ref 1000000 0),(3,.ref 3 0),(22,.own 22),(23,vi (x1.1.length:Int)),(24,vi s4.1)],[(3,.box (tc ah aC)),(22,oa 9 1 eS x1.1),(1000000,.box [.own 3000000,.own 3000001]),(3000000,.deep 91 5 j6.1.length [.flat,.flat,.flat,.flat,(.sl 169 5 [.flat,.flat,.flat,.flat,.flat])] (j6.1.map ab)),(3000001,oa 85 4 ac j6.2)]⟩) (fun v7 h=> ?_) (fun j6 h=> ?_)
 refine ax (a:=v7) ?_
 refine sr ?_
 obtain⟨x8,hx8,h⟩:=bind_some h
 refine ae.ls (bX (d:=22) (L:=x1.1) (f:=eS) (ti:=cn) (tj:=ig) (e:=9) (e':=9) (m:=1) (k:= .i64) aa rfl hx8) ?_
 refine ae.ls (dd (d:=22) (m:=1) (j:=0) (L:=x1.1) (f:=eS) (ti:=ig) (e:=9) (v:=vs x8) aa rfl hx8) ?_
 refine bU aa 1 ⟨45,[(0,.ref 1000000 0),(3,.ref 3 0),(8,vs x8),(22,.own 22),(23,vi (x1.1.length:Int)),(24,vi s4.1)],[(3,.box (tc ah aC)),(22,oa 9 1 eS x1.1),(1000000,.box [.own 3000000,.own 3000001]),(3000000,.deep 91 5 s4.2.1.length [.flat,.flat,.flat,.flat,(.sl 169 5 [.flat,.flat,.flat,.flat,.flat])] (s4.2.1.map ab)),(3000001,oa 85 4 ac s4.2.2)]⟩ ?_
 refine sr ?_
 refine ae.ck aa 6 ⟨45,[(0,.ref 1000000 0),(3,.ref 3 0),(22,.own 22),(23,vi (x1.1.length:Int)),(24,vi s4.1),(28,.ref 1000000 0),(29,vs x8),(31,vs aC.Other),(33,vi aC.Year)],[(3,.box (tc ah aC)),(22,oa 9 1 eS x1.1),(1000000,.box [.own 3000000,.own 3000001]),(3000000,.deep 91 5 s4.2.1.length [.flat,.flat,.flat,.flat,(.sl 169 5 [.flat,.flat,.flat,.flat,.flat])] (s4.2.1.map ab)),(3000001,oa 85 4 ac s4.2.2)]⟩ ?_
 obtain⟨x9,hx9,h⟩:=bind_some h
 refine ae.cf (x_w [(1000000,1000000),(3000000,3000000),(3000001,3000001)] [false,true,true,true] xD (iX (World.mk s4.2.1 s4.2.2) x8 aC.Other aC.Year _ hx9)) ?_
 refine bU aa 1 ⟨45,[(0,.ref 1000000 0),(3,.ref 3 0),(9,vi x9.1),(22,.own 22),(23,vi (x1.1.length:Int)),(24,vi s4.1)],[(3,.box (tc ah aC)),(22,oa 9 1 eS x1.1),(1000000,.box [.own 3000000,.own 3000001]),(3000000,.deep 91 5 x9.2.Places.length [.flat,.flat,.flat,.flat,(.sl 169 5 [.flat,.flat,.flat,.flat,.flat])] (x9.2.Places.map ab)),(3000001,oa 85 4 ac x9.2.Links)]⟩ ?_
 refine az aa ⟨45,[(0,.ref 1000000 0),(3,.ref 3 0),(9,vi x9.1),(22,.own 22),(23,vi (x1.1.length:Int)),(24,vi s4.1),(36,vb (x9.1 !=0))],[(3,.box (tc ah aC)),(22,oa 9 1 eS x1.1),(1000000,.box [.own 3000000,.own 3000001]),(3000000,.deep 91 5 x9.2.Places.length [.flat,.flat,.flat,.flat,(.sl 169 5 [.flat,.flat,.flat,.flat,.flat])] (x9.2.Places.map ab)),(3000001,oa 85 4 ac x9.2.Links)]⟩ ?_
 refine aq h (fun h=> ?_) fun h=> ?_
 refine az aa ⟨45,[(4,vi x9.1)],[(1000000,.box [.own 3000000,.own 3000001]),(3000000,.deep 91 5 x9.2.Places.length [.flat,.flat,.flat,.flat,(.sl 169 5 [.flat,.flat,.flat,.flat,.flat])] (x9.2.Places.map ab)),(3000001,oa 85 4 ac x9.2.Links)]⟩ ?_
 refine ak ?_
 obtain rfl:=inj h
 exact bw (bi (bi (bw (bi (l4 (fw aa))))))
 refine an ?_
 obtain rfl:=inj h
 exact bY (cb (Le.ao))
 refine aE ?_
 refine ae.ck aa 2 ⟨45,[(0,.ref 1000000 0),(3,.ref 3 0),(22,.own 22),(23,vi (x1.1.length:Int)),(24,vi (aZ (s4.1+1)))],[(3,.box (tc ah aC)),(22,oa 9 1 eS x1.1),(1000000,.box [.own 3000000,.own 3000001]),(3000000,.deep 91 5 j6.1.length [.flat,.flat,.flat,.flat,(.sl 169 5 [.flat,.flat,.flat,.flat,.flat])] (j6.1.map ab)),(3000001,oa 85 4 ac j6.2)]⟩ ?_
 refine ae.nil ?_
 obtain rfl:=inj h
 exact cb (Le.ao)
 refine aO ?_
 obtain rfl:=inj h
 exact cH (cJ (cI (cb (Le.ao))))
 refine sr ?_
 refine ae.ck aa 5 ⟨45,[(39,.ref 1000000 0),(41,vs aC.Code),(43,vi aC.Year)],[(1000000,.box [.own 3000000,.own 3000001]),(3000000,.deep 91 5 j2.1.length [.flat,.flat,.flat,.flat,(.sl 169 5 [.flat,.flat,.flat,.flat,.flat])] (j2.1.map ab)),(3000001,oa 85 4 ac j2.2)]⟩ ?_
 obtain⟨x10,hx10,h⟩:=bind_some h
 refine ae.cf (x_w [(1000000,1000000),(3000000,3000000),(3000001,3000001)] [false,true,true] xE (ju (World.mk j2.1 j2.2) aC.Code aC.Year _ hx10)) ?_
 refine ae.nx ?_
 refine az aa ⟨45,[(4,vi 0)],[(1000000,.box [.own 3000000,.own 3000001]),(3000000,.deep 91 5 x10.Places.length [.flat,.flat,.flat,.flat,(.sl 169 5 [.flat,.flat,.flat,.flat,.flat])] (x10.Places.map ab)),(3000001,oa 85 4 ac x10.Links)]⟩ ?_
 refine ak ?_
 obtain rfl:=inj h
 exact l4 (fw aa)
theorem A7:a7 Tryz.prog 92:=aw Tryz.func92 (by kernel_rfl) rfl
noncomputable def ea(aW:World)(aC:Change):Option (Int×World):=
 (((bif(aC.Kind==0)then((dH aW aC).bind fun x3=>some (.inr (x3.1,x3.2)))else(bif(aC.Kind==2)then((cz aW aC.Code aC.Other aC.Year).bind fun x4=>some (.inr (x4.1,x4.2)))else(bif(aC.Kind==3)then((fF aW aC).bind fun x5=>some (.inr (x5.1,x5.2)))else some (.inl (aW.Places,aW.Links)))))).bind (Sum.elim (fun(j1:(List Place)×(List au))=>((eb (World.mk j1.1 j1.2) aC.Code aC.Year).bind fun x6=>some (0,x6))) some))
theorem lk(aW:World)(aC:Change)(r:Int×World)(h:ea aW aC=some r):jl Tryz.prog 42 [.ref 1000000 0,.agg (tc ah aC)] [(1000000,.box [.own 3000000,.own 3000001]),(3000000,.deep 91 5 aW.Places.length [.flat,.flat,.flat,.flat,(.sl 169 5 [.flat,.flat,.flat,.flat,.flat])] (aW.Places.map ab)),(3000001,oa 85 4 ac aW.Links)] [(1000000,.box [.own 3000000,.own 3000001]),(3000000,.deep 91 5 r.2.Places.length [.flat,.flat,.flat,.flat,(.sl 169 5 [.flat,.flat,.flat,.flat,.flat])] (r.2.Places.map ab)),(3000001,oa 85 4 ac r.2.Links)] [vi r.1]:=by
 refine iN Tryz.func42 rfl [(.tmp 4)] rfl (fun r=>[(1000000,.box [.own 3000000,.own 3000001]),(3000000,.deep 91 5 r.2.Places.length [.flat,.flat,.flat,.flat,(.sl 169 5 [.flat,.flat,.flat,.flat,.flat])] (r.2.Places.map ab)),(3000001,oa 85 4 ac r.2.Links)]) (fun r=>[vi r.1]) (r:=r) (cw SV.dW (cw trivial (cw (b9 dt _) jI))) ?_
 unfold ea at h
 refine az aa ⟨33,[(0,.ref 1000000 0),(3,.ref 3 0)],[(3,.box (tc ah aC)),(1000000,.box [.own 3000000,.own 3000001]),(3000000,.deep 91 5 aW.Places.length [.flat,.flat,.flat,.flat,(.sl 169 5 [.flat,.flat,.flat,.flat,.flat])] (aW.Places.map ab)),(3000001,oa 85 4 ac aW.Links)]⟩ ?_
 refine ai ?_
 refine az aa ⟨33,[(0,.ref 1000000 0),(3,.ref 3 0),(6,vi aC.Kind)],[(3,.box (tc ah aC)),(1000000,.box [.own 3000000,.own 3000001]),(3000000,.deep 91 5 aW.Places.length [.flat,.flat,.flat,.flat,(.sl 169 5 [.flat,.flat,.flat,.flat,.flat])] (aW.Places.map ab)),(3000001,oa 85 4 ac aW.Links)]⟩ ?_
 refine bl (r:=r) h (fun j1=>⟨33,[(0,.ref 1000000 0),(3,.ref 3 0)],[(3,.box (tc ah aC)),(1000000,.box [.own 3000000,.own 3000001]),(3000000,.deep 91 5 j1.1.length [.flat,.flat,.flat,.flat,(.sl 169 5 [.flat,.flat,.flat,.flat,.flat])] (j1.1.map ab)),(3000001,oa 85 4 ac j1.2)]⟩) (fun v2 h=> ?_) (fun j1 h=> ?_)
 refine ax (a:=v2) ?_
 refine az aa ⟨33,[(0,.ref 1000000 0),(3,.ref 3 0),(6,vi aC.Kind),(7,vb (aC.Kind==0))],[(3,.box (tc ah aC)),(1000000,.box [.own 3000000,.own 3000001]),(3000000,.deep 91 5 aW.Places.length [.flat,.flat,.flat,.flat,(.sl 169 5 [.flat,.flat,.flat,.flat,.flat])] (aW.Places.map ab)),(3000001,oa 85 4 ac aW.Links)]⟩ ?_
 refine aq h (fun h=> ?_) fun h=> ?_
 refine sr ?_
 refine ae.ck aa 2 ⟨33,[(9,.ref 1000000 0),(10,.agg (tc ah aC))],[(1000000,.box [.own 3000000,.own 3000001]),(3000000,.deep 91 5 aW.Places.length [.flat,.flat,.flat,.flat,(.sl 169 5 [.flat,.flat,.flat,.flat,.flat])] (aW.Places.map ab)),(3000001,oa 85 4 ac aW.Links)]⟩ ?_
 obtain⟨x3,hx3,h⟩:=bind_some h
 refine ae.cf (x_w [(1000000,1000000),(3000000,3000000),(3000001,3000001)] [false,true] A6 (kT aW aC _ hx3)) ?_
 refine bU aa 1 ⟨33,[(4,vi x3.1)],[(1000000,.box [.own 3000000,.own 3000001]),(3000000,.deep 91 5 x3.2.Places.length [.flat,.flat,.flat,.flat,(.sl 169 5 [.flat,.flat,.flat,.flat,.flat])] (x3.2.Places.map ab)),(3000001,oa 85 4 ac x3.2.Links)]⟩ ?_
 refine ak ?_
 obtain rfl:=inj h
 exact bw (bi (l4 (fw aa)))
 refine az aa ⟨33,[(0,.ref 1000000 0),(3,.ref 3 0),(6,vi aC.Kind),(12,vb (aC.Kind==2))],[(3,.box (tc ah aC)),(1000000,.box [.own 3000000,.own 3000001]),(3000000,.deep 91 5 aW.Places.length [.flat,.flat,.flat,.flat,(.sl 169 5 [.flat,.flat,.flat,.flat,.flat])] (aW.Places.map ab)),(3000001,oa 85 4 ac aW.Links)]⟩ ?_
 refine aq h (fun h=> ?_) fun h=> ?_
 refine sr ?_
 refine ae.ck aa 7 ⟨33,[(14,.ref 1000000 0),(16,vs aC.Code),(18,vs aC.Other),(20,vi aC.Year)],[(1000000,.box [.own 3000000,.own 3000001]),(3000000,.deep 91 5 aW.Places.length [.flat,.flat,.flat,.flat,(.sl 169 5 [.flat,.flat,.flat,.flat,.flat])] (aW.Places.map ab)),(3000001,oa 85 4 ac aW.Links)]⟩ ?_
 obtain⟨x4,hx4,h⟩:=bind_some h
 refine ae.cf (x_w [(1000000,1000000),(3000000,3000000),(3000001,3000001)] [false,true,true,true] xD (iX aW aC.Code aC.Other aC.Year _ hx4)) ?_
 refine bU aa 1 ⟨33,[(4,vi x4.1)],[(1000000,.box [.own 3000000,.own 3000001]),(3000000,.deep 91 5 x4.2.Places.length [.flat,.flat,.flat,.flat,(.sl 169 5 [.flat,.flat,.flat,.flat,.flat])] (x4.2.Places.map ab)),(3000001,oa 85 4 ac x4.2.Links)]⟩ ?_
 refine ak ?_
 obtain rfl:=inj h
 exact bw (bi (l4 (fw aa)))
 refine az aa ⟨33,[(0,.ref 1000000 0),(3,.ref 3 0),(22,vb (aC.Kind==3))],[(3,.box (tc ah aC)),(1000000,.box [.own 3000000,.own 3000001]),(3000000,.deep 91 5 aW.Places.length [.flat,.flat,.flat,.flat,(.sl 169 5 [.flat,.flat,.flat,.flat,.flat])] (aW.Places.map ab)),(3000001,oa 85 4 ac aW.Links)]⟩ ?_
 refine aq h (fun h=> ?_) fun h=> ?_
 refine sr ?_
 refine ae.ck aa 2 ⟨33,[(24,.ref 1000000 0),(25,.agg (tc ah aC))],[(1000000,.box [.own 3000000,.own 3000001]),(3000000,.deep 91 5 aW.Places.length [.flat,.flat,.flat,.flat,(.sl 169 5 [.flat,.flat,.flat,.flat,.flat])] (aW.Places.map ab)),(3000001,oa 85 4 ac aW.Links)]⟩ ?_
 obtain⟨x5,hx5,h⟩:=bind_some h
 refine ae.cf (x_w [(1000000,1000000),(3000000,3000000),(3000001,3000001)] [false,true] A7 (lm aW aC _ hx5)) ?_
 refine bU aa 1 ⟨33,[(4,vi x5.1)],[(1000000,.box [.own 3000000,.own 3000001]),(3000000,.deep 91 5 x5.2.Places.length [.flat,.flat,.flat,.flat,(.sl 169 5 [.flat,.flat,.flat,.flat,.flat])] (x5.2.Places.map ab)),(3000001,oa 85 4 ac x5.2.Links)]⟩ ?_
 refine ak ?_
 obtain rfl:=inj h
 exact bw (bi (l4 (fw aa)))
 refine an ?_
 obtain rfl:=inj h
 exact bY (cb (Le.ao))
 refine sr ?_
 refine ae.ck aa 5 ⟨33,[(27,.ref 1000000 0),(29,vs aC.Code),(31,vi aC.Year)],[(1000000,.box [.own 3000000,.own 3000001]),(3000000,.deep 91 5 j1.1.length [.flat,.flat,.flat,.flat,(.sl 169 5 [.flat,.flat,.flat,.flat,.flat])] (j1.1.map ab)),(3000001,oa 85 4 ac j1.2)]⟩ ?_
 obtain⟨x6,hx6,h⟩:=bind_some h
 refine ae.cf (x_w [(1000000,1000000),(3000000,3000000),(3000001,3000001)] [false,true,true] xE (ju (World.mk j1.1 j1.2) aC.Code aC.Year _ hx6)) ?_
 refine ae.nx ?_
 refine az aa ⟨33,[(4,vi 0)],[(1000000,.box [.own 3000000,.own 3000001]),(3000000,.deep 91 5 x6.Places.length [.flat,.flat,.flat,.flat,(.sl 169 5 [.flat,.flat,.flat,.flat,.flat])] (x6.Places.map ab)),(3000001,oa 85 4 ac x6.Links)]⟩ ?_
 refine ak ?_
 obtain rfl:=inj h
 exact l4 (fw aa)
theorem AP:a7 Tryz.prog 42:=aw Tryz.func42 (by kernel_rfl) rfl
noncomputable def cS(aW:World)(aC:Change):Option (World×Int):=
 ((eH aW aC).bind fun x1=>(bif(x1 !=0)then some ((World.mk ([]:List Place) ([]:List au)),x1)else((eJ aW).bind fun x2=>((ea x2 aC).bind fun x3=>(bif(x3.1 !=0)then some ((World.mk ([]:List Place) ([]:List au)),x3.1)else some (x3.2,0))))))
theorem kD(aW:World)(aC:Change)(r:World×Int)(h:cS aW aC=some r):jl Tryz.prog 15 [.agg (tc aj aW),.agg (tc ah aC)] [] [(3000000,.deep 91 5 r.1.Places.length [.flat,.flat,.flat,.flat,(.sl 169 5 [.flat,.flat,.flat,.flat,.flat])] (r.1.Places.map ab)),(3000001,oa 85 4 ac r.1.Links)] [.agg [.own 3000000,.own 3000001],vi r.2]:=by
 refine iN Tryz.func15 rfl [(.cell 4 35),(.tmp 5)] rfl (fun r=>[(3000000,.deep 91 5 r.1.Places.length [.flat,.flat,.flat,.flat,(.sl 169 5 [.flat,.flat,.flat,.flat,.flat])] (r.1.Places.map ab)),(3000001,oa 85 4 ac r.1.Links)]) (fun r=>[.agg [.own 3000000,.own 3000001],vi r.2]) (r:=r) (cw trivial (cw (b9 dt _) jI)) ?_
 unfold cS at h
 refine az aa ⟨25,[(2,.ref 2 0),(3,.ref 3 0),(4,.ref 4 0)],[(2,.box (tc aj aW)),(3,.box (tc ah aC)),(4,.box [vl ab ([]:List Place),vl ac ([]:List au)])]⟩ ?_
 refine ai ?_
 refine sr ?_
 refine ae.ck aa 2 ⟨25,[(2,.ref 2 0),(3,.ref 3 0),(4,.ref 4 0),(9,.agg (tc aj aW)),(10,.agg (tc ah aC))],[(2,.box (tc aj aW)),(3,.box (tc ah aC)),(4,.box [vl ab ([]:List Place),vl ac ([]:List au)])]⟩ ?_
 obtain⟨x1,hx1,h⟩:=bind_some h
 refine ae.ls (xc AN (lX aW aC _ hx1)) ?_
 refine bU aa 1 ⟨25,[(2,.ref 2 0),(3,.ref 3 0),(4,.ref 4 0),(6,vi x1)],[(2,.box (tc aj aW)),(3,.box (tc ah aC)),(4,.box [vl ab ([]:List Place),vl ac ([]:List au)])]⟩ ?_
 refine az aa ⟨25,[(2,.ref 2 0),(3,.ref 3 0),(4,.ref 4 0),(6,vi x1),(13,vb (x1 !=0))],[(2,.box (tc aj aW)),(3,.box (tc ah aC)),(4,.box [vl ab ([]:List Place),vl ac ([]:List au)])]⟩ ?_
 refine aq h (fun h=> ?_) fun h=> ?_
 refine sr ?_
 refine ae.ls (oJ (ti:=l8) (fs:=[(0,32),(1,33)]) (pl:=[(0,1),(1,1)]) (zs:=[.slice none 0 0,.slice none 0 0]) aa rfl) ?_
 refine bU aa 3 ⟨25,[(4,.ref 4 0),(5,vi x1)],[(4,.box [.tr .nil,.tr .nil])]⟩ ?_
 refine cW (Le.rV (cs:=[.tr .nil,.tr .nil]) 4 0 3000000 (.deep 91 5 ([]:List Place).length [.flat,.flat,.flat,.flat,(.sl 169 5 [.flat,.flat,.flat,.flat,.flat])] (([]:List Place).map ab)) (.inr ⟨rfl,rfl⟩) rfl) ?_
 refine cW (Le.rV (ss:=[]) (cs:=[.own 3000000,.tr .nil]) 4 1 3000001 (oa 85 4 ac ([]:List au)) (.inl rfl) rfl) ?_
 refine ak ?_
 obtain rfl:=inj h
 exact bS (l4 (fw aa))
 refine an ?_
 refine a8 ?_
 refine sr ?_
 refine ae.ck aa 1 ⟨25,[(3,.ref 3 0),(4,.ref 4 0),(16,.agg (tc aj aW))],[(3,.box (tc ah aC)),(4,.box [vl ab ([]:List Place),vl ac ([]:List au)])]⟩ ?_
 obtain⟨x2,hx2,h⟩:=bind_some h
 refine ae.cf (x_w [(3000000,24),(3000001,23)] [true] AO (lY aW _ hx2)) ?_
 refine bU aa 2 ⟨25,[(3,.ref 3 0),(4,.ref 4 0),(7,.ref 7 0)],[(3,.box (tc ah aC)),(4,.box [vl ab ([]:List Place),vl ac ([]:List au)]),(7,.box [.own 24,.own 23]),(23,oa 85 4 ac x2.Links),(24,.deep 91 5 x2.Places.length [.flat,.flat,.flat,.flat,(.sl 169 5 [.flat,.flat,.flat,.flat,.flat])] (x2.Places.map ab))]⟩ ?_
 refine ai ?_
 refine sr ?_
 refine ae.ck aa 1 ⟨25,[(4,.ref 4 0),(7,.ref 7 0),(18,.agg (tc ah aC))],[(4,.box [vl ab ([]:List Place),vl ac ([]:List au)]),(7,.box [.own 24,.own 23]),(23,oa 85 4 ac x2.Links),(24,.deep 91 5 x2.Places.length [.flat,.flat,.flat,.flat,(.sl 169 5 [.flat,.flat,.flat,.flat,.flat])] (x2.Places.map ab))]⟩ ?_
 obtain⟨x3,hx3,h⟩:=bind_some h
 refine ae.cf (x_w [(1000000,7),(3000000,24),(3000001,23)] [false,true] AP (lk x2 aC _ hx3)) ?_
 refine bU aa 1 ⟨25,[(4,.ref 4 0),(7,.ref 7 0),(8,vi x3.1)],[(4,.box [vl ab ([]:List Place),vl ac ([]:List au)]),(7,.box [.own 24,.own 23]),(23,oa 85 4 ac x3.2.Links),(24,.deep 91 5 x3.2.Places.length [.flat,.flat,.flat,.flat,(.sl 169 5 [.flat,.flat,.flat,.flat,.flat])] (x3.2.Places.map ab))]⟩ ?_
 refine az aa ⟨25,[(4,.ref 4 0),(7,.ref 7 0),(8,vi x3.1),(21,vb (x3.1 !=0))],[(4,.box [vl ab ([]:List Place),vl ac ([]:List au)]),(7,.box [.own 24,.own 23]),(23,oa 85 4 ac x3.2.Links),(24,.deep 91 5 x3.2.Places.length [.flat,.flat,.flat,.flat,(.sl 169 5 [.flat,.flat,.flat,.flat,.flat])] (x3.2.Places.map ab))]⟩ ?_
 refine aq h (fun h=> ?_) fun h=> ?_
 refine sr ?_
 refine ae.ls (oJ (ti:=l8) (fs:=[(0,32),(1,33)]) (pl:=[(0,1),(1,1)]) (zs:=[.slice none 0 0,.slice none 0 0]) aa rfl) ?_
 refine bU aa 3 ⟨25,[(4,.ref 4 0),(5,vi x3.1)],[(4,.box [.tr .nil,.tr .nil])]⟩ ?_
 refine cW (Le.rV (cs:=[.tr .nil,.tr .nil]) 4 0 3000000 (.deep 91 5 ([]:List Place).length [.flat,.flat,.flat,.flat,(.sl 169 5 [.flat,.flat,.flat,.flat,.flat])] (([]:List Place).map ab)) (.inr ⟨rfl,rfl⟩) rfl) ?_
 refine cW (Le.rV (ss:=[]) (cs:=[.own 3000000,.tr .nil]) 4 1 3000001 (oa 85 4 ac ([]:List au)) (.inl rfl) rfl) ?_
 refine ak ?_
 obtain rfl:=inj h
 exact bS (l4 (fw aa))
 refine an ?_
 refine a8 ?_
 refine az aa ⟨25,[(4,.ref 4 0),(5,vi 0)],[(4,.box [.own 24,.own 23]),(23,oa 85 4 ac x3.2.Links),(24,.deep 91 5 x3.2.Places.length [.flat,.flat,.flat,.flat,(.sl 169 5 [.flat,.flat,.flat,.flat,.flat])] (x3.2.Places.map ab))]⟩ ?_
 refine cW (Le.tE 24 3000000) ?_
 refine cW (Le.tE 23 3000001) ?_
 refine ak ?_
 obtain rfl:=inj h
 exact l4 (fw aa)
theorem AG:a7 Tryz.prog 15:=aw Tryz.func15 (by kernel_rfl) rfl
noncomputable def fT(aW:World)(aC:Change):Option (Bool×Int):=
 ((((fE aW).bind fun x1=>(bif(!x1)then some true else((eU aC).bind fun x2=>some (!x2))))).bind fun(j3:Bool)=>(bif j3 then some (false,1)else((cS aW aC).bind fun x5=>some ((x5.2==0),0))))
theorem m4(aW:World)(aC:Change)(r:Bool×Int)(h:fT aW aC=some r):aF Tryz.prog 12 [.v (.agg (tc aj aW)),.v (.agg (tc ah aC))] ⟨[.v (vb r.1),.v (vi r.2)],[],false⟩:=by
 refine ar Tryz.func12 rfl [(.tmp 4),(.tmp 5)] rfl (fun r=>⟨[.v (vb r.1),.v (vi r.2)],[],false⟩) (r:=r) ?_
 unfold fT at h
 refine az aa ⟨24,[(2,.ref 2 0),(3,.ref 3 0)],[(2,.box (tc aj aW)),(3,.box (tc ah aC))]⟩ ?_
 refine ai ?_
 refine ai ?_
 refine bk h (fun j3=>⟨24,[(2,.ref 2 0),(3,.ref 3 0),(15,vb j3)],[(2,.box (tc aj aW)),(3,.box (tc ah aC))]⟩) (fun v4 h=> ?_) (fun j3 h=> ?_)
 refine ae.ck aa 1 ⟨24,[(2,.ref 2 0),(3,.ref 3 0),(8,.agg (tc aj aW))],[(2,.box (tc aj aW)),(3,.box (tc ah aC))]⟩ ?_
 obtain⟨x1,hx1,h⟩:=bind_some h
 refine ae.ls (xc xr (ki aW _ hx1)) ?_
 refine ae.ck aa 2 ⟨24,[(2,.ref 2 0),(3,.ref 3 0),(11,vb (!x1))],[(2,.box (tc aj aW)),(3,.box (tc ah aC))]⟩ ?_
 refine ae.cu [(11,fun b=>b)] h (fun h=> ?_) fun h=> ?_
 refine ae.ck aa 4 ⟨24,[(2,.ref 2 0),(3,.ref 3 0),(15,vb true)],[(2,.box (tc aj aW)),(3,.box (tc ah aC))]⟩ ?_
 refine ae.nil ?_
 obtain rfl:=inj h
 exact Le.ao
 refine ae.ck aa 1 ⟨24,[(2,.ref 2 0),(3,.ref 3 0),(11,vb false),(12,.agg (tc ah aC))],[(2,.box (tc aj aW)),(3,.box (tc ah aC))]⟩ ?_
 obtain⟨x2,hx2,h⟩:=bind_some h
 refine ae.ls (xc xw (jK aC _ hx2)) ?_
 refine ae.ck aa 2 ⟨24,[(2,.ref 2 0),(3,.ref 3 0),(15,vb (!x2))],[(2,.box (tc aj aW)),(3,.box (tc ah aC))]⟩ ?_
 refine ae.nil ?_
 obtain rfl:=inj h
 exact Le.ao
 refine aq h (fun h=> ?_) fun h=> ?_
 refine az aa ⟨24,[(4,vb false),(5,vi 1)],[]⟩ ?_
 refine ak ?_
 obtain rfl:=inj h
 exact bS (aD (f2 fv fv))
 refine an ?_
 refine a8 ?_
 refine sr ?_
 refine ae.ck aa 2 ⟨24,[(17,.agg (tc aj aW)),(18,.agg (tc ah aC))],[]⟩ ?_
 obtain⟨x5,hx5,h⟩:=bind_some h
 refine ae.cf (x_w [(3000000,23),(3000001,22)] [true,true] AG (kD aW aC _ hx5)) ?_
 refine bU aa 6 ⟨24,[(7,vi x5.2)],[]⟩ ?_
 refine az aa ⟨24,[(4,vb (x5.2==0)),(5,vi 0)],[]⟩ ?_
 refine ak ?_
 obtain rfl:=inj h
 exact aD (f2 fv fv)
theorem AE:a7 Tryz.prog 12:=aw Tryz.func12 (by kernel_rfl) rfl
noncomputable def fk(aA:Span)(aB:Span):Option (Bool):=
 (bif(aA.From !=aB.From)then some false else(bif(aA.To !=aB.To)then some false else some true))
theorem iS(aA:Span)(aB:Span)(r:Bool)(h:fk aA aB=some r):aF Tryz.prog 138 [.v (.agg (tc bc aA)),.v (.agg (tc bc aB))] ⟨[.v (vb r)],[],false⟩:=by
 refine ar Tryz.func138 rfl [(.tmp 4)] rfl (fun r=>⟨[.v (vb r)],[],false⟩) (r:=r) ?_
 unfold fk at h
 refine az aa ⟨15,[(2,.ref 2 0),(3,.ref 3 0)],[(2,.box (tc bc aA)),(3,.box (tc bc aB))]⟩ ?_
 refine ai ?_
 refine az aa ⟨15,[(2,.ref 2 0),(3,.ref 3 0),(9,vb (aA.From !=aB.From))],[(2,.box (tc bc aA)),(3,.box (tc bc aB))]⟩ ?_
 refine aq h (fun h=> ?_) fun h=> ?_
 refine az aa ⟨15,[(4,vb false)],[]⟩ ?_
 refine ak ?_
 obtain rfl:=inj h
 exact bS (aD (f1 fv))
 refine an ?_
 refine a8 ?_
 refine ai ?_
 refine az aa ⟨15,[(14,vb (aA.To !=aB.To))],[]⟩ ?_
 refine aq h (fun h=> ?_) fun h=> ?_
 refine az aa ⟨15,[(4,vb false)],[]⟩ ?_
 refine ak ?_
 obtain rfl:=inj h
 exact bS (aD (f1 fv))
 refine an ?_
 refine a8 ?_
 refine az aa ⟨15,[(4,vb true)],[]⟩ ?_
 refine ak ?_
 obtain rfl:=inj h
 exact aD (f1 fv)
theorem ry:a7 Tryz.prog 138:=aw Tryz.func138 (by kernel_rfl) rfl
noncomputable def gz(aA:Name)(aB:Name):Option (Bool):=
 (bif(!(aA.Text.toList==aB.Text.toList))then some false else(bif(!(aA.Language.toList==aB.Language.toList))then some false else(bif(aA.Status !=aB.Status)then some false else((fk aA.Years aB.Years).bind fun x1=>(bif(!x1)then some false else some true)))))
theorem oU(aA:Name)(aB:Name)(r:Bool)(h:gz aA aB=some r):aF Tryz.prog 182 [.v (.agg (tc af aA)),.v (.agg (tc af aB))] ⟨[.v (vb r)],[],false⟩:=by
 refine ar Tryz.func182 rfl [(.tmp 4)] rfl (fun r=>⟨[.v (vb r)],[],false⟩) (r:=r) ?_
 unfold gz at h
 refine az aa ⟨26,[(2,.ref 2 0),(3,.ref 3 0)],[(2,.box (tc af aA)),(3,.box (tc af aB))]⟩ ?_
 refine ai ?_
 refine az aa ⟨26,[(2,.ref 2 0),(3,.ref 3 0),(9,vb (!(aA.Text.toList==aB.Text.toList)))],[(2,.box (tc af aA)),(3,.box (tc af aB))]⟩ ?_
 refine aq h (fun h=> ?_) fun h=> ?_
 refine az aa ⟨26,[(4,vb false)],[]⟩ ?_
 refine ak ?_
 obtain rfl:=inj h
 exact bS (aD (f1 fv))
 refine an ?_
 refine a8 ?_
 refine ai ?_
 refine az aa ⟨26,[(2,.ref 2 0),(3,.ref 3 0),(14,vb (!(aA.Language.toList==aB.Language.toList)))],[(2,.box (tc af aA)),(3,.box (tc af aB))]⟩ ?_
 refine aq h (fun h=> ?_) fun h=> ?_
 refine az aa ⟨26,[(4,vb false)],[]⟩ ?_
 refine ak ?_
 obtain rfl:=inj h
 exact bS (aD (f1 fv))
 refine an ?_
 refine a8 ?_
 refine ai ?_
 refine az aa ⟨26,[(2,.ref 2 0),(3,.ref 3 0),(19,vb (aA.Status !=aB.Status))],[(2,.box (tc af aA)),(3,.box (tc af aB))]⟩ ?_
 refine aq h (fun h=> ?_) fun h=> ?_
 refine az aa ⟨26,[(4,vb false)],[]⟩ ?_
 refine ak ?_
 obtain rfl:=inj h
 exact bS (aD (f1 fv))
 refine an ?_
 refine a8 ?_
 refine ai ?_
 refine sr ?_
 refine ae.ck aa 4 ⟨26,[(21,.agg (tc bc aA.Years)),(23,.agg (tc bc aB.Years))],[]⟩ ?_
 obtain⟨x1,hx1,h⟩:=bind_some h
 refine ae.ls (xc ry (iS aA.Years aB.Years _ hx1)) ?_
 refine bU aa 1 ⟨26,[(25,vb (!x1))],[]⟩ ?_
 refine aq h (fun h=> ?_) fun h=> ?_
 refine az aa ⟨26,[(4,vb false)],[]⟩ ?_
 refine ak ?_
 obtain rfl:=inj h
 exact bS (aD (f1 fv))
 refine an ?_
 refine a8 ?_
 refine az aa ⟨26,[(4,vb true)],[]⟩ ?_
 refine ak ?_
 obtain rfl:=inj h
 exact aD (f1 fv)
theorem zr:a7 Tryz.prog 182:=aw Tryz.func182 (by kernel_rfl) rfl
noncomputable def gR(aA:(List Name))(aB:(List Name)):Option (Bool):=
 (bif((aA.length:Int) !=(aB.length:Int))then some false else(((cY (aA.length:Int) (fun(i3:Int) (_:Unit)=>((at' aA i3).bind fun x7=>((at' aB i3).bind fun x8=>((gz x7 x8).bind fun x9=>(bif(!x9)then some (.inr (.inr false))else some (.inl ())))))) (fun(_:Unit)=> .inl ()) 0 ())).bind (Sum.elim (fun(_:Unit)=>some true) some)))
theorem nQ(aA:(List Name))(aB:(List Name))(r:Bool)(h:gR aA aB=some r):aF Tryz.prog 139 [.v (vl af aA),.v (vl af aB)] ⟨[.v (vb r)],[],false⟩:=by
 refine ar Tryz.func139 rfl [(.tmp 4)] rfl (fun r=>⟨[.v (vb r)],[],false⟩) (r:=r) ?_
 unfold gR at h
 refine az aa ⟨27,[(0,vl af aA),(1,vl af aB)],[]⟩ ?_
 refine ai ?_
 refine az aa ⟨27,[(0,vl af aA),(1,vl af aB),(10,vb ((aA.length:Int) !=(aB.length:Int)))],[]⟩ ?_
 refine aq h (fun h=> ?_) fun h=> ?_
 refine az aa ⟨27,[(4,vb false)],[]⟩ ?_
 refine ak ?_
 obtain rfl:=inj h
 exact bS (aD (f1 fv))
 refine an ?_
 refine a8 ?_
 refine ai ?_
 refine az aa ⟨27,[(0,vl af aA),(1,vl af aB),(5,vi 0)],[]⟩ ?_
 refine bl (r:=r) h (fun j1=>⟨27,[],[]⟩) (fun v2 h=> ?_) (fun j1 h=> ?_)
 refine ax (a:=v2) ?_
 refine a6 (r:=v2) (s:=(0,())) _ (fun s3=>⟨27,[(0,vl af aA),(1,vl af aB),(5,vi s3.1)],[]⟩) _ (Le.ao) h (fun s3 v4 h=> ?_)
 refine ai ?_
 refine az aa ⟨27,[(0,vl af aA),(1,vl af aB),(5,vi s3.1),(14,vb (decide (s3.1<(aA.length:Int))))],[]⟩ ?_
 refine aq h (fun h=> ?_) fun h=> ?_
 refine an ?_
 refine a8 ?_
 refine ai ?_
 refine bp (r:=v4) h (fun j5=>⟨27,[(0,vl af aA),(1,vl af aB),(5,vi s3.1)],[]⟩) (fun v6 h=> ?_) (fun j5 h=> ?_)
 refine ax (a:=v6) ?_
 refine ai ?_
 refine di mixed ?_
 refine aQ.ck aa false 2 ⟨27,[(0,vl af aA),(1,vl af aB),(5,vi s3.1),(17,vl af aA),(18,vi s3.1)],[]⟩ ?_
 obtain⟨x7,hx7,h⟩:=bind_some h
 refine aQ.step (aG (L:=aA) (f:=af) (ti:=ej) (tj:=dq) (e:=169) (k:= .i64) aa rfl hx7) ?_
 refine aQ.ck aa false 3 ⟨27,[(0,vl af aA),(1,vl af aB),(5,vi s3.1),(20,.agg (tc af x7)),(21,vl af aB),(22,vi s3.1)],[]⟩ ?_
 obtain⟨x8,hx8,h⟩:=bind_some h
 refine aQ.step (aG (L:=aB) (f:=af) (ti:=ej) (tj:=dq) (e:=169) (k:= .i64) aa rfl hx8) ?_
 refine aQ.ck aa false 1 ⟨27,[(0,vl af aA),(1,vl af aB),(5,vi s3.1),(20,.agg (tc af x7)),(24,.agg (tc af x8))],[]⟩ ?_
 obtain⟨x9,hx9,h⟩:=bind_some h
 refine aQ.step (xc zr (oU x7 x8 _ hx9)) ?_
 refine aQ.ck aa false 1 ⟨27,[(0,vl af aA),(1,vl af aB),(5,vi s3.1),(26,vb (!x9))],[]⟩ ?_
 refine aQ.nx ?_
 refine aq h (fun h=> ?_) fun h=> ?_
 refine az aa ⟨27,[(4,vb false)],[]⟩ ?_
 refine ak ?_
 obtain rfl:=inj h
 exact bw (bi (bi (bw (bi (aD (f1 fv))))))
 refine an ?_
 obtain rfl:=inj h
 exact bY (cb (Le.ao))
 refine aE ?_
 refine ae.ck aa 3 ⟨27,[(0,vl af aA),(1,vl af aB),(5,vi (aZ (s3.1+1)))],[]⟩ ?_
 refine ae.nil ?_
 obtain rfl:=inj h
 exact cb (Le.ao)
 refine aO ?_
 obtain rfl:=inj h
 exact cH (cJ (cI (cb (Le.ao))))
 refine az aa ⟨27,[(4,vb true)],[]⟩ ?_
 refine ak ?_
 obtain rfl:=inj h
 exact aD (f1 fv)
theorem y9:a7 Tryz.prog 139:=aw Tryz.func139 (by kernel_rfl) rfl
noncomputable def fI(aA:Place)(aB:Place):Option (Bool):=
 (bif(!(aA.Code.toList==aB.Code.toList))then some false else(bif(aA.Class !=aB.Class)then some false else((fk aA.Years aB.Years).bind fun x1=>(bif(!x1)then some false else((gR aA.Names aB.Names).bind fun x2=>(bif(!x2)then some false else some true))))))
theorem nR(aA:Place)(aB:Place)(r:Bool)(h:fI aA aB=some r):aF Tryz.prog 82 [.v (.agg (tc ab aA)),.v (.agg (tc ab aB))] ⟨[.v (vb r)],[],false⟩:=by
 refine ar Tryz.func82 rfl [(.tmp 4)] rfl (fun r=>⟨[.v (vb r)],[],false⟩) (r:=r) ?_
 unfold fI at h
 refine az aa ⟨27,[(2,.ref 2 0),(3,.ref 3 0)],[(2,.box (tc ab aA)),(3,.box (tc ab aB))]⟩ ?_
 refine ai ?_
 refine az aa ⟨27,[(2,.ref 2 0),(3,.ref 3 0),(9,vb (!(aA.Code.toList==aB.Code.toList)))],[(2,.box (tc ab aA)),(3,.box (tc ab aB))]⟩ ?_
 refine aq h (fun h=> ?_) fun h=> ?_
 refine az aa ⟨27,[(4,vb false)],[]⟩ ?_
 refine ak ?_
 obtain rfl:=inj h
 exact bS (aD (f1 fv))
 refine an ?_
 refine a8 ?_
 refine ai ?_
 refine az aa ⟨27,[(2,.ref 2 0),(3,.ref 3 0),(14,vb (aA.Class !=aB.Class))],[(2,.box (tc ab aA)),(3,.box (tc ab aB))]⟩ ?_
 refine aq h (fun h=> ?_) fun h=> ?_
 refine az aa ⟨27,[(4,vb false)],[]⟩ ?_
 refine ak ?_
 obtain rfl:=inj h
 exact bS (aD (f1 fv))
 refine an ?_
 refine a8 ?_
 refine ai ?_
 refine sr ?_
 refine ae.ck aa 4 ⟨27,[(2,.ref 2 0),(3,.ref 3 0),(16,.agg (tc bc aA.Years)),(18,.agg (tc bc aB.Years))],[(2,.box (tc ab aA)),(3,.box (tc ab aB))]⟩ ?_
 obtain⟨x1,hx1,h⟩:=bind_some h
 refine ae.ls (xc ry (iS aA.Years aB.Years _ hx1)) ?_
 refine bU aa 1 ⟨27,[(2,.ref 2 0),(3,.ref 3 0),(20,vb (!x1))],[(2,.box (tc ab aA)),(3,.box (tc ab aB))]⟩ ?_
 refine aq h (fun h=> ?_) fun h=> ?_
 refine az aa ⟨27,[(4,vb false)],[]⟩ ?_
 refine ak ?_
 obtain rfl:=inj h
 exact bS (aD (f1 fv))
 refine an ?_
 refine a8 ?_
 refine ai ?_
 refine sr ?_
 refine ae.ck aa 4 ⟨27,[(22,vl af aA.Names),(24,vl af aB.Names)],[]⟩ ?_
 obtain⟨x2,hx2,h⟩:=bind_some h
 refine ae.ls (xc y9 (nQ aA.Names aB.Names _ hx2)) ?_
 refine bU aa 1 ⟨27,[(26,vb (!x2))],[]⟩ ?_
 refine aq h (fun h=> ?_) fun h=> ?_
 refine az aa ⟨27,[(4,vb false)],[]⟩ ?_
 refine ak ?_
 obtain rfl:=inj h
 exact bS (aD (f1 fv))
 refine an ?_
 refine a8 ?_
 refine az aa ⟨27,[(4,vb true)],[]⟩ ?_
 refine ak ?_
 obtain rfl:=inj h
 exact aD (f1 fv)
theorem A1:a7 Tryz.prog 82:=aw Tryz.func82 (by kernel_rfl) rfl
noncomputable def fY(aA:(List Place))(aB:(List Place)):Option (Bool):=
 (bif((aA.length:Int) !=(aB.length:Int))then some false else(((cY (aA.length:Int) (fun(i3:Int) (_:Unit)=>((at' aA i3).bind fun x7=>((at' aB i3).bind fun x8=>((fI x7 x8).bind fun x9=>(bif(!x9)then some (.inr (.inr false))else some (.inl ())))))) (fun(_:Unit)=> .inl ()) 0 ())).bind (Sum.elim (fun(_:Unit)=>some true) some)))
theorem nc(aA:(List Place))(aB:(List Place))(r:Bool)(h:fY aA aB=some r):aF Tryz.prog 37 [.v (vl ab aA),.v (vl ab aB)] ⟨[.v (vb r)],[],false⟩:=by
 refine ar Tryz.func37 rfl [(.tmp 4)] rfl (fun r=>⟨[.v (vb r)],[],false⟩) (r:=r) ?_
 unfold fY at h
 refine az aa ⟨27,[(0,vl ab aA),(1,vl ab aB)],[]⟩ ?_
 refine ai ?_
 refine az aa ⟨27,[(0,vl ab aA),(1,vl ab aB),(10,vb ((aA.length:Int) !=(aB.length:Int)))],[]⟩ ?_
 refine aq h (fun h=> ?_) fun h=> ?_
 refine az aa ⟨27,[(4,vb false)],[]⟩ ?_
 refine ak ?_
 obtain rfl:=inj h
 exact bS (aD (f1 fv))
 refine an ?_
 refine a8 ?_
 refine ai ?_
 refine az aa ⟨27,[(0,vl ab aA),(1,vl ab aB),(5,vi 0)],[]⟩ ?_
 refine bl (r:=r) h (fun j1=>⟨27,[],[]⟩) (fun v2 h=> ?_) (fun j1 h=> ?_)
 refine ax (a:=v2) ?_
 refine a6 (r:=v2) (s:=(0,())) _ (fun s3=>⟨27,[(0,vl ab aA),(1,vl ab aB),(5,vi s3.1)],[]⟩) _ (Le.ao) h (fun s3 v4 h=> ?_)
 refine ai ?_
 refine az aa ⟨27,[(0,vl ab aA),(1,vl ab aB),(5,vi s3.1),(14,vb (decide (s3.1<(aA.length:Int))))],[]⟩ ?_
 refine aq h (fun h=> ?_) fun h=> ?_
 refine an ?_
 refine a8 ?_
 refine ai ?_
 refine bp (r:=v4) h (fun j5=>⟨27,[(0,vl ab aA),(1,vl ab aB),(5,vi s3.1)],[]⟩) (fun v6 h=> ?_) (fun j5 h=> ?_)
 refine ax (a:=v6) ?_
 refine ai ?_
 refine di mixed ?_
 refine aQ.ck aa false 2 ⟨27,[(0,vl ab aA),(1,vl ab aB),(5,vi s3.1),(17,vl ab aA),(18,vi s3.1)],[]⟩ ?_
 obtain⟨x7,hx7,h⟩:=bind_some h
 refine aQ.step (aG (L:=aA) (f:=ab) (ti:=df) (tj:=cD) (e:=91) (k:= .i64) aa rfl hx7) ?_
 refine aQ.ck aa false 3 ⟨27,[(0,vl ab aA),(1,vl ab aB),(5,vi s3.1),(20,.agg (tc ab x7)),(21,vl ab aB),(22,vi s3.1)],[]⟩ ?_
 obtain⟨x8,hx8,h⟩:=bind_some h
 refine aQ.step (aG (L:=aB) (f:=ab) (ti:=df) (tj:=cD) (e:=91) (k:= .i64) aa rfl hx8) ?_
 refine aQ.ck aa false 1 ⟨27,[(0,vl ab aA),(1,vl ab aB),(5,vi s3.1),(20,.agg (tc ab x7)),(24,.agg (tc ab x8))],[]⟩ ?_
 obtain⟨x9,hx9,h⟩:=bind_some h
 refine aQ.step (xc A1 (nR x7 x8 _ hx9)) ?_
 refine aQ.ck aa false 1 ⟨27,[(0,vl ab aA),(1,vl ab aB),(5,vi s3.1),(26,vb (!x9))],[]⟩ ?_
 refine aQ.nx ?_
 refine aq h (fun h=> ?_) fun h=> ?_
 refine az aa ⟨27,[(4,vb false)],[]⟩ ?_
 refine ak ?_
 obtain rfl:=inj h
 exact bw (bi (bi (bw (bi (aD (f1 fv))))))
 refine an ?_
 obtain rfl:=inj h
 exact bY (cb (Le.ao))
 refine aE ?_
 refine ae.ck aa 3 ⟨27,[(0,vl ab aA),(1,vl ab aB),(5,vi (aZ (s3.1+1)))],[]⟩ ?_
 refine ae.nil ?_
 obtain rfl:=inj h
 exact cb (Le.ao)
 refine aO ?_
 obtain rfl:=inj h
 exact cH (cJ (cI (cb (Le.ao))))
 refine az aa ⟨27,[(4,vb true)],[]⟩ ?_
 refine ak ?_
 obtain rfl:=inj h
 exact aD (f1 fv)
theorem AL:a7 Tryz.prog 37:=aw Tryz.func37 (by kernel_rfl) rfl
noncomputable def gy(aA:au)(aB:au):Option (Bool):=
 (bif(!(aA.Child.toList==aB.Child.toList))then some false else(bif(!(aA.Parent.toList==aB.Parent.toList))then some false else((fk aA.Years aB.Years).bind fun x1=>(bif(!x1)then some false else some true))))
theorem oT(aA:au)(aB:au)(r:Bool)(h:gy aA aB=some r):aF Tryz.prog 83 [.v (.agg (tc ac aA)),.v (.agg (tc ac aB))] ⟨[.v (vb r)],[],false⟩:=by
 refine ar Tryz.func83 rfl [(.tmp 4)] rfl (fun r=>⟨[.v (vb r)],[],false⟩) (r:=r) ?_
 unfold gy at h
 refine az aa ⟨21,[(2,.ref 2 0),(3,.ref 3 0)],[(2,.box (tc ac aA)),(3,.box (tc ac aB))]⟩ ?_
 refine ai ?_
 refine az aa ⟨21,[(2,.ref 2 0),(3,.ref 3 0),(9,vb (!(aA.Child.toList==aB.Child.toList)))],[(2,.box (tc ac aA)),(3,.box (tc ac aB))]⟩ ?_
 refine aq h (fun h=> ?_) fun h=> ?_
 refine az aa ⟨21,[(4,vb false)],[]⟩ ?_
 refine ak ?_
 obtain rfl:=inj h
 exact bS (aD (f1 fv))
 refine an ?_
 refine a8 ?_
 refine ai ?_
 refine az aa ⟨21,[(2,.ref 2 0),(3,.ref 3 0),(14,vb (!(aA.Parent.toList==aB.Parent.toList)))],[(2,.box (tc ac aA)),(3,.box (tc ac aB))]⟩ ?_
 refine aq h (fun h=> ?_) fun h=> ?_
 refine az aa ⟨21,[(4,vb false)],[]⟩ ?_
 refine ak ?_
 obtain rfl:=inj h
 exact bS (aD (f1 fv))
 refine an ?_
 refine a8 ?_
 refine ai ?_
 refine sr ?_
 refine ae.ck aa 4 ⟨21,[(16,.agg (tc bc aA.Years)),(18,.agg (tc bc aB.Years))],[]⟩ ?_
 obtain⟨x1,hx1,h⟩:=bind_some h
 refine ae.ls (xc ry (iS aA.Years aB.Years _ hx1)) ?_
 refine bU aa 1 ⟨21,[(20,vb (!x1))],[]⟩ ?_
 refine aq h (fun h=> ?_) fun h=> ?_
 refine az aa ⟨21,[(4,vb false)],[]⟩ ?_
 refine ak ?_
 obtain rfl:=inj h
 exact bS (aD (f1 fv))
 refine an ?_
 refine a8 ?_
 refine az aa ⟨21,[(4,vb true)],[]⟩ ?_
 refine ak ?_
 obtain rfl:=inj h
 exact aD (f1 fv)
theorem A2:a7 Tryz.prog 83:=aw Tryz.func83 (by kernel_rfl) rfl
noncomputable def gQ(aA:(List au))(aB:(List au)):Option (Bool):=
 (bif((aA.length:Int) !=(aB.length:Int))then some false else(((cY (aA.length:Int) (fun(i3:Int) (_:Unit)=>((at' aA i3).bind fun x7=>((at' aB i3).bind fun x8=>((gy x7 x8).bind fun x9=>(bif(!x9)then some (.inr (.inr false))else some (.inl ())))))) (fun(_:Unit)=> .inl ()) 0 ())).bind (Sum.elim (fun(_:Unit)=>some true) some)))
theorem nP(aA:(List au))(aB:(List au))(r:Bool)(h:gQ aA aB=some r):aF Tryz.prog 38 [.v (vl ac aA),.v (vl ac aB)] ⟨[.v (vb r)],[],false⟩:=by
 refine ar Tryz.func38 rfl [(.tmp 4)] rfl (fun r=>⟨[.v (vb r)],[],false⟩) (r:=r) ?_
 unfold gQ at h
 refine az aa ⟨27,[(0,vl ac aA),(1,vl ac aB)],[]⟩ ?_
 refine ai ?_
 refine az aa ⟨27,[(0,vl ac aA),(1,vl ac aB),(10,vb ((aA.length:Int) !=(aB.length:Int)))],[]⟩ ?_
 refine aq h (fun h=> ?_) fun h=> ?_
 refine az aa ⟨27,[(4,vb false)],[]⟩ ?_
 refine ak ?_
 obtain rfl:=inj h
 exact bS (aD (f1 fv))
 refine an ?_
 refine a8 ?_
 refine ai ?_
 refine az aa ⟨27,[(0,vl ac aA),(1,vl ac aB),(5,vi 0)],[]⟩ ?_
 refine bl (r:=r) h (fun j1=>⟨27,[],[]⟩) (fun v2 h=> ?_) (fun j1 h=> ?_)
 refine ax (a:=v2) ?_
 refine a6 (r:=v2) (s:=(0,())) _ (fun s3=>⟨27,[(0,vl ac aA),(1,vl ac aB),(5,vi s3.1)],[]⟩) _ (Le.ao) h (fun s3 v4 h=> ?_)
 refine ai ?_
 refine az aa ⟨27,[(0,vl ac aA),(1,vl ac aB),(5,vi s3.1),(14,vb (decide (s3.1<(aA.length:Int))))],[]⟩ ?_
 refine aq h (fun h=> ?_) fun h=> ?_
 refine an ?_
 refine a8 ?_
 refine ai ?_
 refine bp (r:=v4) h (fun j5=>⟨27,[(0,vl ac aA),(1,vl ac aB),(5,vi s3.1)],[]⟩) (fun v6 h=> ?_) (fun j5 h=> ?_)
 refine ax (a:=v6) ?_
 refine ai ?_
 refine di mixed ?_
 refine aQ.ck aa false 2 ⟨27,[(0,vl ac aA),(1,vl ac aB),(5,vi s3.1),(17,vl ac aA),(18,vi s3.1)],[]⟩ ?_
 obtain⟨x7,hx7,h⟩:=bind_some h
 refine aQ.step (aG (L:=aA) (f:=ac) (ti:=eh) (tj:=ei) (e:=85) (k:= .i64) aa rfl hx7) ?_
 refine aQ.ck aa false 3 ⟨27,[(0,vl ac aA),(1,vl ac aB),(5,vi s3.1),(20,.agg (tc ac x7)),(21,vl ac aB),(22,vi s3.1)],[]⟩ ?_
 obtain⟨x8,hx8,h⟩:=bind_some h
 refine aQ.step (aG (L:=aB) (f:=ac) (ti:=eh) (tj:=ei) (e:=85) (k:= .i64) aa rfl hx8) ?_
 refine aQ.ck aa false 1 ⟨27,[(0,vl ac aA),(1,vl ac aB),(5,vi s3.1),(20,.agg (tc ac x7)),(24,.agg (tc ac x8))],[]⟩ ?_
 obtain⟨x9,hx9,h⟩:=bind_some h
 refine aQ.step (xc A2 (oT x7 x8 _ hx9)) ?_
 refine aQ.ck aa false 1 ⟨27,[(0,vl ac aA),(1,vl ac aB),(5,vi s3.1),(26,vb (!x9))],[]⟩ ?_
 refine aQ.nx ?_
 refine aq h (fun h=> ?_) fun h=> ?_
 refine az aa ⟨27,[(4,vb false)],[]⟩ ?_
 refine ak ?_
 obtain rfl:=inj h
 exact bw (bi (bi (bw (bi (aD (f1 fv))))))
 refine an ?_
 obtain rfl:=inj h
 exact bY (cb (Le.ao))
 refine aE ?_
 refine ae.ck aa 3 ⟨27,[(0,vl ac aA),(1,vl ac aB),(5,vi (aZ (s3.1+1)))],[]⟩ ?_
 refine ae.nil ?_
 obtain rfl:=inj h
 exact cb (Le.ao)
 refine aO ?_
 obtain rfl:=inj h
 exact cH (cJ (cI (cb (Le.ao))))
 refine az aa ⟨27,[(4,vb true)],[]⟩ ?_
 refine ak ?_
 obtain rfl:=inj h
 exact aD (f1 fv)
theorem AM:a7 Tryz.prog 38:=aw Tryz.func38 (by kernel_rfl) rfl
noncomputable def gS(aA:World)(aB:World):Option (Bool):=
 ((fY aA.Places aB.Places).bind fun x1=>(bif(!x1)then some false else((gQ aA.Links aB.Links).bind fun x2=>(bif(!x2)then some false else some true))))
theorem nS(aA:World)(aB:World)(r:Bool)(h:gS aA aB=some r):aF Tryz.prog 13 [.v (.agg (tc aj aA)),.v (.agg (tc aj aB))] ⟨[.v (vb r)],[],false⟩:=by
 refine ar Tryz.func13 rfl [(.tmp 4)] rfl (fun r=>⟨[.v (vb r)],[],false⟩) (r:=r) ?_
 unfold gS at h
 refine az aa ⟨17,[(2,.ref 2 0),(3,.ref 3 0)],[(2,.box (tc aj aA)),(3,.box (tc aj aB))]⟩ ?_
 refine ai ?_
 refine sr ?_
 refine ae.ck aa 4 ⟨17,[(2,.ref 2 0),(3,.ref 3 0),(6,vl ab aA.Places),(8,vl ab aB.Places)],[(2,.box (tc aj aA)),(3,.box (tc aj aB))]⟩ ?_
 obtain⟨x1,hx1,h⟩:=bind_some h
 refine ae.ls (xc AL (nc aA.Places aB.Places _ hx1)) ?_
 refine bU aa 1 ⟨17,[(2,.ref 2 0),(3,.ref 3 0),(10,vb (!x1))],[(2,.box (tc aj aA)),(3,.box (tc aj aB))]⟩ ?_
 refine aq h (fun h=> ?_) fun h=> ?_
 refine az aa ⟨17,[(4,vb false)],[]⟩ ?_
 refine ak ?_
 obtain rfl:=inj h
 exact bS (aD (f1 fv))
 refine an ?_
 refine a8 ?_
 refine ai ?_
 refine sr ?_
 refine ae.ck aa 4 ⟨17,[(12,vl ac aA.Links),(14,vl ac aB.Links)],[]⟩ ?_
 obtain⟨x2,hx2,h⟩:=bind_some h
 refine ae.ls (xc AM (nP aA.Links aB.Links _ hx2)) ?_
 refine bU aa 1 ⟨17,[(16,vb (!x2))],[]⟩ ?_
 refine aq h (fun h=> ?_) fun h=> ?_
 refine az aa ⟨17,[(4,vb false)],[]⟩ ?_
 refine ak ?_
 obtain rfl:=inj h
 exact bS (aD (f1 fv))
 refine an ?_
 refine a8 ?_
 refine az aa ⟨17,[(4,vb true)],[]⟩ ?_
 refine ak ?_
 obtain rfl:=inj h
 exact aD (f1 fv)
theorem AF:a7 Tryz.prog 13:=aw Tryz.func13 (by kernel_rfl) rfl
noncomputable def fm(aA:Span):Option (Span):=
 some aA
theorem iT(aA:Span)(r:Span)(h:fm aA=some r):aF Tryz.prog 133 [.v (.agg (tc bc aA))] ⟨[.v (.agg (tc bc r))],[],false⟩:=by
 refine ar Tryz.func133 rfl [(.cell 2 83)] rfl (fun r=>⟨[.v (.agg (tc bc r))],[],false⟩) (r:=r) ?_
 unfold fm at h
 refine az aa ⟨11,[(1,.ref 1 0),(2,.ref 2 0)],[(1,.box (tc bc aA)),(2,.box [vi 0,vi 0])]⟩ ?_
 refine az aa ⟨11,[(1,.ref 1 0),(2,.ref 2 0),(3,.ref 3 0)],[(1,.box (tc bc aA)),(2,.box [vi 0,vi 0]),(3,.box [vi 0,vi 0])]⟩ ?_
 refine az aa ⟨11,[(1,.ref 1 0),(2,.ref 2 0),(3,.ref 3 0)],[(1,.box (tc bc aA)),(2,.box [vi 0,vi 0]),(3,.box [vi aA.From,vi 0])]⟩ ?_
 refine az aa ⟨11,[(2,.ref 2 0),(3,.ref 3 0)],[(2,.box [vi 0,vi 0]),(3,.box (tc bc aA))]⟩ ?_
 refine az aa ⟨11,[(2,.ref 2 0)],[(2,.box (tc bc aA))]⟩ ?_
 refine ak ?_
 obtain rfl:=inj h
 exact aD (f1 (fc aa))
theorem rq:a7 Tryz.prog 133:=aw Tryz.func133 (by kernel_rfl) rfl
noncomputable def gD(aA:Name):Option (Name):=
 ((fm aA.Years).bind fun x1=>some (Name.mk aA.Text aA.Language aA.Status x1))
theorem oY(aA:Name)(r:Name)(h:gD aA=some r):aF Tryz.prog 179 [.v (.agg (tc af aA))] ⟨[.v (.agg (tc af r))],[],false⟩:=by
 refine ar Tryz.func179 rfl [(.cell 2 169)] rfl (fun r=>⟨[.v (.agg (tc af r))],[],false⟩) (r:=r) ?_
 unfold gD at h
 refine az aa ⟨18,[(1,.ref 1 0),(2,.ref 2 0)],[(1,.box (tc af aA)),(2,.box [vs (ByteArray.mk #[]),vs (ByteArray.mk #[]),vi 0,vi 0,vi 0])]⟩ ?_
 refine az aa ⟨18,[(1,.ref 1 0),(2,.ref 2 0),(3,.ref 3 0)],[(1,.box (tc af aA)),(2,.box [vs (ByteArray.mk #[]),vs (ByteArray.mk #[]),vi 0,vi 0,vi 0]),(3,.box [vs (ByteArray.mk #[]),vs (ByteArray.mk #[]),vi 0,vi 0,vi 0])]⟩ ?_
 refine az aa ⟨18,[(1,.ref 1 0),(2,.ref 2 0),(3,.ref 3 0)],[(1,.box (tc af aA)),(2,.box [vs (ByteArray.mk #[]),vs (ByteArray.mk #[]),vi 0,vi 0,vi 0]),(3,.box [vs aA.Text,vs (ByteArray.mk #[]),vi 0,vi 0,vi 0])]⟩ ?_
 refine az aa ⟨18,[(1,.ref 1 0),(2,.ref 2 0),(3,.ref 3 0)],[(1,.box (tc af aA)),(2,.box [vs (ByteArray.mk #[]),vs (ByteArray.mk #[]),vi 0,vi 0,vi 0]),(3,.box [vs aA.Text,vs aA.Language,vi 0,vi 0,vi 0])]⟩ ?_
 refine az aa ⟨18,[(1,.ref 1 0),(2,.ref 2 0),(3,.ref 3 0)],[(1,.box (tc af aA)),(2,.box [vs (ByteArray.mk #[]),vs (ByteArray.mk #[]),vi 0,vi 0,vi 0]),(3,.box [vs aA.Text,vs aA.Language,vi aA.Status,vi 0,vi 0])]⟩ ?_
 refine sr ?_
 refine ae.ck aa 2 ⟨18,[(2,.ref 2 0),(3,.ref 3 0),(14,.agg (tc bc aA.Years))],[(2,.box [vs (ByteArray.mk #[]),vs (ByteArray.mk #[]),vi 0,vi 0,vi 0]),(3,.box [vs aA.Text,vs aA.Language,vi aA.Status,vi 0,vi 0])]⟩ ?_
 obtain⟨x1,hx1,h⟩:=bind_some h
 refine ae.ls (xc rq (iT aA.Years _ hx1)) ?_
 refine bU aa 2 ⟨18,[(2,.ref 2 0),(3,.ref 3 0)],[(2,.box [vs (ByteArray.mk #[]),vs (ByteArray.mk #[]),vi 0,vi 0,vi 0]),(3,.box [vs aA.Text,vs aA.Language,vi aA.Status,vi x1.From,vi x1.To])]⟩ ?_
 refine az aa ⟨18,[(2,.ref 2 0)],[(2,.box [vs aA.Text,vs aA.Language,vi aA.Status,vi x1.From,vi x1.To])]⟩ ?_
 refine ak ?_
 obtain rfl:=inj h
 exact aD (f1 (fc aa))
theorem zo:a7 Tryz.prog 179:=aw Tryz.func179 (by kernel_rfl) rfl
noncomputable def gW(aA:(List Name)):Option ((List Name)):=
 ((lu (Name.mk (ByteArray.mk #[]) (ByteArray.mk #[]) 0 (Span.mk 0 0)) (aA.length:Int)).bind fun x1=>(((iQ (aA.length:Int) (fun(i4:Int) (s4:(List Name))=>((at' aA i4).bind fun x8=>((gD x8).bind fun x9=>((at' s4 i4).bind fun _=>some (List.set s4 (Int.toNat i4) x9))))) (fun(s4:(List Name))=>s4) 0 x1)).bind fun(j2:(List Name))=>some j2))
theorem nX(aA:(List Name))(r:(List Name))(h:gW aA=some r):aF Tryz.prog 134 [.v (vl af aA)] ⟨[.own 169 5 r.length (r.map af)],[],false⟩:=by
 refine ar Tryz.func134 rfl [(.tmp 2)] rfl (fun r=>⟨[.own 169 5 r.length (r.map af)],[],false⟩) (r:=r) ?_
 unfold gW at h
 refine az aa ⟨23,[(0,vl af aA)],[]⟩ ?_
 refine sr ?_
 refine ae.ck aa 2 ⟨23,[(0,vl af aA),(6,vi (aA.length:Int))],[]⟩ ?_
 obtain⟨x1,hx1,h⟩:=bind_some h
 refine ae.ls (yD (z:=(Name.mk (ByteArray.mk #[]) (ByteArray.mk #[]) 0 (Span.mk 0 0))) (f:=af) (ti:=ej) (tj:=dq) (e:=169) (m:=5) (k:= .i64) (k':= .i64) hx1 aa rfl rfl (zs:=[.string (ByteArray.mk #[]),.string (ByteArray.mk #[]),.int .i64 0,.int .i64 0,.int .i64 0])) ?_
 refine bU aa 1 ⟨23,[(0,vl af aA),(3,.own 7)],[(7,oa 169 5 af x1)]⟩ ?_
 refine ai ?_
 refine az aa ⟨23,[(0,vl af aA),(3,.own 7),(4,vi 0)],[(7,oa 169 5 af x1)]⟩ ?_
 refine bg h (fun j2=>⟨23,[(3,.own 3)],[(3,oa 169 5 af j2)]⟩) (fun v3 h=> ?_) (fun j2 h=> ?_)
 refine ax (a:=v3) ?_
 refine a6 (r:=v3) (s:=(0,x1)) _ (fun s4=>⟨23,[(0,vl af aA),(3,.own 3),(4,vi s4.1)],[(3,oa 169 5 af s4.2)]⟩) _ (Le.rr [7] [(7,3)]) h (fun s4 v5 h=> ?_)
 refine ai ?_
 refine az aa ⟨23,[(0,vl af aA),(3,.own 3),(4,vi s4.1),(11,vb (decide (s4.1<(aA.length:Int))))],[(3,oa 169 5 af s4.2)]⟩ ?_
 refine aq h (fun h=> ?_) fun h=> ?_
 refine an ?_
 refine a8 ?_
 refine ai ?_
 refine bg h (fun j6=>⟨23,[(0,vl af aA),(3,.own 3),(4,vi s4.1)],[(3,oa 169 5 af j6)]⟩) (fun v7 h=> ?_) (fun j6 h=> ?_)
 refine ax (a:=v7) ?_
 refine aE ?_
 refine ae.ck aa 4 ⟨23,[(0,vl af aA),(3,.own 3),(4,vi s4.1),(14,.own 3),(15,vi s4.1),(16,vl af aA),(17,vi s4.1)],[(3,oa 169 5 af s4.2)]⟩ ?_
 obtain⟨x8,hx8,h⟩:=bind_some h
 refine ae.ls (aG (L:=aA) (f:=af) (ti:=Bm) (tj:=yq) (e:=190) (k:= .i64) aa rfl hx8) ?_
 refine ae.ck aa 1 ⟨23,[(0,vl af aA),(3,.own 3),(4,vi s4.1),(14,.own 3),(15,vi s4.1),(19,.agg (tc af x8))],[(3,oa 169 5 af s4.2)]⟩ ?_
 obtain⟨x9,hx9,h⟩:=bind_some h
 refine ae.ls (xc zo (oY x8 _ hx9)) ?_
 obtain⟨x10,hx10,h⟩:=bind_some h
 refine ae.ls (bX (d:=3) (L:=s4.2) (f:=af) (ti:=ej) (tj:=dq) (e:=169) (e':=169) (m:=5) (k:= .i64) aa rfl hx10) ?_
 refine ae.cf (iO (d:=3) (m:=5) (j:=0) (L:=s4.2) (f:=af) (x:=x9) (z:=x10) (ti:=dq) (e:=169) (ts:=[.str x9.Text,.str x9.Language,.int .i64 x9.Status,.int .i64 x9.Years.From,.int .i64 x9.Years.To]) (vs:=[vs x9.Text,vs x9.Language,vi x9.Status,vi x9.Years.From,vi x9.Years.To]) (v:= .agg (tc af x9)) aa rfl rfl hx10) ?_
 refine ae.nil ?_
 obtain rfl:=inj h
 exact bY (fO (Le.ao))
 refine aE ?_
 refine ae.ck aa 3 ⟨23,[(0,vl af aA),(3,.own 3),(4,vi (aZ (s4.1+1)))],[(3,oa 169 5 af j6)]⟩ ?_
 refine ae.nil ?_
 obtain rfl:=inj h
 exact cb (Le.ao)
 refine aO ?_
 obtain rfl:=inj h
 exact cH (cJ (cI (fO (Le.ao))))
 refine az aa ⟨23,[(2,.own 3)],[(3,oa 169 5 af j2)]⟩ ?_
 refine ak ?_
 obtain rfl:=inj h
 exact aD (f1 (fo bu))
theorem y7:a7 Tryz.prog 134:=aw Tryz.func134 (by kernel_rfl) rfl
noncomputable def fL(aA:Place):Option (Place):=
 ((fm aA.Years).bind fun x1=>((gW aA.Names).bind fun x2=>some (Place.mk aA.Code aA.Class x1 x2)))
theorem nY(aA:Place)(r:Place)(h:fL aA=some r):aF Tryz.prog 75 [.v (.agg (tc ab aA))] ⟨[.part [vs r.Code,vi r.Class,vi r.Years.From,vi r.Years.To] [] (oa 169 5 af r.Names)],[],false⟩:=by
 refine ar Tryz.func75 rfl [(.cell 2 91)] rfl (fun r=>⟨[.part [vs r.Code,vi r.Class,vi r.Years.From,vi r.Years.To] [] (oa 169 5 af r.Names)],[],false⟩) (r:=r) ?_
 unfold fL at h
 refine az aa ⟨19,[(1,.ref 1 0),(2,.ref 2 0)],[(1,.box (tc ab aA)),(2,.box [vs (ByteArray.mk #[]),vi 0,vi 0,vi 0,vl af ([]:List Name)])]⟩ ?_
 refine az aa ⟨19,[(1,.ref 1 0),(2,.ref 2 0),(3,.ref 3 0)],[(1,.box (tc ab aA)),(2,.box [vs (ByteArray.mk #[]),vi 0,vi 0,vi 0,vl af ([]:List Name)]),(3,.box [vs (ByteArray.mk #[]),vi 0,vi 0,vi 0,vl af ([]:List Name)])]⟩ ?_
 refine az aa ⟨19,[(1,.ref 1 0),(2,.ref 2 0),(3,.ref 3 0)],[(1,.box (tc ab aA)),(2,.box [vs (ByteArray.mk #[]),vi 0,vi 0,vi 0,vl af ([]:List Name)]),(3,.box [vs aA.Code,vi 0,vi 0,vi 0,vl af ([]:List Name)])]⟩ ?_
 refine az aa ⟨19,[(1,.ref 1 0),(2,.ref 2 0),(3,.ref 3 0)],[(1,.box (tc ab aA)),(2,.box [vs (ByteArray.mk #[]),vi 0,vi 0,vi 0,vl af ([]:List Name)]),(3,.box [vs aA.Code,vi aA.Class,vi 0,vi 0,vl af ([]:List Name)])]⟩ ?_
 refine sr ?_
 refine ae.ck aa 2 ⟨19,[(1,.ref 1 0),(2,.ref 2 0),(3,.ref 3 0),(11,.agg (tc bc aA.Years))],[(1,.box (tc ab aA)),(2,.box [vs (ByteArray.mk #[]),vi 0,vi 0,vi 0,vl af ([]:List Name)]),(3,.box [vs aA.Code,vi aA.Class,vi 0,vi 0,vl af ([]:List Name)])]⟩ ?_
 obtain⟨x1,hx1,h⟩:=bind_some h
 refine ae.ls (xc rq (iT aA.Years _ hx1)) ?_
 refine bU aa 2 ⟨19,[(1,.ref 1 0),(2,.ref 2 0),(3,.ref 3 0)],[(1,.box (tc ab aA)),(2,.box [vs (ByteArray.mk #[]),vi 0,vi 0,vi 0,vl af ([]:List Name)]),(3,.box [vs aA.Code,vi aA.Class,vi x1.From,vi x1.To,vl af ([]:List Name)])]⟩ ?_
 refine sr ?_
 refine ae.ck aa 2 ⟨19,[(2,.ref 2 0),(3,.ref 3 0),(15,vl af aA.Names)],[(2,.box [vs (ByteArray.mk #[]),vi 0,vi 0,vi 0,vl af ([]:List Name)]),(3,.box [vs aA.Code,vi aA.Class,vi x1.From,vi x1.To,vl af ([]:List Name)])]⟩ ?_
 obtain⟨x2,hx2,h⟩:=bind_some h
 refine ae.ls (xc y7 (nX aA.Names _ hx2)) ?_
 refine bU aa 2 ⟨19,[(2,.ref 2 0),(3,.ref 3 0)],[(2,.box [vs (ByteArray.mk #[]),vi 0,vi 0,vi 0,vl af ([]:List Name)]),(3,.box [vs aA.Code,vi aA.Class,vi x1.From,vi x1.To,.own 16]),(16,oa 169 5 af x2)]⟩ ?_
 refine az aa ⟨19,[(2,.ref 2 0)],[(2,.box [vs aA.Code,vi aA.Class,vi x1.From,vi x1.To,.own 16]),(16,oa 169 5 af x2)]⟩ ?_
 refine ak ?_
 obtain rfl:=inj h
 exact aD (f1 (zM (d:=16) [vs aA.Code,vi aA.Class,vi x1.From,vi x1.To] [] (dg aa (d:=2) (cs:=[vs aA.Code,vi aA.Class,vi x1.From,vi x1.To,.own 16]) (ti:=cD) (by kernel_rfl) (by kernel_rfl) (by kernel_rfl) (by kernel_rfl)) (by kernel_rfl) (b9 bu _) rfl rfl SV.dW SV.dW (by kernel_rfl)))
theorem AZ:a7 Tryz.prog 75:=aw Tryz.func75 (by kernel_rfl) rfl
end Go.Proofs.YtdejeagdkfokfaaGreatDoor.Sh
