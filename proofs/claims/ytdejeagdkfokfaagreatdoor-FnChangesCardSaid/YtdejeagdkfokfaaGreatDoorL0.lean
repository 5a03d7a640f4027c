/- Loops as folds, under an invariant; no condition. -/
import Derived.Test.YtdejeagdkfokfaaGreatDoorSB
namespace Go.Proofs.YtdejeagdkfokfaaGreatDoor.Sh
open Go.RowKit
section
variable {S A α : Type}
theorem nt{body:α→Option (α⊕A)}(I:α→Prop)(μ:α→Nat)(Q:A→Prop)
  (h: ∀s,I s→(∃s',body s=some (.inl s')∧I s'∧μ s'<μ s)∨ ∃r,body s=some (.inr r)∧Q r) {s:α} (hs:I s): ∃r,loop body s=some r∧Q r:=by
 generalize hm:μ s=m
 induction m using Nat.strongRecOn generalizing s with
 | _ m ih=>
  rcases h s hs with⟨s',h1,h2,h3⟩ | ⟨r,h1,h2⟩
  ·rw[dz,h1]
   exact ih _ (by omega) h2 rfl
  ·rw[dz,h1]
   exact⟨r,rfl,h2⟩
theorem sb{β:Type}{n:Nat}(N:Nat)(hn:n≤1000000)(_hN:N≤1000000000){B:Int→List β→Option (List β)}{D:List β→A}(f:Nat→List β)(hf: ∀i,(f i).length≤1)(s:List β)(hs:s.length+n≤N)(h: ∀(i:Nat) (s:List β),i<n→s.length≤N→B (i:Int) s=some (s++f i)):jH (n:Int) B D 0 s=some (D (s++(List.range n).flatMap f)):=by
 have key: ∀(m k:Nat) (s:List β),s.length+m≤N→k+m≤n→jm (fun i s=>(B (i:Int) s).map .inl) D m k s=some (D (s++(List.range' k m).flatMap f)):=by
  intro m
  induction m with
  | zero=>intro k s _ _;simp[jm]
  | succ m ih=>
   intro k s h1 h2
   unfold jm
   rw[h k s (by omega) (by omega)]
   show jm _ D m (k+1) (s++f k)=_
   have:=hf k
   rw[ih (k+1) _ (by rw[List.length_append];omega) (by omega),List.range'_succ,List.flatMap_cons,List.append_assoc]
 rw[nO,lZ n (by omega),List.range_eq_range']
 exact key n 0 s hs (by omega)
end
theorem nT{α:Type}{L:List α}{l h:Int}(h0:0≤l)(h1:l≤h)(h2:h≤L.length):mW L l h=some ((L.drop l.toNat).take (h.toNat - l.toNat)):=by
 unfold mW
 rw[if_pos ⟨h0,h1,h2⟩]
end Go.Proofs.YtdejeagdkfokfaaGreatDoor.Sh
