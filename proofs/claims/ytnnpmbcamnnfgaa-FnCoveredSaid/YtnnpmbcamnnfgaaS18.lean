/- The rules as the printed walks use them. -/
import Derived.Test.YtnnpmbcamnnfgaaS17
namespace Go.Proofs.Ytnnpmbcamnnfgaa.Sh
open Go.RowKit
def QJ {J : Type} (σJ : J → SS) (j : J) (e : Exit) (s : SS) : Prop := e = .normal ∧ Le s (σJ j)
def QE {J A : Type} (σJ : J → SS) (QA : A → Exit → SS → Prop) : J ⊕ A → Exit → SS → Prop
  | .inl j, e, s => e = .normal ∧ Le s (σJ j)
  | .inr a, e, s => e ≠ .normal ∧ QA a e s
def QB {A : Type} (id : Nat) (QA : A → Exit → SS → Prop) (a : A) : Exit → SS → Prop := atB id (QA a)
def QF {R : Type} (P : Program) (rs : List ResultVar) (ins : List SIn) (res : R → SRes) (r : R) (e : Exit) (s : SS) : Prop := (e = .normal ∨ e = .ret) ∧ FinR P rs ins (res r) s
theorem bind_some {α β : Type} {x : Option α} {f : α → Option β} {r : β} (h : x.bind f = some r) : ∃ y, x = some y ∧ f y = some r := Option.bind_eq_some_iff.1 h
theorem cond_t {α : Type} {b : Bool} {x y z : α} (hb : b = true) (h : cond b x y = z) : x = z := by subst hb; exact h
theorem cond_f {α : Type} {b : Bool} {x y z : α} (hb : b = false) (h : cond b x y = z) : y = z := by subst hb; exact h
section
variable {P : Program} {tb : Tb} {A J : Type} {QA : A → Exit → SS → Prop} {Q : Exit → SS → Prop} {σ σ1 s : SS} {σJ : J → SS} {a : A} {j : J} {e : Exit} {id i : Nat} {x y z : Code} {ops : Array Oper}
theorem q_j (h : Le s (σJ j)) : QJ σJ j .normal s := ⟨rfl, h⟩
theorem q_l (h : Le s (σJ j)) : QE σJ QA (.inl j) .normal s := ⟨rfl, h⟩
theorem q_rr (h : QA a .ret s) : QE σJ QA (.inr a) .ret s := ⟨by simp, h⟩
theorem q_re (h : QA a (.exit i) s) : QE σJ QA (.inr a) (.exit i) s := ⟨by simp, h⟩
theorem q_bn (h : QA a .normal s) : QB id QA a .normal s := h
theorem q_br (h : QA a .ret s) : QB id QA a .ret s := h
theorem q_bh (h : QA a .normal s) : QB id QA a (.exit id) s := by
  unfold QB atB
  simpa using h
theorem q_bm (hi : (i == id) = false) (h : QA a (.exit i) s) : QB id QA a (.exit i) s := by
  unfold QB atB
  simp only [beq_eq_false_iff_ne, ne_eq] at hi
  simpa [hi] using h
theorem q_fr {R : Type} {rs : List ResultVar} {ins : List SIn} {res : R → SRes} {r : R} (h : FinR P rs ins (res r) s) : QF P rs ins res r .ret s := ⟨.inr rfl, h⟩
theorem q_fn {R : Type} {rs : List ResultVar} {ins : List SIn} {res : R → SRes} {r : R} (h : FinR P rs ins (res r) s) : QF P rs ins res r .normal s := ⟨.inl rfl, h⟩

theorem nx_n {k : SS → Prop} (h : k s) : nx k Q .normal s := h
theorem nx_r {k : SS → Prop} (h : Q .ret s) : nx k Q .ret s := h
theorem nx_e {k : SS → Prop} (h : Q (.exit i) s) : nx k Q (.exit i) s := h
theorem swp_blk (h : swp P x (QB id QA a) σ) : swp P (.block id x) (QA a) σ := swp_block h
/-- A region, what follows behind it. -/
theorem swp_reg (h : SRun P ops ops.toList (fun s => Q .normal s) σ) : swp P (.region id ops false) Q σ := swp_region h fun _ h => h
theorem swp_dr (hm : P.follows .mixedOrders = true) (h : DGo P ops σ (fun s => Q .normal s) [] σ ops.toList) : swp P (.region id ops true) Q σ := swp_drawn hm h fun _ h => h
/-- A region whose ways meet again. -/
theorem swp_regJ {m : Option J} {B : Type} {k : J → Option B} {r : B} (h : m.bind k = some r) (σJ : J → SS) (h1 : ∀ v, m = some v → SRun P ops ops.toList (fun s => Le s (σJ v)) σ) (h2 : ∀ v, k v = some r → swp P y Q (σJ v)) : swp P (.region id ops false) (nx (swp P y Q) Q) σ := by
  obtain ⟨v, hv, hk⟩ := bind_some h
  exact swp_region (h1 v hv) fun s hs => swp_le hs (h2 v hk)
theorem swp_regP (σ1 : SS) (h1 : SRun P ops ops.toList (fun s => Le s σ1) σ) (h2 : swp P y Q σ1) : swp P (.region id ops false) (nx (swp P y Q) Q) σ := swp_region h1 fun s hs => swp_le hs h2
theorem swp_drJ (hm : P.follows .mixedOrders = true) {m : Option J} {B : Type} {k : J → Option B} {r : B} (h : m.bind k = some r) (σJ : J → SS) (h1 : ∀ v, m = some v → DGo P ops σ (fun s => Le s (σJ v)) [] σ ops.toList) (h2 : ∀ v, k v = some r → swp P y Q (σJ v)) : swp P (.region id ops true) (nx (swp P y Q) Q) σ := by
  obtain ⟨v, hv, hk⟩ := bind_some h
  exact swp_drawn hm (h1 v hv) fun s hs => swp_le hs (h2 v hk)
theorem swp_drP (hm : P.follows .mixedOrders = true) (σ1 : SS) (h1 : DGo P ops σ (fun s => Le s σ1) [] σ ops.toList) (h2 : swp P y Q σ1) : swp P (.region id ops true) (nx (swp P y Q) Q) σ := swp_drawn hm h1 fun s hs => swp_le hs h2
/-- A piece whose ways meet again, and none of which leaves. -/
theorem swp_seqJ {m : Option J} {B : Type} {k : J → Option B} {r : B} (h : m.bind k = some r) (σJ : J → SS) (h1 : ∀ v, m = some v → swp P x (QJ σJ v) σ) (h2 : ∀ v, k v = some r → swp P y Q (σJ v)) : swp P x (nx (swp P y Q) Q) σ := by
  obtain ⟨v, hv, hk⟩ := bind_some h
  exact swp_mono (h1 v hv) fun e s ⟨he, hs⟩ => by subst he; exact swp_le hs (h2 v hk)
/-- A piece some of whose ways meet again, others leave. -/
theorem swp_seqE {m : Option (J ⊕ A)} {k : J → Option A} {r : A} (h : m.bind (Sum.elim k some) = some r) (σJ : J → SS) (h1 : ∀ v, m = some v → swp P x (QE σJ QA v) σ) (h2 : ∀ v, k v = some r → swp P y (QA r) (σJ v)) : swp P x (nx (swp P y (QA r)) (QA r)) σ := by
  obtain ⟨v, hv, hk⟩ := bind_some h
  cases v with
  | inl j =>
    exact swp_mono (h1 _ hv) fun e s ⟨he, hs⟩ => by subst he; exact swp_le hs (h2 j hk)
  | inr r' =>
    injection hk with hk
    subst hk
    refine swp_mono (h1 _ hv) fun e s ⟨he, hs⟩ => ?_
    cases e with
    | normal => exact absurd rfl he
    | _ => exact hs
/-- A loop. -/
theorem swp_lp {α : Type} (body : α → Option (α ⊕ A)) (st : α → SS) (QA : A → Exit → SS → Prop) {s : α} {r : A} (h : loop body s = some r) (hb : ∀ s x, body s = some x → swp P y (QE st QA x) (st s)) : swp P (.loop y) (QA r) (st s) :=
  swp_loop body st QA (fun s x hx => by
    have := hb s x hx
    cases x <;> exact this) h
theorem swp_lpL {α : Type} (body : α → Option (α ⊕ A)) (st : α → SS) (QA : A → Exit → SS → Prop) {s : α} {r : A} (hl : Le σ (st s)) (h : loop body s = some r) (hb : ∀ s x, body s = some x → swp P y (QE st QA x) (st s)) : swp P (.loop y) (QA r) σ :=
  swp_le hl (swp_lp body st QA h hb)
/-- Two ways inside a region. -/
theorem SRun.split {todo : List Oper} (b : Bool) (σf : Bool → SS) (Qf : Bool → SS → Prop) (p : Bool → Prop) (h : p b) (h1 : p true → SRun P ops todo (Qf true) (σf true)) (h2 : p false → SRun P ops todo (Qf false) (σf false)) : SRun P ops todo (Qf b) (σf b) := by
  cases b
  · exact h2 h
  · exact h1 h
theorem DGo.split {todo : List Oper} {σ0 : SS} (b : Bool) (σf : Bool → SS) (Qf : Bool → SS → Prop) (df : Bool → List (Oper × RV)) (p : Bool → Prop) (h : p b) (h1 : p true → DGo P ops σ0 (Qf true) (df true) (σf true) todo) (h2 : p false → DGo P ops σ0 (Qf false) (df false) (σf false) todo) : DGo P ops σ0 (Qf b) (df b) (σf b) todo := by
  cases b
  · exact h2 h
  · exact h1 h
theorem scall_intro' {f : FuncId} {fn : Func} {code : Code} (hf : P.funcs[f]? = some fn) (hb : fn.body = some code) (rs : List ResultVar) (hr : fn.results = rs.toArray) {ins : List SIn} (hn : Nat.ble ins.length fn.ntmps = true) (hnn : Nat.ble fn.ntmps 1000000 = true) (hnm : insNames ins = []) {R : Type} (res : R → SRes) {r : R}
    (h : swp P code (QF P rs ins res r) (Sh.start fn.ntmps ins)) : SCall P f ins (res r) := scall_intro hf hb rs hr (by simpa using hn) (by simpa using hnn) hnm h
theorem swp_fun {R : Type} {rs : List ResultVar} {ins : List SIn} (res : R → SRes) {r : R} {c : Code} (h : swp P c (QF P rs ins res r) σ) : swp P c (fun e s => (e = .normal ∨ e = .ret) ∧ FinR P rs ins (res r) s) σ := h
def dDone (tb : Tb) (ops : Array Oper) (o0 : List (Nat × SO)) (n : Nat) (done : List (Oper × RV)) (σ : SS) (todo : List Oper) : List (Oper × RV) := match dseqN tb ops o0 n done σ todo with
  | some (d, _) => d
  | none => done
theorem DGo.chunk' (hP : TbOk P tb) {σ0 : SS} {K : SS → Prop} (n : Nat) {done : List (Oper × RV)} {todo : List Oper} {σ σ' : SS} (h : (dseqN tb ops σ0.o n done σ todo).map (·.2) = some σ') (k : DGo P ops σ0 K (dDone tb ops σ0.o n done σ todo) σ' (todo.drop n)) : DGo P ops σ0 K done σ todo := by
  rcases hd : dseqN tb ops σ0.o n done σ todo with _ | ⟨d, s⟩
  · rw [hd] at h; cases h
  · rw [hd] at h
    injection h with h
    simp only at h
    subst h
    refine DGo.chunk hP n hd ?_
    unfold dDone at k
    rw [hd] at k
    exact k
/-- A part of a state. -/
def subB {α : Type} (k : List Nat) (l : List (Nat × α)) : List (Nat × α) := k.filterMap fun i => (find i l).map fun v => (i, v)
theorem subB_mem {α : Type} {k : List Nat} {l : List (Nat × α)} {p : Nat × α} (h : p ∈ subB k l) : p ∈ l := by
  obtain ⟨i, _, h2⟩ := List.mem_filterMap.1 h
  rw [Option.map_eq_some_iff] at h2
  obtain ⟨v, h3, rfl⟩ := h2
  exact mem_of_find h3
theorem Le.sub' {σ : SS} (t : List (Nat × SV)) (o : List (Nat × SO)) (ht : subB (t.map (·.1)) σ.t = t) (ho : subB (o.map (·.1)) σ.o = o) : Le σ ⟨σ.n, t, o⟩ := Le.sub rfl (fun p hp => subB_mem (k := t.map (·.1)) (by rw [ht]; exact hp)) fun p hp => subB_mem (k := o.map (·.1)) (by rw [ho]; exact hp)
def minI (x y : Int) : Int := if y < x then y else x
def maxI (x y : Int) : Int := if y > x then y else x
theorem Le.ren' {σ : SS} {d e : Nat} (hd : Nat.blt d σ.n = true) (he : Nat.blt e σ.n = true) (hf : σ.names.contains e = false) : Le σ (σ.ren d e) := Le.ren (by simpa using hd) (by simpa using he) hf
theorem Le.frz' {σ : SS} {d e m n : Nat} {es : List (List Tr)} (hd : Nat.blt d σ.n = true) (hf : find d σ.o = some (.arr e m n es)) : Le σ (σ.frz d n es) := Le.frz (by simpa using hd) hf
theorem estep_store' (hP : TbOk P tb) {o : Oper} {t : Nat} {x y : Operand} (ho : o.op = .store t x y) (hdst : o.dst = none) (hgd : gd ops σ o = some true) {ti : TI} {d k : Nat} {cs vs : List SV} {v : SV} (ht : find t tb = some ti) (hx : ev σ x = some (.ref d k)) (hob : find d σ.o = some (.box cs))
    (hy : ev σ y = some v) (hc : v.cells = some vs) (hone : vs.all (cellOk σ) = true) (hl : vs.length = ti.size) (hk : Nat.ble (k + vs.length) cs.length = true) :
    EStep P ops o σ { σ with o := (d, .box (cs.take k ++ vs ++ cs.drop (k + vs.length))) :: σ.o.filter (fun p => p.1 != d) } := estep_store hP ho hdst hgd ht hx hob hy hc hone hl (by simpa using hk)
/-! Results -/
def noO : List SIn → Bool
  | [] => true
  | .v _ :: r => noO r
  | .o _ :: _ => false
theorem noO_ok : ∀ {ins : List SIn}, noO ins = true → ∀ (j : Nat) x, ins[j]? = some (SIn.o x) → False
  | [], _, j, x, h => by simp at h
  | .v _ :: r, hn, 0, x, h => by simp at h
  | .v _ :: r, hn, j + 1, x, h => noO_ok (ins := r) hn j x (by simpa using h)
  | .o _ :: r, hn, _, _, _ => by cases hn
theorem fin0 {ins : List SIn} (hn : noO ins = true) {dep : Bool} : FinR P [] ins ⟨[], [], dep⟩ s :=
  ⟨rfl, fun i t r h => by simp at h, fun j x h => by simp at h, fun j x h => (noO_ok hn j x h).elim⟩
theorem fin1 {ins : List SIn} (hn : noO ins = true) {dep : Bool} {t : ResultVar} {r : SR} (h : FinS P s dep t r) : FinR P [t] ins ⟨[r], [], dep⟩ s :=
  ⟨rfl, fun i t' r' h1 h2 => by
    cases i with
    | zero => simp at h1 h2; subst h1 h2; exact h
    | succ i => simp at h1, fun j x h => by simp at h, fun j x h => (noO_ok hn j x h).elim⟩
theorem fin2 {ins : List SIn} (hn : noO ins = true) {dep : Bool} {t u : ResultVar} {r q : SR} (h : FinS P s dep t r) (k : FinS P s dep u q) : FinR P [t, u] ins ⟨[r, q], [], dep⟩ s :=
  ⟨rfl, fun i t' r' h1 h2 => by
    match i with
    | 0 => simp at h1 h2; subst h1 h2; exact h
    | 1 => simp at h1 h2; subst h1 h2; exact k
    | i + 2 => simp at h1, fun j x h => by simp at h, fun j x h => (noO_ok hn j x h).elim⟩
theorem fin3 {ins : List SIn} (hn : noO ins = true) {dep : Bool} {t u v : ResultVar} {r q p : SR} (h : FinS P s dep t r) (k : FinS P s dep u q) (l : FinS P s dep v p) : FinR P [t, u, v] ins ⟨[r, q, p], [], dep⟩ s :=
  ⟨rfl, fun i t' r' h1 h2 => by
    match i with
    | 0 => simp at h1 h2; subst h1 h2; exact h
    | 1 => simp at h1 h2; subst h1 h2; exact k
    | 2 => simp at h1 h2; subst h1 h2; exact l
    | i + 3 => simp at h1, fun j x h => by simp at h, fun j x h => (noO_ok hn j x h).elim⟩
theorem holds_t {t : Nat} {x : SV} (h : find t s.t = some x) : Holds P s x (.tmp t) := mem_of_find h
theorem holds_c (hP : TbOk P tb) {t T d : Nat} {x : SV} {cs : List SV} {ti : TI} (ht : find T tb = some ti) (h : find t s.t = some (.ref d 0)) (ho : find d s.o = some (.box cs)) (hl : ldc ti cs 0 = some x) : Holds P s x (.cell t T) := ⟨d, cs, ti, mem_of_find h, mem_of_find ho, find_ti hP ht, hl⟩
theorem finV {t : ResultVar} {x : SV} (hn : x.names = []) (hf : x.Flat) (h : Holds P s x t) {dep : Bool} : FinS P s dep t (.v x) := ⟨hn, .inr hf, h⟩
theorem finT {t : ResultVar} {x : SV} (hn : x.names = []) (h : Holds P s x t) : FinS P s true t (.v x) := ⟨hn, .inl rfl, h⟩
theorem finO {t : ResultVar} {d e m n : Nat} {es : List (List Tr)} (h : Holds P s (.own d) t) (ho : find d s.o = some (.arr e m n es)) (hf : FlatE es) (hd : Nat.blt d s.n = true) {dep : Bool} : FinS P s dep t (.own e m n es) := ⟨d, h, mem_of_find ho, .inr hf, by simpa using hd⟩
theorem finOT {t : ResultVar} {d e m n : Nat} {es : List (List Tr)} (h : Holds P s (.own d) t) (ho : find d s.o = some (.arr e m n es)) (hd : Nat.blt d s.n = true) : FinS P s true t (.own e m n es) := ⟨d, h, mem_of_find ho, .inl rfl, by simpa using hd⟩
theorem flat_map {α : Type} {f : α → List Tr} (hf : ∀ x, ∀ t ∈ f x, t.flat = true) (L : List α) : FlatE (L.map f) := fun x hx t ht => by
  obtain ⟨y, _, rfl⟩ := List.mem_map.1 hx
  exact hf y t ht
/-! Typed readings -/
def eI (k : IntKind) (x : Int) : List Tr := [.int k x]
def eB (x : Bool) : List Tr := [.bool x]
def eS (x : ByteArray) : List Tr := [.str x]
def eL {α : Type} (f : α → List Tr) (x : List α) : List Tr := [.sl x.length (x.map f)]
theorem eI_flat (k : IntKind) (x : Int) : ∀ t ∈ eI k x, t.flat = true := by simp [eI, Tr.flat]
theorem eB_flat (x : Bool) : ∀ t ∈ eB x, t.flat = true := by simp [eB, Tr.flat]
theorem eS_flat (x : ByteArray) : ∀ t ∈ eS x, t.flat = true := by simp [eS, Tr.flat]
def w64 (n : Int) : Int := IntKind.i64.wrap n
/-- An element, where there is one. -/
def at' {α : Type} (L : List α) (i : Int) : Option α := if 0 ≤ i then L[i.toNat]? else none
theorem at_some {α : Type} {L : List α} {i : Int} {x : α} (h : at' L i = some x) : 0 ≤ i ∧ L[i.toNat]? = some x := by
  unfold at' at h
  split at h
  · exact ⟨by assumption, h⟩
  · cases h
theorem map_get {α : Type} {L : List α} {i : Nat} {x : α} (f : α → List Tr) (h : L[i]? = some x) : (L.map f)[i]? = some (f x) := by rw [List.getElem?_map, h]; rfl
/-- A list made longer, where it may. -/
def app' {α : Type} (L M : List α) : Option (List α) := if L.length + M.length ≤ 68719476736 then some (L ++ M) else none
theorem app_some {α : Type} {L M R : List α} (h : app' L M = some R) : L.length + M.length ≤ 68719476736 ∧ R = L ++ M := by
  unfold app' at h
  split at h
  · injection h with h; exact ⟨by assumption, h.symm⟩
  · cases h
def cat' (s r : ByteArray) : Option ByteArray := if s.size + r.size ≤ 9223372036854775807 then some (s ++ r) else none
theorem cat_some {s r q : ByteArray} (h : cat' s r = some q) : s.size + r.size ≤ 9223372036854775807 ∧ q = s ++ r := by
  unfold cat' at h
  split at h
  · injection h with h; exact ⟨by assumption, h.symm⟩
  · cases h
def byte' (s : ByteArray) (i : Int) : Option Int := if 0 ≤ i then (s[i.toNat]?).map fun b => (b.toNat : Int) else none
theorem byte_some {s : ByteArray} {i x : Int} (h : byte' s i = some x) : 0 ≤ i ∧ ∃ b : UInt8, s[i.toNat]? = some b ∧ x = b.toNat := by
  unfold byte' at h
  split at h
  · rw [Option.map_eq_some_iff] at h
    obtain ⟨b, h1, h2⟩ := h
    exact ⟨by assumption, b, h1, h2.symm⟩
  · cases h
def part' {α : Type} (L : List α) (l h : Int) : Option (List α) := if 0 ≤ l ∧ l ≤ h ∧ h ≤ L.length then some ((L.drop l.toNat).take (h.toNat - l.toNat)) else none
theorem part_some {α : Type} {L R : List α} {l h : Int} (hp : part' L l h = some R) : 0 ≤ l ∧ l ≤ h ∧ h ≤ L.length ∧ R = (L.drop l.toNat).take (h.toNat - l.toNat) := by
  unfold part' at hp
  split at hp
  · rename_i hh
    injection hp with hp; exact ⟨hh.1, hh.2.1, hh.2.2, hp.symm⟩
  · cases hp
def sub' (s : ByteArray) (l h : Int) : Option ByteArray := if 0 ≤ l ∧ l ≤ h ∧ h ≤ s.size then some (s.extract l.toNat h.toNat) else none
theorem sub_some {s r : ByteArray} {l h : Int} (hp : sub' s l h = some r) : 0 ≤ l ∧ l ≤ h ∧ h ≤ s.size ∧ r = s.extract l.toNat h.toNat := by
  unfold sub' at hp
  split at hp
  · rename_i hh
    injection hp with hp; exact ⟨hh.1, hh.2.1, hh.2.2, hp.symm⟩
  · cases hp
def set' {α : Type} (L : List α) (i : Int) (x : α) : Option (List α) := if 0 ≤ i ∧ i < L.length then some (L.set i.toNat x) else none
theorem set_some {α : Type} {L R : List α} {i : Int} {x : α} (h : set' L i x = some R) : 0 ≤ i ∧ i < L.length ∧ R = L.set i.toNat x := by
  unfold set' at h
  split at h
  · rename_i hh
    injection h with h; exact ⟨hh.1, hh.2, h.symm⟩
  · cases h
def make' {α : Type} (z : α) (n : Int) : Option (List α) := if 0 ≤ n ∧ n ≤ 68719476736 then some (List.replicate n.toNat z) else none
end
end Go.Proofs.Ytnnpmbcamnnfgaa.Sh
