/- The frame: what lies below stands; blocks that may change; strings as values; appending to a row of its own. Trees of nodes in memory: no program here. -/
import Derived.WalkKit
import Derived.Test.YtccmhhmdenfecaaGreatDoorTv
import Derived.WalkLawsBesides
import Derived.WalkSpells
import Derived.Handy
import Derived.Lib.SlBytesRow
import Derived.Lib.Hide
import Derived.Laws.EntriesVeiled
import Derived.Deep.QuietTactic
import Derived.BigQuiet
import Derived.Deep.RegionWith
import Derived.Deep.DeepFit
import Derived.Deep.DeepMust
import Derived.Deep.DeepCutAuto
import Derived.Deep.LoopGhost
import Derived.Test.YtccmhhmdenfecaaGreatDoorProg
import Derived.Laws.OwnMore
import Derived.Deep.RegionLaw
import Derived.Laws.AppendOwn
import Derived.Laws.AppendOwnNone
import Derived.Laws.Rows
namespace Go.Proofs.YtccmhhmdenfecaaGreatDoor
set_option linter.unusedVariables false
set_option linter.unusedSimpArgs false
set_option linter.unusedSectionVars false
section
section
open Go.RowKit
/-- What is below reads as before: the rules for the walk behind a call that makes memory. -/
theorem bcell {W w1 : World} (hb : Below W.heap.size W w1) : (∀ b o, b < W.heap.size → w1.cell? ⟨b, o, none⟩ = W.cell? ⟨b, o, none⟩) ∧ (∀ b o, b < W.heap.size → w1.frozen? ⟨b, o, none⟩ = W.frozen? ⟨b, o, none⟩) ∧ (∀ b, b < W.heap.size → b < w1.heap.size) :=
  ⟨fun b o h => hb.cell (p := ⟨b, o, none⟩) h, fun b o h => hb.frozen (p := ⟨b, o, none⟩) h, fun b h => Nat.lt_of_lt_of_le h hb.size⟩
theorem below_call {B : Nat} {w w0 w1 : World} (h : Below w0.heap.size w0 w1) (h0 : Below B w w0) (hB : B ≤ w0.heap.size) : Below B w w1 := h0.trans (h.mono hB)
theorem zb0 (B : Nat) (w : World) : Below B w w := Below.refl B w
theorem zb1 {B : Nat} {a w : World} (h : Below B a w) (hB : B ≤ w.heap.size) (o : Obj) : Below B a (w.alloc o) := h.alloc hB o
theorem zb2 {B : Nat} {a w : World} (h : Below B a w) : Below B a w.drew := h.drew
theorem zb3 {B : Nat} {a w : World} (h : Below B a w) (k : Nat) : Below B a (w.drewN k) := below_drewN h k
theorem zb4 {B : Nat} {a w : World} (h : Below B a w) {p : Addr} (hp : B ≤ p.block) (u : Value) : Below B a (w.setCell p u) := h.setCell hp u
theorem zb5 {B : Nat} {w w0 w1 : World} (h : Below w0.heap.size w0 w1) (h0 : Below B w w0) (hB : B ≤ w0.heap.size) : Below B w w1 := below_call h h0 hB
theorem zb6 (n : Nat) : n ≤ n := Nat.le_refl n
theorem zsz : (∀ (w : World) (o : Obj), (w.alloc o).heap.size = w.heap.size + 1) ∧ (∀ (w : World) (a : Addr) (v : Value), (w.setCell a v).heap.size = w.heap.size) ∧ (∀ w : World, w.drew.heap.size = w.heap.size) :=
  ⟨fun _ _ => by simp only [World.size_alloc], fun _ _ _ => by simp only [World.size_setCell], fun _ => by simp only [World.size_drew]⟩
theorem zdz : (∀ w : World, w.drew.heap.size = w.heap.size) ∧ (∀ (w : World) (a : Addr), w.drew.cell? a = w.cell? a) ∧ (∀ (w : World) (a : Addr), w.drew.frozen? a = w.frozen? a) :=
  ⟨fun _ => by simp only [World.size_drew], fun _ _ => by simp only [World.cell?_drew], fun _ _ => by simp only [World.frozen?_drew]⟩
/-- Any fact that the walk's bounds and frames close by themselves: its one hypothesis is proved at the place of use. -/
theorem zw {p : Prop} (h : p := by (repeat' first | (with_reducible first | exact zb0 _ _ | assumption | refine zb1 ?_ ?_ _ | refine zb2 ?_ | refine zb3 ?_ _ | refine zb4 ?_ ?_ _ | refine zb5 (by assumption) ?_ ?_ | exact zb6 _) | omega | (simp only [zsz]; omega) | (simp <;> omega))) : p := h
def lessB : List UInt8 → List UInt8 → Bool
  | _, [] => false
  | [], _ :: _ => true
  | a :: l, b :: r => if a = b then lessB l r else decide (a.toNat < b.toNat)
end
section
open Go.RowKit
open Go.ChangeMaps (setBlock)
/-- Of the blocks that were there only those in S may have changed. -/
structure Touch (S : List Nat) (w w' : World) : Prop where
  os : w'.os = w.os
  tape : w'.tape = w.tape
  output : w'.output = w.output
  size : w.heap.size ≤ w'.heap.size
  block : ∀ i, i < w.heap.size → i ∉ S → w'.heap[i]? = w.heap[i]?
theorem Touch.refl (S : List Nat) (w : World) : Touch S w w := ⟨rfl, rfl, rfl, Nat.le_refl _, fun _ _ _ => rfl⟩
theorem Touch.trans {S : List Nat} {a b c : World} (h : Touch S a b) (k : Touch S b c) : Touch S a c :=
  ⟨k.os.trans h.os, k.tape.trans h.tape, k.output.trans h.output, Nat.le_trans h.size k.size, fun i hi hs => (k.block i (Nat.lt_of_lt_of_le hi h.size) hs).trans (h.block i hi hs)⟩
theorem Touch.quiet {S : List Nat} {w w' : World} (h : Below w.heap.size w w') : Touch S w w' := ⟨h.os, h.tape, h.output, h.size, fun i hi _ => h.block i hi⟩
theorem Touch.mono {S S' : List Nat} {w w' : World} (h : Touch S w w') (hs : ∀ x ∈ S, x ∈ S') : Touch S' w w' := ⟨h.os, h.tape, h.output, h.size, fun i hi hn => h.block i hi fun hx => hn (hs i hx)⟩
theorem Touch.setCell (w : World) (b o : Nat) (v : Value) : Touch [b] w (w.setCell ⟨b, o, none⟩ v) :=
  ⟨rfl, rfl, rfl, by simp, fun i _ hs => heap_setCell_other _ _ _ _ (by simpa using hs)⟩
theorem Touch.drew (w : World) (S : List Nat) : Touch S w w.drew := ⟨rfl, rfl, rfl, Nat.le_refl _, fun _ _ _ => rfl⟩
/-- Of the blocks below B only those in T may have changed. -/
structure Tch (B : Nat) (T : List Nat) (w w' : World) : Prop where
  os : w'.os = w.os
  tape : w'.tape = w.tape
  output : w'.output = w.output
  size : w.heap.size ≤ w'.heap.size
  block : ∀ i, i < B → i ∉ T → w'.heap[i]? = w.heap[i]?
theorem Tch.refl (B : Nat) (T : List Nat) (w : World) : Tch B T w w := ⟨rfl, rfl, rfl, Nat.le_refl _, fun _ _ _ => rfl⟩
theorem Tch.trans {B : Nat} {T : List Nat} {a b c : World} (h : Tch B T a b) (k : Tch B T b c) : Tch B T a c :=
  ⟨k.os.trans h.os, k.tape.trans h.tape, k.output.trans h.output, Nat.le_trans h.size k.size, fun i hi hn => (k.block i hi hn).trans (h.block i hi hn)⟩
theorem Touch.tch {B : Nat} {T : List Nat} {w w' : World} (h : Touch T w w') (hB : B ≤ w.heap.size) : Tch B T w w' := ⟨h.os, h.tape, h.output, h.size, fun i hi hn => h.block i (Nat.lt_of_lt_of_le hi hB) hn⟩
theorem Tch.touch {T : List Nat} {w w' : World} (h : Tch w.heap.size T w w') : Touch T w w' := ⟨h.os, h.tape, h.output, h.size, h.block⟩
theorem Below.tch {B : Nat} {T : List Nat} {w w' : World} (h : Below B w w') : Tch B T w w' := ⟨h.os, h.tape, h.output, h.size, fun i hi _ => h.block i hi⟩
theorem Tch.drew {B : Nat} {T : List Nat} {a w : World} (h : Tch B T a w) : Tch B T a w.drew := ⟨h.os, h.tape, h.output, h.size, h.block⟩
theorem Tch.drewN {B : Nat} {T : List Nat} {a w : World} (h : Tch B T a w) (k : Nat) : Tch B T a (w.drewN k) := h.trans (Below.tch (below_drewN (Below.refl B w) k))
theorem Tch.alloc {B : Nat} {T : List Nat} {a w : World} (h : Tch B T a w) (hB : B ≤ w.heap.size) (o : Obj) : Tch B T a (w.alloc o) := h.trans (Below.tch ((Below.refl B w).alloc hB o))
theorem Tch.setCell {B : Nat} {T : List Nat} {a w : World} (h : Tch B T a w) {p : Addr} (hp : B ≤ p.block) (u : Value) : Tch B T a (w.setCell p u) := h.trans (Below.tch ((Below.refl B w).setCell hp u))
theorem heap_setBlock_other (w : World) (b i : Nat) (o : Obj) (h : i ≠ b) : (setBlock w b o).heap[i]? = w.heap[i]? := by
  show (w.heap.setIfInBounds b o)[i]? = _
  rw [Array.getElem?_setIfInBounds_ne (fun e => h e.symm)]
theorem size_setBlock (w : World) (b : Nat) (o : Obj) : (setBlock w b o).heap.size = w.heap.size := by simp [setBlock]
theorem Tch.setBlock {B : Nat} {T : List Nat} {a w : World} (h : Tch B T a w) {m : Nat} (hm : m ∈ T) (o : Obj) : Tch B T a (setBlock w m o) :=
  h.trans ⟨rfl, rfl, rfl, by rw [size_setBlock]; exact Nat.le_refl _, fun i _ hn => heap_setBlock_other _ _ _ _ (fun e => hn (e ▸ hm))⟩
end
section
open Go.RowKit
variable {P : Program} (w : World)
/-- An append to an own row: the new row is the old one or lies in a new block. -/
theorem run_append_where (t ty e : TypeId) (i : TypeInfo) (z : Value) (size bytes : Nat) (ht : P.underlying t = some (.slice e)) (hi : P.info? e = some i) (hz : i.zero = some z)
    (hsize : i.size = size) (hby : i.bytes = bytes) (hzs : z.cells.size = size) (hsz : 0 < size)
    (v : Value) (n : Nat) (xs : List Value) (hown : w.ownsRow 0 e size v n xs)
    (a : Addr) (m c : Nat) (news : List Value) (hl : news.length = m * size) (hnews : ∀ j u, news[j]? = some u → w.cell? (a.add j) = some u) (h1 : ∀ u ∈ news, u.oneCell' = true)
    (h63 : n + m ≤ maxLen) (hbytes : (n + m) * bytes ≤ 140737488355328) :
    ∃ v' w', (Builtin.append_ #[t, t] ty #[v, .slice (some a) m c]).run P w = .ok v' w' ∧ w'.ownsRow 0 e size v' (n + m) (xs ++ news) ∧ w.grownBy w' v.ownBlock ∧
      (v'.ownBlock = v.ownBlock ∨ v'.ownBlock = some w.heap.size) := by
  obtain ⟨v', w', hr, h2, h3, h4⟩ := run_append_own (P := P) w 0 t ty e i z size bytes ht hi hz hsize hby hzs hsz v n xs hown a m c news hl hnews h1 h63 hbytes (Nat.zero_le _)
  refine ⟨v', w', hr, h2, h3, ?_⟩
  subst hsize
  subst hby
  have hsmall : n + m ≤ 9223372036854775807 := by simp only [maxLen] at h63; omega
  rcases hown.2 with ⟨rfl, rfl⟩ | ⟨g, cap, cur, rfl, hbg, hg, hnc, hcm, hcs, htake⟩
  · by_cases hm : m = 0
    · left
      rw [h4.2 ⟨rfl, hm⟩]
    · right
      have hx := run_append_nil (P := P) w t ty e i z ht hi hz a m c news hl hnews (by omega) (by omega) (by have hb := hbytes; simp only [Nat.zero_add] at hb; omega)
      rw [hx] at hr
      injection hr with hr _
      rw [← hr]; rfl
  · by_cases hroom : n + m ≤ cap
    · left
      have hfit : n * i.size + news.length ≤ cur.size := by rw [hl, hcs, ← Nat.add_mul]; exact Nat.mul_le_mul_right _ hroom
      have hx := run_append_room (P := P) w t ty e i ht hi g n cap cur hg a m c news hl hnews h1 hroom hfit
      rw [hx] at hr
      injection hr with hr _
      rw [← hr]; rfl
    · right
      have holds : ∀ j u, xs[j]? = some u → w.cell? ((⟨g, 0, none⟩ : Addr).add j) = some u := hown.cells (g := g) rfl
      have hx := run_append_grow (P := P) w t ty e i z ht hi hz ⟨g, 0, none⟩ n cap xs hown.1 holds a m c news hl hnews (by omega) (by omega) (growslice_fits (by omega) hbytes)
      rw [hx] at hr
      injection hr with hr _
      rw [← hr]; rfl
theorem wpList_append_where {ops : Array Oper} {rest : List Oper} {o : Oper} {a : Act} {Q : Exit → Act → World → Prop} (hgd : o.guard = none) (s x : Operand) (t : TypeId)
    (ho : o.op = .call { callee := .builtin .append, args := #[s, x], argTypes := #[t, t] })
    (e : TypeId) (i : TypeInfo) (z : Value) (size bytes : Nat) (ht : P.underlying t = some (.slice e)) (hi : P.info? e = some i) (hz : i.zero = some z)
    (hsize : i.size = size) (hby : i.bytes = bytes) (hzs : z.cells.size = size) (hsz : 0 < size)
    (v : Value) (n : Nat) (xs : List Value) (hs : a.eval s = v) (hown : w.ownsRow 0 e size v n xs)
    (ad : Addr) (m c : Nat) (news : List Value) (hx : a.eval x = .slice (some ad) m c) (hl : news.length = m * size) (hnews : ∀ j u, news[j]? = some u → w.cell? (ad.add j) = some u) (h1 : ∀ u ∈ news, u.oneCell' = true)
    (h63 : n + m ≤ maxLen) (hbytes : (n + m) * bytes ≤ 140737488355328)
    (h : ∀ v' w', w'.ownsRow 0 e size v' (n + m) (xs ++ news) → w.grownBy w' v.ownBlock → (v'.ownBlock = v.ownBlock ∨ v'.ownBlock = some w.heap.size) → wpList P ops Q rest (a.put o.dst v') w') : wpList P ops Q (o :: rest) a w := by
  obtain ⟨v', w', hr, h2, h3, h4⟩ := run_append_where (P := P) w t o.type e i z size bytes ht hi hz hsize hby hzs hsz v n xs hown ad m c news hl hnews h1 h63 hbytes
  refine wpList_plain hgd fun _ hK => ?_
  unfold Oper.wp execOp
  simp only [ho, resolve, invoke, builtin, Sem.run_bind, Sem.run_pure, Result.andThen_ok, List.map_toArray, List.map_cons, List.map_nil, hs, hx, hr]
  exact hK _ _ (h v' w' h2 h3 h4)
end
section
open Go.RowKit
theorem owns_ptr {w : World} {B : Nat} {e : TypeId} {sz n : Nat} {v : Value} {xs : List Value} (h : w.ownsRow B e sz v n xs) : ∃ A c, v = .slice A n c := by
  rcases h.2 with ⟨rfl, rfl⟩ | ⟨g, c, cur, rfl, -⟩
  · exact ⟨_, _, rfl⟩
  · exact ⟨_, _, rfl⟩
end
end
section
section
open Go.RowKit
/-- A tree: kind, signed, unsigned, string, keys, children. -/
inductive DT where
  | mk (kd n u : Int) (s : List UInt8) (ks : List (List UInt8)) (l : List DT)
/-- The block of a slice that is its own, as a list. -/
def blkL (v : Value) : List Nat := v.ownBlock.toList
def nodeC (kd n u : Int) (s : List UInt8) (kv lv : Value) : List Value := [.int .i64 kd, .int .i64 n, .int .u64 u, strV s, kv, lv]
mutual
/-- The cells of a node in memory, and the blocks that hold what it refers to. -/
def NRep (w : World) : DT → List Value → List Nat → Prop
  | .mk kd n u s ks l, cs, bs => ∃ kv lv xs bl, cs = nodeC kd n u s kv lv ∧ w.ownsRow 0 9 1 kv ks.length (ks.map strV) ∧ w.ownsRow 0 27 6 lv l.length xs ∧ NReps w l xs bl ∧ bs = blkL kv ++ (blkL lv ++ bl)
def NReps (w : World) : List DT → List Value → List Nat → Prop
  | [], xs, bs => xs = [] ∧ bs = []
  | t :: ts, xs, bs => ∃ c b xs' bs', NRep w t c b ∧ NReps w ts xs' bs' ∧ xs = c ++ xs' ∧ bs = b ++ bs'
end
theorem own_same2 {w w' : World} {B : Nat} {ty : TypeId} {sz m : Nat} {v : Value} {xs : List Value} (h : w.ownsRow B ty sz v m xs) (hk : ∀ i ∈ blkL v, w'.heap[i]? = w.heap[i]?) : w'.ownsRow B ty sz v m xs := by
  refine ⟨h.1, ?_⟩
  rcases h.2 with hn | ⟨g, c, cur, rfl, hb, hg, rest⟩
  · exact .inl hn
  · exact .inr ⟨g, c, cur, rfl, hb, (hk g (by simp [blkL, Value.ownBlock])).trans hg, rest⟩
mutual
theorem NRep.same {w w' : World} : ∀ (T : DT) (cs : List Value) (bs : List Nat), NRep w T cs bs → (∀ i ∈ bs, w'.heap[i]? = w.heap[i]?) → NRep w' T cs bs
  | .mk kd n u s ks l, cs, bs, h, hk => by
    rw [NRep] at h ⊢
    obtain ⟨kv, lv, xs, bl, h1, h2, h3, h4, rfl⟩ := h
    exact ⟨kv, lv, xs, bl, h1, own_same2 h2 fun i hi => hk i (by simp [hi]), own_same2 h3 fun i hi => hk i (by simp [hi]), NReps.same l xs bl h4 fun i hi => hk i (by simp [hi]), rfl⟩
theorem NReps.same {w w' : World} : ∀ (l : List DT) (xs : List Value) (bs : List Nat), NReps w l xs bs → (∀ i ∈ bs, w'.heap[i]? = w.heap[i]?) → NReps w' l xs bs
  | [], xs, bs, h, _ => by rw [NReps] at h ⊢; exact h
  | t :: ts, xs, bs, h, hk => by
    rw [NReps] at h ⊢
    obtain ⟨c, b, xs', bs', h1, h2, rfl, rfl⟩ := h
    exact ⟨c, b, xs', bs', NRep.same t c b h1 fun i hi => hk i (by simp [hi]), NReps.same ts xs' bs' h2 fun i hi => hk i (by simp [hi]), rfl, rfl⟩
end
theorem NRep.lt {w : World} : ∀ (T : DT) (cs : List Value) (bs : List Nat), NRep w T cs bs → cs.length = 6 := by
  intro T cs bs h
  obtain ⟨kd, n, u, s, ks, l⟩ := T
  rw [NRep] at h
  obtain ⟨kv, lv, xs, bl, rfl, -⟩ := h
  rfl
theorem ownsRow_one {w : World} {B : Nat} {ty : TypeId} {sz m : Nat} {v : Value} {xs : List Value} (h : w.ownsRow B ty sz v m xs) : v.oneCell' = true := by
  rcases h.2 with ⟨rfl, -⟩ | ⟨g, c, cur, rfl, -⟩ <;> rfl
theorem NRep.one {w : World} : ∀ (T : DT) (cs : List Value) (bs : List Nat), NRep w T cs bs → ∀ v ∈ cs, v.oneCell' = true := by
  intro T cs bs h
  obtain ⟨kd, n, u, s, ks, l⟩ := T
  rw [NRep] at h
  obtain ⟨kv, lv, xs, bl, rfl, h2, h3, -⟩ := h
  intro v hv
  simp only [nodeC, List.mem_cons, List.not_mem_nil, or_false] at hv
  rcases hv with rfl | rfl | rfl | rfl | rfl | rfl
  · rfl
  · rfl
  · rfl
  · rfl
  · exact ownsRow_one h2
  · exact ownsRow_one h3
theorem NReps.snoc {w : World} : ∀ (l : List DT) (xs : List Value) (bs : List Nat) (T : DT) (c : List Value) (b : List Nat), NReps w l xs bs → NRep w T c b → NReps w (l ++ [T]) (xs ++ c) (bs ++ b)
  | [], xs, bs, T, c, b, h, h' => by
    rw [NReps] at h
    obtain ⟨rfl, rfl⟩ := h
    rw [List.nil_append, NReps]
    exact ⟨c, b, [], [], h', by rw [NReps]; exact ⟨rfl, rfl⟩, by simp, by simp⟩
  | t :: ts, xs, bs, T, c, b, h, h' => by
    rw [NReps] at h
    obtain ⟨c1, b1, xs', bs', h1, h2, rfl, rfl⟩ := h
    rw [List.cons_append, NReps]
    exact ⟨c1, b1, xs' ++ c, bs' ++ b, h1, NReps.snoc ts xs' bs' T c b h2 h', by simp, by simp⟩
theorem NReps.split {w : World} : ∀ (l l' : List DT) (xs : List Value) (bs : List Nat), NReps w (l ++ l') xs bs → ∃ xs1 xs2 b1 b2, NReps w l xs1 b1 ∧ NReps w l' xs2 b2 ∧ xs = xs1 ++ xs2 ∧ bs = b1 ++ b2
  | [], l', xs, bs, h => ⟨[], xs, [], bs, by rw [NReps]; exact ⟨rfl, rfl⟩, h, rfl, rfl⟩
  | t :: ts, l', xs, bs, h => by
    rw [List.cons_append, NReps] at h
    obtain ⟨c, b, xs', bs', h1, h2, rfl, rfl⟩ := h
    obtain ⟨x1, x2, b1, b2, g1, g2, rfl, rfl⟩ := NReps.split ts l' xs' bs' h2
    exact ⟨c ++ x1, x2, b ++ b1, b2, by rw [NReps]; exact ⟨c, b, x1, b1, h1, g1, rfl, rfl⟩, g2, by simp, by simp⟩
theorem NReps.len {w : World} : ∀ (l : List DT) (xs : List Value) (bs : List Nat), NReps w l xs bs → xs.length = 6 * l.length
  | [], xs, bs, h => by rw [NReps] at h; rw [h.1]; rfl
  | t :: ts, xs, bs, h => by
    rw [NReps] at h
    obtain ⟨c, b, xs', bs', h1, h2, rfl, rfl⟩ := h
    have := NReps.len ts xs' bs' h2
    have := NRep.lt t c b h1
    simp only [List.length_append, List.length_cons]; omega
mutual
/-- The blocks lie in memory. -/
theorem NRep.bd {w : World} : ∀ (T : DT) (cs : List Value) (bs : List Nat), NRep w T cs bs → ∀ i ∈ bs, i < w.heap.size
  | .mk kd n u s ks l, cs, bs, h => by
    rw [NRep] at h
    obtain ⟨kv, lv, xs, bl, h1, h2, h3, h4, rfl⟩ := h
    intro i hi
    simp only [List.mem_append, blkL, Option.mem_toList] at hi
    rcases hi with hi | hi | hi
    · exact (h2.lt i hi).2
    · exact (h3.lt i hi).2
    · exact NReps.bd l xs bl h4 i hi
theorem NReps.bd {w : World} : ∀ (l : List DT) (xs : List Value) (bs : List Nat), NReps w l xs bs → ∀ i ∈ bs, i < w.heap.size
  | [], xs, bs, h => by rw [NReps] at h; rw [h.2]; simp
  | t :: ts, xs, bs, h => by
    rw [NReps] at h
    obtain ⟨c, b, xs', bs', h1, h2, rfl, rfl⟩ := h
    intro i hi
    rcases List.mem_append.1 hi with hi | hi
    · exact NRep.bd t c b h1 i hi
    · exact NReps.bd ts xs' bs' h2 i hi
end
end
section
open Go.RowKit
theorem slice_form {w : World} {B : Nat} {ty : TypeId} {sz m : Nat} {v : Value} {xs : List Value} (h : w.ownsRow B ty sz v m xs) : ∃ A c, v = .slice A m c ∧ (A = none ∨ ∃ g, A = some ⟨g, 0, none⟩) := by
  rcases h.2 with ⟨rfl, rfl⟩ | ⟨g, c, cur, rfl, -⟩
  · exact ⟨_, _, rfl, .inl rfl⟩
  · exact ⟨_, _, rfl, .inr ⟨g, rfl⟩⟩
/-- The six cells of a node, by name. -/
theorem NRep.form {w : World} {T : DT} {cs : List Value} {bs : List Nat} (h : NRep w T cs bs) : ∃ kd n u s kv lv, cs = [.int .i64 kd, .int .i64 n, .int .u64 u, .string s, kv, lv] := by
  obtain ⟨kd, n, u, s, ks, l⟩ := T
  rw [NRep] at h
  obtain ⟨kv, lv, xs, bl, rfl, -⟩ := h
  exact ⟨kd, n, u, ⟨s.toArray⟩, kv, lv, rfl⟩
theorem NReps.at_ {w : World} : ∀ (l : List DT) (xs : List Value) (bs : List Nat) (i : Nat) (hi : i < l.length), NReps w l xs bs →
    ∃ v0 v1 v2 v3 v4 v5 b, NRep w l[i] [v0, v1, v2, v3, v4, v5] b ∧ (∀ j ∈ b, j ∈ bs) ∧ xs[i * 6]? = some v0 ∧ xs[i * 6 + 1]? = some v1 ∧ xs[i * 6 + 2]? = some v2 ∧ xs[i * 6 + 3]? = some v3 ∧ xs[i * 6 + 4]? = some v4 ∧ xs[i * 6 + 5]? = some v5
  | t :: ts, xs, bs, 0, _, h => by
    rw [NReps] at h
    obtain ⟨c, b, xs', bs', h1, h2, rfl, rfl⟩ := h
    obtain ⟨kd, n, u, s, kv, lv, rfl⟩ := h1.form
    exact ⟨_, _, _, _, _, _, b, h1, fun j hj => by simp [hj], rfl, rfl, rfl, rfl, rfl, rfl⟩
  | t :: ts, xs, bs, i + 1, hi, h => by
    rw [NReps] at h
    obtain ⟨c, b, xs', bs', h1, h2, rfl, rfl⟩ := h
    obtain ⟨kd, n, u, s, kv, lv, rfl⟩ := h1.form
    obtain ⟨v0, v1, v2, v3, v4, v5, b2, g, hb, g0, g1, g2, g3, g4, g5⟩ := NReps.at_ ts xs' bs' i (by simpa using hi) h2
    have hs : ∀ j, ([Value.int .i64 kd, .int .i64 n, .int .u64 u, .string s, kv, lv] ++ xs')[(i + 1) * 6 + j]? = xs'[i * 6 + j]? := by
      intro j
      rw [List.getElem?_append_right (by simp; omega)]
      congr 1
      simp
      omega
    exact ⟨v0, v1, v2, v3, v4, v5, b2, g, fun j hj => by simp [hb j hj], (hs 0).trans g0, (hs 1).trans g1, (hs 2).trans g2, (hs 3).trans g3, (hs 4).trans g4, (hs 5).trans g5⟩
/-- The induction over trees. -/
theorem DT.byKids {P : DT → Prop} (h : ∀ kd n u s ks l, (∀ t ∈ l, P t) → P (.mk kd n u s ks l)) : ∀ T, P T := by
  have : ∀ (N : Nat) (T : DT), SizeOf.sizeOf T < N → P T := by
    intro N
    induction N with
    | zero => intro T h; omega
    | succ N ih =>
      intro T hT
      obtain ⟨kd, n, u, s, ks, l⟩ := T
      refine h kd n u s ks l fun t ht => ih t ?_
      have := List.sizeOf_lt_of_mem ht
      simp at hT
      omega
  exact fun T => this _ T (Nat.lt_succ_self _)
end
section
open Go.RowKit
theorem own_below {w w' : World} {B : Nat} {ty : TypeId} {sz m : Nat} {v : Value} {xs : List Value} (h : w.ownsRow B ty sz v m xs) (hb : Below w.heap.size w w') : w'.ownsRow B ty sz v m xs :=
  own_same2 h fun i hi => hb.block i (h.lt i (by simpa [blkL, Option.mem_toList] using hi)).2
theorem row_cell {w : World} {B : Nat} {ty : TypeId} {sz m : Nat} {A : Option Addr} {m' c : Nat} {xs : List Value} (h : w.ownsRow B ty sz (.slice A m' c) m xs) (hm : 0 < m) : ∃ g, A = some ⟨g, 0, none⟩ ∧ g < w.heap.size ∧ ∀ j, j < m * sz → w.cell? ⟨g, j, none⟩ = xs[j]? := by
  rcases h.2 with ⟨h1, h0⟩ | ⟨g, c', cur, h1, -, hg, -⟩
  · omega
  · injection h1 with h1 h2 h3
    subst h1; subst h2
    exact ⟨g, rfl, (Array.getElem?_eq_some_iff.1 hg).1, fun j hj => h.cellAt j hj⟩
theorem row_bound {w : World} {B : Nat} {ty : TypeId} {sz m : Nat} {v : Value} {xs : List Value} (h : w.ownsRow B ty sz v m xs) : m ≤ 9223372036854775807 := by
  rcases h.2 with ⟨-, h0⟩ | ⟨g, c', cur, -, -, -, hg, hm, -⟩
  · omega
  · unfold maxLen at hm; omega
theorem NRep.below {w w' : World} {T : DT} {cs : List Value} {bs : List Nat} (h : NRep w T cs bs) (hb : Below w.heap.size w w') : NRep w' T cs bs := h.same T cs bs fun i hi => hb.block i (h.bd T cs bs i hi)
theorem NReps.below {w w' : World} {l : List DT} {cs : List Value} {bs : List Nat} (h : NReps w l cs bs) (hb : Below w.heap.size w w') : NReps w' l cs bs := h.same l cs bs fun i hi => hb.block i (h.bd l cs bs i hi)
/-- The six cells of a child, where they lie. -/
theorem kid_cells {w : World} {l : List DT} {xs : List Value} {bl : List Nat} {A : Option Addr} {c : Nat} (h : w.ownsRow 0 27 6 (.slice A l.length c) l.length xs) (hn : NReps w l xs bl) (k : Nat) (hk : k < l.length) :
    ∃ g, A = some ⟨g, 0, none⟩ ∧ g < w.heap.size ∧ ∃ v0 v1 v2 v3 v4 v5 b, NRep w l[k] [v0, v1, v2, v3, v4, v5] b ∧ (∀ j ∈ b, j ∈ bl) ∧ w.cell? ⟨g, k * 6, none⟩ = some v0 ∧ w.cell? ⟨g, k * 6 + 1, none⟩ = some v1 ∧ w.cell? ⟨g, k * 6 + 2, none⟩ = some v2 ∧ w.cell? ⟨g, k * 6 + 3, none⟩ = some v3 ∧ w.cell? ⟨g, k * 6 + 4, none⟩ = some v4 ∧ w.cell? ⟨g, k * 6 + 5, none⟩ = some v5 := by
  obtain ⟨g, rfl, hg, hc⟩ := row_cell h (by omega)
  obtain ⟨v0, v1, v2, v3, v4, v5, b, h1, h2, e0, e1, e2, e3, e4, e5⟩ := NReps.at_ l xs bl k hk hn
  exact ⟨g, rfl, hg, v0, v1, v2, v3, v4, v5, b, h1, h2, (hc _ (by omega)).trans e0, (hc _ (by omega)).trans e1, (hc _ (by omega)).trans e2, (hc _ (by omega)).trans e3, (hc _ (by omega)).trans e4, (hc _ (by omega)).trans e5⟩
theorem touch_cell2 {T : List Nat} {w w' : World} (h : Touch T w w') {x : Nat} (hx : x < w.heap.size) (hn : x ∉ T) (j : Nat) : w'.cell? ⟨x, j, none⟩ = w.cell? ⟨x, j, none⟩ := World.cell?_of_block (a := ⟨x, j, none⟩) (h.block x hx hn)
theorem row_block {w : World} {B : Nat} {ty : TypeId} {sz m : Nat} {A : Option Addr} {m' c : Nat} {xs : List Value} (h : w.ownsRow B ty sz (.slice A m' c) m xs) (hm : 0 < m) : ∃ g, A = some ⟨g, 0, none⟩ ∧ g ∈ blkL (.slice A m' c) ∧ m' = m ∧ g < w.heap.size := by
  rcases h.2 with ⟨h1, h0⟩ | ⟨g, c', cur, h1, -, hg, -⟩
  · omega
  · injection h1 with h1 h2 h3
    subst h1; subst h2
    exact ⟨g, rfl, by simp [blkL, Value.ownBlock], rfl, (Array.getElem?_eq_some_iff.1 hg).1⟩
theorem set_six {xs ys : List Value} {k : Nat} (hx : xs.length = k * 6) (v0 v1 v2 v3 v4 v5 a0 a1 a2 a3 a4 a5 : Value) :
    ((((((xs ++ ([v0, v1, v2, v3, v4, v5] ++ ys)).set (k * 6) a0).set (k * 6 + 1) a1).set (k * 6 + 2) a2).set (k * 6 + 3) a3).set (k * 6 + 4) a4).set (k * 6 + 5) a5 = (xs ++ [a0, a1, a2, a3, a4, a5]) ++ ys := by
  simp only [← hx]
  rw [List.set_append_right _ _ (by omega), List.set_append_right _ _ (by omega), List.set_append_right _ _ (by omega), List.set_append_right _ _ (by omega), List.set_append_right _ _ (by omega), List.set_append_right _ _ (by omega)]
  simp
theorem own_six {w : World} {ty : TypeId} {n cap g k : Nat} {xs ys : List Value} {v0 v1 v2 v3 v4 v5 : Value} (h : w.ownsRow 0 ty 6 (.slice (some ⟨g, 0, none⟩) n cap) n (xs ++ ([v0, v1, v2, v3, v4, v5] ++ ys))) (hx : xs.length = k * 6) (a0 a1 a2 a3 a4 a5 : Value) :
    ((((((w.setCell ⟨g, k * 6, none⟩ a0).setCell ⟨g, k * 6 + 1, none⟩ a1).setCell ⟨g, k * 6 + 2, none⟩ a2).setCell ⟨g, k * 6 + 3, none⟩ a3).setCell ⟨g, k * 6 + 4, none⟩ a4).setCell ⟨g, k * 6 + 5, none⟩ a5).ownsRow 0 ty 6 (.slice (some ⟨g, 0, none⟩) n cap) n ((xs ++ [a0, a1, a2, a3, a4, a5]) ++ ys) := by
  have := ((((((h.stored (k * 6) a0).1.stored (k * 6 + 1) a1).1.stored (k * 6 + 2) a2).1.stored (k * 6 + 3) a3).1.stored (k * 6 + 4) a4).1.stored (k * 6 + 5) a5).1
  rwa [set_six hx] at this
theorem touch_six {w : World} {g : Nat} (o0 o1 o2 o3 o4 o5 : Nat) (a0 a1 a2 a3 a4 a5 : Value) :
    Touch [g] w ((((((w.setCell ⟨g, o0, none⟩ a0).setCell ⟨g, o1, none⟩ a1).setCell ⟨g, o2, none⟩ a2).setCell ⟨g, o3, none⟩ a3).setCell ⟨g, o4, none⟩ a4).setCell ⟨g, o5, none⟩ a5) :=
  (((((Touch.setCell _ _ _ _).trans (Touch.setCell _ _ _ _)).trans (Touch.setCell _ _ _ _)).trans (Touch.setCell _ _ _ _)).trans (Touch.setCell _ _ _ _)).trans (Touch.setCell _ _ _ _)
/-- What SpoilNode has left of the children from the k-th on. -/
structure SpI (w wr : World) (l : List DT) (A : Option Addr) (c : Nat) (bs : List Nat) (k : Nat) : Prop where
  touch : Touch bs w wr
  rest : ∃ xs1 xs2 b2, wr.ownsRow 0 27 6 (.slice A l.length c) l.length (xs1 ++ xs2) ∧ xs1.length = k * 6 ∧ NReps wr (l.drop k) xs2 b2 ∧ b2.Nodup ∧ (∀ g ∈ blkL (.slice A l.length c), g ∉ b2) ∧ ∀ g ∈ b2, g ∈ bs
  blk : ∀ g ∈ blkL (.slice A l.length c), g ∈ bs
/-- The k-th child of the rest: its cells, and what is left behind a call that writes into its blocks and a store over it. -/
theorem SpI.next {w wr : World} {l : List DT} {A : Option Addr} {c : Nat} {bs : List Nat} {k : Nat} (h : SpI w wr l A c bs k) (hk : k < l.length) :
    ∃ g, A = some ⟨g, 0, none⟩ ∧ g < wr.heap.size ∧ (∀ j, wr.frozen? ⟨g, j, none⟩ = false) ∧ ∃ v0 v1 v2 v3 v4 v5 b, NRep wr l[k] [v0, v1, v2, v3, v4, v5] b ∧ b.Nodup ∧ (∀ j ∈ b, j ∈ bs) ∧ g ∉ b ∧
      wr.cell? ⟨g, k * 6, none⟩ = some v0 ∧ wr.cell? ⟨g, k * 6 + 1, none⟩ = some v1 ∧ wr.cell? ⟨g, k * 6 + 2, none⟩ = some v2 ∧ wr.cell? ⟨g, k * 6 + 3, none⟩ = some v3 ∧ wr.cell? ⟨g, k * 6 + 4, none⟩ = some v4 ∧ wr.cell? ⟨g, k * 6 + 5, none⟩ = some v5 ∧
      ∀ w1, Touch b wr w1 → ∀ a0 a1 a2 a3 a4 a5 : Value, SpI w ((((((w1.setCell ⟨g, k * 6, none⟩ a0).setCell ⟨g, k * 6 + 1, none⟩ a1).setCell ⟨g, k * 6 + 2, none⟩ a2).setCell ⟨g, k * 6 + 3, none⟩ a3).setCell ⟨g, k * 6 + 4, none⟩ a4).setCell ⟨g, k * 6 + 5, none⟩ a5) l A c bs (k + 1) := by
  obtain ⟨ht, ⟨xs1, xs2, b2, ho, hx, hn, hnd, hgb, hbb⟩, hblk⟩ := h
  obtain ⟨g, rfl, hgm, -, hg⟩ := row_block ho (by omega)
  rw [List.drop_eq_getElem_cons hk, NReps] at hn
  obtain ⟨cc, b, xs', b', h1, h2, rfl, rfl⟩ := hn
  obtain ⟨kd, n, u, s, kv, lv, rfl⟩ := h1.form
  have hc : ∀ j (_ : j < 6), wr.cell? ⟨g, k * 6 + j, none⟩ = ([Value.int .i64 kd, .int .i64 n, .int .u64 u, .string s, kv, lv])[j]? := by
    intro j hj
    rw [ho.cellAt (k * 6 + j) (by omega), List.getElem?_append_right (by omega), List.getElem?_append_left (by simp; omega)]
    congr 1
    omega
  have hgn := hgb g hgm
  rw [List.mem_append, not_or] at hgn
  rw [List.nodup_append] at hnd
  refine ⟨g, rfl, hg, fun j => ho.frozenAt j, _, _, _, _, _, _, b, h1, hnd.1, fun j hj => hbb j (by simp [hj]), hgn.1, hc 0 (by omega), hc 1 (by omega), hc 2 (by omega), hc 3 (by omega), hc 4 (by omega), hc 5 (by omega), ?_⟩
  intro w1 hw1 a0 a1 a2 a3 a4 a5
  have ho1 : w1.ownsRow 0 27 6 (.slice (some ⟨g, 0, none⟩) l.length c) l.length (xs1 ++ ([Value.int .i64 kd, .int .i64 n, .int .u64 u, .string s, kv, lv] ++ xs')) :=
    own_same2 ho fun i hi => by
      have : i = g := by simpa [blkL, Value.ownBlock] using hi
      subst this
      exact hw1.block _ hg hgn.1
  have hs := touch_six (w := w1) (g := g) (k * 6) (k * 6 + 1) (k * 6 + 2) (k * 6 + 3) (k * 6 + 4) (k * 6 + 5) a0 a1 a2 a3 a4 a5
  have hbs := h2.bd _ _ _
  refine ⟨ht.trans ((hw1.mono fun j hj => hbb j (by simp [hj])).trans (hs.mono fun j hj => by simp at hj; subst hj; exact hblk _ hgm)), ⟨xs1 ++ [a0, a1, a2, a3, a4, a5], xs', b', own_six ho1 hx a0 a1 a2 a3 a4 a5, by simp; omega, ?_, hnd.2.1, ?_, fun j hj => hbb j (by simp [hj])⟩, hblk⟩
  · refine h2.same _ _ _ fun i hi => ?_
    have e1 := hw1.block i (hbs i hi) fun hib => hnd.2.2 i hib i hi rfl
    have e2 := hs.block i (Nat.lt_of_lt_of_le (hbs i hi) hw1.size) (by simp; rintro rfl; exact hgn.2 hi)
    exact e2.trans e1
  · intro i hi
    have : i = g := by simpa [blkL, Value.ownBlock] using hi
    subst this
    exact hgn.2
end
section
open Go.RowKit
/-- The children of a node in memory, one by one. -/
theorem rep_kids {w : World} {kd nn u : Int} {s : List UInt8} {ks : List (List UInt8)} {l : List DT} {x0 x1 x2 x3 x4 : Value} {B : Option Addr} {m c : Nat} {bs : List Nat} (h : NRep w (.mk kd nn u s ks l) [x0, x1, x2, x3, x4, .slice B m c] bs) :
    (x0 = .int .i64 kd ∧ m = l.length) ∧ ∀ (W : World), Below w.heap.size w W → ∀ (k : Nat) (hk : k < l.length), ∃ g, B = some ⟨g, 0, none⟩ ∧ g < W.heap.size ∧ ∃ v0 v1 v2 v3 v4 v5 b, NRep W l[k] [v0, v1, v2, v3, v4, v5] b ∧ (∀ j ∈ b, j ∈ bs) ∧
      W.cell? ⟨g, k * 6, none⟩ = some v0 ∧ W.cell? ⟨g, k * 6 + 1, none⟩ = some v1 ∧ W.cell? ⟨g, k * 6 + 2, none⟩ = some v2 ∧ W.cell? ⟨g, k * 6 + 3, none⟩ = some v3 ∧ W.cell? ⟨g, k * 6 + 4, none⟩ = some v4 ∧ W.cell? ⟨g, k * 6 + 5, none⟩ = some v5 := by
  rw [NRep] at h
  obtain ⟨kv, lv, xs, bl, h1, h2, h3, h4, hb⟩ := h
  simp only [nodeC, List.cons.injEq, and_true] at h1
  obtain ⟨rfl, rfl, rfl, rfl, rfl, rfl⟩ := h1
  have hm : m = l.length := by
    obtain ⟨A', c', hA', -⟩ := slice_form h3
    injection hA'
  subst hm
  refine ⟨⟨rfl, rfl⟩, fun W hW k hk => ?_⟩
  obtain ⟨g, e1, e2, v0, v1, v2, v3, v4, v5, b, hN, hbl, hc⟩ := kid_cells (own_below h3 hW) (h4.below hW) k hk
  exact ⟨g, e1, e2, v0, v1, v2, v3, v4, v5, b, hN, fun j hj => by rw [hb]; simp [hbl j hj], hc⟩
theorem rep_bound {w : World} {kd nn u : Int} {s : List UInt8} {ks : List (List UInt8)} {l : List DT} {cs : List Value} {bs : List Nat} (h : NRep w (.mk kd nn u s ks l) cs bs) : l.length ≤ 9223372036854775807 := by
  rw [NRep] at h
  obtain ⟨kv, lv, xs, bl, h1, h2, h3, h4, hb⟩ := h
  exact row_bound h3
theorem NRep.last {w : World} {T : DT} {x0 x1 x2 x3 x4 x5 : Value} {bs : List Nat} (h : NRep w T [x0, x1, x2, x3, x4, x5] bs) : ∃ A m c, x5 = .slice A m c := by
  obtain ⟨kd, n, u, s, ks, l⟩ := T
  rw [NRep] at h
  obtain ⟨kv, lv, xs, bl, h1, h2, h3, h4, hb⟩ := h
  simp only [nodeC, List.cons.injEq, and_true] at h1
  obtain ⟨rfl, rfl, rfl, rfl, rfl, rfl⟩ := h1
  obtain ⟨A, c, hA, -⟩ := slice_form h3
  exact ⟨A, _, c, hA⟩
theorem NRep.form2 {w : World} {T : DT} {x0 x1 x2 x3 x4 x5 : Value} {bs : List Nat} (h : NRep w T [x0, x1, x2, x3, x4, x5] bs) : ∃ kd n u s A1 m1 c1 A2 m2 c2, x0 = .int .i64 kd ∧ x1 = .int .i64 n ∧ x2 = .int .u64 u ∧ x3 = .string s ∧ x4 = .slice A1 m1 c1 ∧ x5 = .slice A2 m2 c2 := by
  obtain ⟨kd, n, u, s, ks, l⟩ := T
  rw [NRep] at h
  obtain ⟨kv, lv, xs, bl, h1, h2, h3, h4, hb⟩ := h
  simp only [nodeC, List.cons.injEq, and_true] at h1
  obtain ⟨rfl, rfl, rfl, rfl, rfl, rfl⟩ := h1
  obtain ⟨A, c, hA, -⟩ := slice_form h2
  obtain ⟨A', c', hA', -⟩ := slice_form h3
  exact ⟨kd, n, u, _, A, _, c, A', _, c', rfl, rfl, rfl, rfl, hA, hA'⟩
end
section
open Go.RowKit
theorem mem_blk {v : Value} {i : Nat} : i ∈ blkL v ↔ v.ownBlock = some i := by simp [blkL]
/-- The vector so far. -/
structure Kids (w : World) (B : Nat) (ks : List (List UInt8)) (l : List DT) (kv lv : Value) (xs : List Value) (bl : List Nat) : Prop where
  k : w.ownsRow 0 9 1 kv ks.length (ks.map strV)
  r : w.ownsRow 0 27 6 lv l.length xs
  n : NReps w l xs bl
  nd : (blkL kv ++ (blkL lv ++ bl)).Nodup
  ge : ∀ i ∈ blkL kv ++ (blkL lv ++ bl), B ≤ i
theorem Kids.lt {w : World} {B : Nat} {ks : List (List UInt8)} {l : List DT} {kv lv : Value} {xs : List Value} {bl : List Nat} (h : Kids w B ks l kv lv xs bl) : ∀ i ∈ blkL kv ++ (blkL lv ++ bl), i < w.heap.size := by
  intro i hi
  simp only [List.mem_append] at hi
  rcases hi with hi | hi | hi
  · exact (h.k.lt i (mem_blk.1 hi)).2
  · exact (h.r.lt i (mem_blk.1 hi)).2
  · exact h.n.bd _ _ _ i hi
theorem Kids.same {w w' : World} {B : Nat} {ks : List (List UInt8)} {l : List DT} {kv lv : Value} {xs : List Value} {bl : List Nat} (h : Kids w B ks l kv lv xs bl) (hk : ∀ i ∈ blkL kv ++ (blkL lv ++ bl), w'.heap[i]? = w.heap[i]?) : Kids w' B ks l kv lv xs bl :=
  ⟨own_same2 h.k fun i hi => hk i (by simp [hi]), own_same2 h.r fun i hi => hk i (by simp [hi]), NReps.same _ _ _ h.n fun i hi => hk i (by simp [hi]), h.nd, h.ge⟩
theorem Kids.touch {w w' : World} {B lk : Nat} {ks : List (List UInt8)} {l : List DT} {kv lv : Value} {xs : List Value} {bl : List Nat} (h : Kids w B ks l kv lv xs bl) (ht : Touch [lk] w w') (hl : lk < B) : Kids w' B ks l kv lv xs bl :=
  h.same fun i hi => ht.block i (h.lt i hi) (by have := h.ge i hi; simp; omega)
theorem Kids.push {wr W1 W2 w3 : World} {B lk : Nat} {ks : List (List UInt8)} {l : List DT} {kv lv v' : Value} {xs : List Value} {bl : List Nat} (h : Kids wr B ks l kv lv xs bl) (hl : lk < B)
    (ht : Touch [lk] wr W1) {T : DT} {c : List Value} {bs : List Nat} (hT : NRep W1 T c bs) (hnd : bs.Nodup) (hge : ∀ i ∈ bs, wr.heap.size ≤ i) (hB : B ≤ wr.heap.size)
    (h2 : Below W1.heap.size W1 W2) (hg : W2.grownBy w3 lv.ownBlock) (ho : w3.ownsRow 0 27 6 v' (l.length + 1) (xs ++ c)) (hw : v'.ownBlock = lv.ownBlock ∨ v'.ownBlock = some W2.heap.size) :
    Kids w3 B ks (l ++ [T]) kv v' (xs ++ c) (bl ++ bs) := by
  have s1 := ht.size
  have s2 := h2.size
  have s3 := hg.size
  have hlt := h.lt
  have hbs := NRep.bd T c bs hT
  have hnd0 := h.nd
  rw [List.nodup_append] at hnd0
  obtain ⟨n1, n2, n3⟩ := hnd0
  rw [List.nodup_append] at n2
  obtain ⟨n4, n5, n6⟩ := n2
  have old : ∀ i ∈ blkL kv ++ (blkL lv ++ bl), W2.heap[i]? = wr.heap[i]? := fun i hi =>
    (h2.block i (by have := hlt i hi; omega)).trans (ht.block i (hlt i hi) (by have := h.ge i hi; simp; omega))
  have three : ∀ i, i < W2.heap.size → lv.ownBlock ≠ some i → w3.heap[i]? = W2.heap[i]? := fun i hi hn => hg.block i hi (fun e => hn e.symm)
  have hlv : ∀ i, lv.ownBlock = some i → B ≤ i ∧ i < wr.heap.size := fun i hi => ⟨h.ge i (by simp [mem_blk, hi]), hlt i (by simp [mem_blk, hi])⟩
  have hv' : ∀ i, v'.ownBlock = some i → (lv.ownBlock = some i) ∨ i = W2.heap.size := fun i hi => by
    rcases hw with hw | hw
    · rw [hw] at hi; exact .inl hi
    · rw [hw] at hi; injection hi with hi; exact .inr hi.symm
  have hv'B : ∀ i, v'.ownBlock = some i → B ≤ i := fun i hi => by
    rcases hv' i hi with x | x
    · exact (hlv i x).1
    · omega
  have kvne : ∀ i ∈ blkL kv, lv.ownBlock ≠ some i := fun i hi e => n3 i hi i (by simp [mem_blk, e]) rfl
  have blne : ∀ i ∈ bl, lv.ownBlock ≠ some i := fun i hi e => n6 i (mem_blk.2 e) i hi rfl
  have hold : ∀ i ∈ blkL kv ++ (blkL lv ++ bl), lv.ownBlock ≠ some i → w3.heap[i]? = wr.heap[i]? := fun i hi hn =>
    (three i (by have := hlt i hi; omega) hn).trans (old i hi)
  have hnew : ∀ i ∈ bs, w3.heap[i]? = W1.heap[i]? := fun i hi =>
    (three i (by have := hbs i hi; omega) (fun e => by have := (hlv i e).2; have := hge i hi; omega)).trans (h2.block i (hbs i hi))
  refine ⟨own_same2 h.k fun i hi => hold i (by simp [hi]) (kvne i hi), ?_, NReps.snoc _ _ _ _ _ _ (NReps.same _ _ _ h.n fun i hi => hold i (by simp [hi]) (blne i hi)) (NRep.same _ _ _ hT hnew), ?_, ?_⟩
  · rw [List.length_append]
    exact ho
  · rw [List.nodup_append]
    refine ⟨n1, ?_, ?_⟩
    · rw [List.nodup_append]
      refine ⟨?_, ?_, ?_⟩
      · unfold blkL; cases v'.ownBlock <;> simp
      · rw [List.nodup_append]
        exact ⟨n5, hnd, fun i hi j hj e => by subst e; have := hlt i (by simp [hi]); have := hge i hj; omega⟩
      · intro i hi j hj e
        subst e
        rcases List.mem_append.1 hj with hj | hj
        · rcases hv' i (mem_blk.1 hi) with x | x
          · exact blne i hj x
          · have := hlt i (by simp [hj]); omega
        · rcases hv' i (mem_blk.1 hi) with x | x
          · have := (hlv i x).2; have := hge i hj; omega
          · have := hbs i hj; omega
    · intro i hi j hj e
      subst e
      rcases List.mem_append.1 hj with hj | hj
      · rcases hv' i (mem_blk.1 hj) with x | x
        · exact kvne i hi x
        · have := hlt i (by simp [hi]); omega
      · rcases List.mem_append.1 hj with hj | hj
        · exact n3 i hi i (by simp [hj]) rfl
        · have := hlt i (by simp [hi]); have := hge i hj; omega
  · intro i hi
    simp only [List.mem_append] at hi
    rcases hi with hi | hi | hi | hi
    · exact h.ge i (by simp [hi])
    · exact hv'B i (mem_blk.1 hi)
    · exact h.ge i (by simp [hi])
    · have := hge i hi; omega
theorem nodeInfo : (Tryz.prog.info? 27).map (fun i => (i.zero, i.size, i.bytes)) = some (some (.agg #[.int .i64 0, .int .i64 0, .int .u64 0, .string ⟨#[]⟩, .slice none 0 0, .slice none 0 0]), 6, 88) := by kernel_rfl
/-- The node row. -/
def nodeCells (kd nn u : Int) (s : List UInt8) (kv lv : Value) : Array Value := #[.int .i64 kd, .int .i64 nn, .int .u64 u, .string ⟨s.toArray⟩, kv, lv]
theorem row_at {w : World} {g : Nat} {cs : Array Value} {e : TypeId} {fr : Nat × Nat} (h : w.heap[g]? = some (.cells cs e fr)) : ∀ j x, cs.toList[j]? = some x → w.cell? ((⟨g, 0, none⟩ : Addr).add j) = some x := by
  intro j x hj
  have := cell_of_row w g (0 + j) cs e fr h
  rw [show ((⟨g, 0, none⟩ : Addr).add j) = ⟨g, 0 + j, none⟩ by simp only [Addr.add]; split <;> simp_all, this, Nat.zero_add, ← Array.getElem?_toList]
  exact hj
theorem touch6 {w : World} {Y : Nat} (v0 v1 v2 v3 v4 v5 : Value) : Touch [Y] w ((((((w.setCell ⟨Y, 0, none⟩ v0).setCell ⟨Y, 1, none⟩ v1).setCell ⟨Y, 2, none⟩ v2).setCell ⟨Y, 3, none⟩ v3).setCell ⟨Y, 4, none⟩ v4).setCell ⟨Y, 5, none⟩ v5) :=
  (((((Touch.setCell _ _ _ _).trans (Touch.setCell _ _ _ _)).trans (Touch.setCell _ _ _ _)).trans (Touch.setCell _ _ _ _)).trans (Touch.setCell _ _ _ _)).trans (Touch.setCell _ _ _ _)
theorem owns_sl {w : World} {B : Nat} {e : TypeId} {sz n : Nat} {v : Value} {xs : List Value} (h : w.ownsRow B e sz v n xs) : ∃ A m c, v = .slice A m c := by
  obtain ⟨A, c, rfl⟩ := owns_ptr h
  exact ⟨_, _, _, rfl⟩
theorem six_one {kd nn u : Int} {s : ByteArray} {A1 A2 : Option Addr} {m1 c1 m2 c2 : Nat} : ∀ v ∈ [Value.int .i64 kd, .int .i64 nn, .int .u64 u, .string s, .slice A1 m1 c1, .slice A2 m2 c2], v.oneCell' = true := by
  intro v hv
  simp only [List.mem_cons, List.not_mem_nil, or_false] at hv
  rcases hv with rfl | rfl | rfl | rfl | rfl | rfl <;> rfl
theorem cells6 {w : World} {Y : Nat} {v0 v1 v2 v3 v4 v5 : Value} {ty : TypeId} (h : w.heap[Y]? = some (.cells #[v0, v1, v2, v3, v4, v5] ty (0, 0))) :
    w.cell? ⟨Y, 0, none⟩ = some v0 ∧ w.cell? ⟨Y, 1, none⟩ = some v1 ∧ w.cell? ⟨Y, 2, none⟩ = some v2 ∧ w.cell? ⟨Y, 3, none⟩ = some v3 ∧ w.cell? ⟨Y, 4, none⟩ = some v4 ∧ w.cell? ⟨Y, 5, none⟩ = some v5 :=
  ⟨cell_of_row _ _ _ _ _ _ h, cell_of_row _ _ _ _ _ _ h, cell_of_row _ _ _ _ _ _ h, cell_of_row _ _ _ _ _ _ h, cell_of_row _ _ _ _ _ _ h, cell_of_row _ _ _ _ _ _ h⟩
mutual
def sizeD : DT → Int
  | .mk _ _ _ _ _ l => 1 + sizesD l
def sizesD : List DT → Int
  | [] => 0
  | t :: ts => sizeD t + sizesD ts
end
mutual
def depthD : DT → Int
  | .mk _ _ _ _ _ l => 1 + depthsD l
def depthsD : List DT → Int
  | [] => 0
  | t :: ts => max (depthD t) (depthsD ts)
end
mutual
theorem sizeD_pos : ∀ T : DT, 1 ≤ sizeD T
  | .mk _ _ _ _ _ l => by
    rw [sizeD]
    have := sizesD_nonneg l
    omega
theorem sizesD_nonneg : ∀ l : List DT, 0 ≤ sizesD l
  | [] => by rw [sizesD]; omega
  | t :: ts => by
    rw [sizesD]
    have := sizeD_pos t
    have := sizesD_nonneg ts
    omega
end
theorem depthsD_nonneg : ∀ l : List DT, 0 ≤ depthsD l
  | [] => by rw [depthsD]; omega
  | t :: ts => by
    rw [depthsD]
    have := depthsD_nonneg ts
    omega
theorem depthD_pos (T : DT) : 1 ≤ depthD T := by
  cases T with
  | mk kd n u s ks l => rw [depthD]; have := depthsD_nonneg l; omega
end
end
end Go.Proofs.YtccmhhmdenfecaaGreatDoor
