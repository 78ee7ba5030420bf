/- What decode's node, vector leave; a child is appended (no walk here). The walk of decode.walker's vector. -/
import Derived.Test.YtmpflnlajakibaaC12
import Derived.Test.YtmpflnlajakibaaIn
import Derived.Test.YtmpflnlajakibaaCb
namespace Go.Proofs.Ytmpflnlajakibaa
set_option linter.unusedVariables false
set_option linter.unusedSimpArgs false
set_option linter.unusedSectionVars false
section
open Go.RowKit
def NOk (ty : TypeId) (w : World) (lk b o n cap : Nat) (D : List UInt8) (dp : Int) (kd nn u : Int) (s : List UInt8) (ks : List (List UInt8)) (l : List DT) (f : Int) (en : Ending) (w' : World) : Prop :=
  ∃ kv lv xs bl a', en = .returned (.agg #[.int .i64 kd, .int .i64 nn, .int .u64 u, .string ⟨s.toArray⟩, kv, lv]) ∧ w'.ownsRow 0 9 1 kv ks.length (ks.map strV) ∧ w'.ownsRow 0 44 6 lv l.length xs ∧ NReps w' l xs bl ∧
    (blkL kv ++ (blkL lv ++ bl)).Nodup ∧ (∀ i ∈ blkL kv ++ (blkL lv ++ bl), w.heap.size ≤ i) ∧ DSt ty w' lk b o n cap D dp f a' 0 ∧ Touch [lk] w w'
def NNo (ty : TypeId) (w : World) (lk b o n cap : Nat) (D : List UInt8) (dp : Int) (a e : Int) (en : Ending) (w' : World) : Prop :=
  ∃ kd nn u s A1 m1 c1 A2 m2 c2 f, en = .returned (.agg #[.int .i64 kd, .int .i64 nn, .int .u64 u, .string s, .slice A1 m1 c1, .slice A2 m2 c2]) ∧ e ≠ 0 ∧ DSt ty w' lk b o n cap D dp f a e ∧ Touch [lk] w w'
/-- Of a reader of the program (its kind is set behind it). -/
def VPost (ty : TypeId) (kd : Int) (w : World) (lk b o n cap : Nat) (D : List UInt8) (dp : Int) (r : DR (DT × Int)) (en : Ending) (w' : World) : Prop := match r with
  | .ok (.mk _ nn u s ks l, f) => NOk ty w lk b o n cap D dp kd nn u s ks l f en w'
  | .error (a, e) => NNo ty w lk b o n cap D dp a e en w'
def NPost (ty : TypeId) (w : World) (lk b o n cap : Nat) (D : List UInt8) (dp : Int) (r : DR (DT × Int)) (en : Ending) (w' : World) : Prop := match r with
  | .ok (.mk kd nn u s ks l, f) => NOk ty w lk b o n cap D dp kd nn u s ks l f en w'
  | .error (a, e) => NNo ty w lk b o n cap D dp a e en w'
theorem mem_blk {v : Value} {i : Nat} : i ∈ blkL v ↔ v.ownBlock = some i := by simp [blkL]
/-- The vector so far. -/
structure Kids (w : World) (B : Nat) (ks : List (List UInt8)) (l : List DT) (kv lv : Value) (xs : List Value) (bl : List Nat) : Prop where
  k : w.ownsRow 0 9 1 kv ks.length (ks.map strV)
  r : w.ownsRow 0 44 6 lv l.length xs
  n : NReps w l xs bl
  nd : (blkL kv ++ (blkL lv ++ bl)).Nodup
  ge : ∀ i ∈ blkL kv ++ (blkL lv ++ bl), B ≤ i
theorem Kids.lt {w : World} {B : Nat} {ks : List (List UInt8)} {l : List DT} {kv lv : Value} {xs : List Value} {bl : List Nat} (h : Kids w B ks l kv lv xs bl) : ∀ i ∈ blkL kv ++ (blkL lv ++ bl), i < w.heap.size := by
  intro i hi
  simp only [List.mem_append] at hi
  rcases hi with hi | hi | hi
  · exact (h.k.lt i (mem_blk.1 hi)).2
  · exact (h.r.lt i (mem_blk.1 hi)).2
  · exact h.n.bd _ _ _ i hi
theorem Kids.same {w w' : World} {B : Nat} {ks : List (List UInt8)} {l : List DT} {kv lv : Value} {xs : List Value} {bl : List Nat} (h : Kids w B ks l kv lv xs bl) (hk : ∀ i ∈ blkL kv ++ (blkL lv ++ bl), w'.heap[i]? = w.heap[i]?) : Kids w' B ks l kv lv xs bl :=
  ⟨own_same2 h.k fun i hi => hk i (by simp [hi]), own_same2 h.r fun i hi => hk i (by simp [hi]), NReps.same _ _ _ h.n fun i hi => hk i (by simp [hi]), h.nd, h.ge⟩
theorem Kids.touch {w w' : World} {B lk : Nat} {ks : List (List UInt8)} {l : List DT} {kv lv : Value} {xs : List Value} {bl : List Nat} (h : Kids w B ks l kv lv xs bl) (ht : Touch [lk] w w') (hl : lk < B) : Kids w' B ks l kv lv xs bl :=
  h.same fun i hi => ht.block i (h.lt i hi) (by have := h.ge i hi; simp; omega)
theorem Kids.push {wr W1 W2 w3 : World} {B lk : Nat} {ks : List (List UInt8)} {l : List DT} {kv lv v' : Value} {xs : List Value} {bl : List Nat} (h : Kids wr B ks l kv lv xs bl) (hl : lk < B)
    (ht : Touch [lk] wr W1) {T : DT} {c : List Value} {bs : List Nat} (hT : NRep W1 T c bs) (hnd : bs.Nodup) (hge : ∀ i ∈ bs, wr.heap.size ≤ i) (hB : B ≤ wr.heap.size)
    (h2 : Below W1.heap.size W1 W2) (hg : W2.grownBy w3 lv.ownBlock) (ho : w3.ownsRow 0 44 6 v' (l.length + 1) (xs ++ c)) (hw : v'.ownBlock = lv.ownBlock ∨ v'.ownBlock = some W2.heap.size) :
    Kids w3 B ks (l ++ [T]) kv v' (xs ++ c) (bl ++ bs) := by
  have s1 := ht.size
  have s2 := h2.size
  have s3 := hg.size
  have hlt := h.lt
  have hbs := NRep.bd T c bs hT
  have hnd0 := h.nd
  rw [List.nodup_append] at hnd0
  obtain ⟨n1, n2, n3⟩ := hnd0
  rw [List.nodup_append] at n2
  obtain ⟨n4, n5, n6⟩ := n2
  have old : ∀ i ∈ blkL kv ++ (blkL lv ++ bl), W2.heap[i]? = wr.heap[i]? := fun i hi =>
    (h2.block i (by have := hlt i hi; omega)).trans (ht.block i (hlt i hi) (by have := h.ge i hi; simp; omega))
  have three : ∀ i, i < W2.heap.size → lv.ownBlock ≠ some i → w3.heap[i]? = W2.heap[i]? := fun i hi hn => hg.block i hi (fun e => hn e.symm)
  have hlv : ∀ i, lv.ownBlock = some i → B ≤ i ∧ i < wr.heap.size := fun i hi => ⟨h.ge i (by simp [mem_blk, hi]), hlt i (by simp [mem_blk, hi])⟩
  have hv' : ∀ i, v'.ownBlock = some i → (lv.ownBlock = some i) ∨ i = W2.heap.size := fun i hi => by
    rcases hw with hw | hw
    · rw [hw] at hi; exact .inl hi
    · rw [hw] at hi; injection hi with hi; exact .inr hi.symm
  have hv'B : ∀ i, v'.ownBlock = some i → B ≤ i := fun i hi => by
    rcases hv' i hi with x | x
    · exact (hlv i x).1
    · omega
  have kvne : ∀ i ∈ blkL kv, lv.ownBlock ≠ some i := fun i hi e => n3 i hi i (by simp [mem_blk, e]) rfl
  have blne : ∀ i ∈ bl, lv.ownBlock ≠ some i := fun i hi e => n6 i (mem_blk.2 e) i hi rfl
  have hold : ∀ i ∈ blkL kv ++ (blkL lv ++ bl), lv.ownBlock ≠ some i → w3.heap[i]? = wr.heap[i]? := fun i hi hn =>
    (three i (by have := hlt i hi; omega) hn).trans (old i hi)
  have hnew : ∀ i ∈ bs, w3.heap[i]? = W1.heap[i]? := fun i hi =>
    (three i (by have := hbs i hi; omega) (fun e => by have := (hlv i e).2; have := hge i hi; omega)).trans (h2.block i (hbs i hi))
  refine ⟨own_same2 h.k fun i hi => hold i (by simp [hi]) (kvne i hi), ?_, NReps.snoc _ _ _ _ _ _ (NReps.same _ _ _ h.n fun i hi => hold i (by simp [hi]) (blne i hi)) (NRep.same _ _ _ hT hnew), ?_, ?_⟩
  · rw [List.length_append]
    exact ho
  · rw [List.nodup_append]
    refine ⟨n1, ?_, ?_⟩
    · rw [List.nodup_append]
      refine ⟨?_, ?_, ?_⟩
      · unfold blkL; cases v'.ownBlock <;> simp
      · rw [List.nodup_append]
        exact ⟨n5, hnd, fun i hi j hj e => by subst e; have := hlt i (by simp [hi]); have := hge i hj; omega⟩
      · intro i hi j hj e
        subst e
        rcases List.mem_append.1 hj with hj | hj
        · rcases hv' i (mem_blk.1 hi) with x | x
          · exact blne i hj x
          · have := hlt i (by simp [hj]); omega
        · rcases hv' i (mem_blk.1 hi) with x | x
          · have := (hlv i x).2; have := hge i hj; omega
          · have := hbs i hj; omega
    · intro i hi j hj e
      subst e
      rcases List.mem_append.1 hj with hj | hj
      · rcases hv' i (mem_blk.1 hj) with x | x
        · exact kvne i hi x
        · have := hlt i (by simp [hi]); omega
      · rcases List.mem_append.1 hj with hj | hj
        · exact n3 i hi i (by simp [hj]) rfl
        · have := hlt i (by simp [hi]); have := hge i hj; omega
  · intro i hi
    simp only [List.mem_append] at hi
    rcases hi with hi | hi | hi | hi
    · exact h.ge i (by simp [hi])
    · exact hv'B i (mem_blk.1 hi)
    · exact h.ge i (by simp [hi])
    · have := hge i hi; omega
theorem npost_shape {ty : TypeId} {w : World} {lk b o n cap : Nat} {D : List UInt8} {dp : Int} {r : DR (DT × Int)} {en : Ending} {w' : World} (h : NPost ty w lk b o n cap D dp r en w') :
    ∃ kd nn u s A1 m1 c1 A2 m2 c2, en = .returned (.agg #[.int .i64 kd, .int .i64 nn, .int .u64 u, .string s, .slice A1 m1 c1, .slice A2 m2 c2]) ∧ Touch [lk] w w' ∧ (∃ f a e, DSt ty w' lk b o n cap D dp f a e) ∧ NPost ty w lk b o n cap D dp r en w' := by
  have h0 := h
  rcases r with ⟨a, e⟩ | ⟨⟨kd, nn, u, s, ks, l⟩, f⟩
  · obtain ⟨kd, nn, u, s, A1, m1, c1, A2, m2, c2, f, he, -, hd, ht⟩ := h
    exact ⟨_, _, _, _, _, _, _, _, _, _, he, ht, ⟨_, _, _, hd⟩, h0⟩
  · obtain ⟨kv, lv, xs, bl, a', he, o1, o2, -, -, -, hd, ht⟩ := h
    rcases o1.2 with ⟨rfl, -⟩ | ⟨g1, x1, y1, rfl, -⟩ <;> rcases o2.2 with ⟨rfl, -⟩ | ⟨g2, x2, y2, rfl, -⟩ <;> exact ⟨_, _, _, _, _, _, _, _, _, _, he, ht, ⟨_, _, _, hd⟩, h0⟩
end
section
open Go.RowKit
theorem nodeInfo : (Try.prog.info? 44).map (fun i => (i.zero, i.size, i.bytes)) = some (some (.agg #[.int .i64 0, .int .i64 0, .int .u64 0, .string ⟨#[]⟩, .slice none 0 0, .slice none 0 0]), 6, 88) := by kernel_rfl
/-- The node row. -/
def nodeCells (kd nn u : Int) (s : List UInt8) (kv lv : Value) : Array Value := #[.int .i64 kd, .int .i64 nn, .int .u64 u, .string ⟨s.toArray⟩, kv, lv]
def plcCells (p q t k a d : Int) : Array Value := #[.int .i64 p, .int .i64 q, .int .i64 t, .int .i64 k, .int .i64 a, .int .i64 d]
theorem row_at {w : World} {g : Nat} {cs : Array Value} {e : TypeId} {fr : Nat × Nat} (h : w.heap[g]? = some (.cells cs e fr)) : ∀ j x, cs.toList[j]? = some x → w.cell? ((⟨g, 0, none⟩ : Addr).add j) = some x := by
  intro j x hj
  have := cell_of_row w g (0 + j) cs e fr h
  rw [show ((⟨g, 0, none⟩ : Addr).add j) = ⟨g, 0 + j, none⟩ by simp only [Addr.add]; split <;> simp_all, this, Nat.zero_add, ← Array.getElem?_toList]
  exact hj
def InF (F fu : Int) : Prop := 0 ≤ fu ∧ fu ≤ F
def HypNode (F : Int) (ty : TypeId) (nodeF : Nat) (dec : DecF) (lk b o n cap : Nat) (D : List UInt8) (dp lim d : Int) : Prop :=
  ∀ W fu a' p' q' t' k', DSt ty W lk b o n cap D dp fu a' 0 → InF F fu → mayE n p' q' t' k' = 0 → Calls Try.prog nodeF #[.pointer (some ⟨lk, 0, none⟩), .agg #[.int .i64 p', .int .i64 q', .int .i64 t', .int .i64 k'], .int .i64 lim, .int .i64 d] W
    (NPost ty W lk b o n cap D dp (dec p' q' t' k' lim d fu))
/-- More fuel is never left. -/
def DecGood (F : Int) (dec : DecF) : Prop := ∀ p q t k lim d fu T f, InF F fu → dec p q t k lim d fu = .ok (T, f) → InF F f
def finV (t : Int) (ks : List (List UInt8)) (rl : DR (List DT × Int)) : DR (DT × Int) := match rl with
  | .error x => .error x
  | .ok (l, f) => .ok (.mk (kindD t) 0 0 [] ks l, f)
/-- The state of the loop: good, or failed. -/
def VSt (F : Int) (ty : TypeId) (B : Nat) (Y : Nat) (kd : Int) (wr : World) (lk b o n cap : Nat) (D : List UInt8) (dp : Int) (dec : DecF) (p q t k a d : Int) (ks : List (List UInt8)) (rl : DR (List DT × Int)) (j : Nat) : Prop :=
  (∃ kv lv xs bl acc fu a', wr.heap[Y]? = some (.cells (nodeCells kd 0 0 [] kv lv) 44 (0, 0)) ∧ Kids wr B ks acc kv lv xs bl ∧ acc.length = j ∧ DSt ty wr lk b o n cap D dp fu a' 0 ∧ InF F fu ∧
    vloopD dec D p q t k a d ((lCnt D p q t k).toNat - j) j acc fu = rl) ∨
  ∃ A1 m1 c1 A2 m2 c2 ae ee f, wr.heap[Y]? = some (.cells (nodeCells kd 0 0 [] (.slice A1 m1 c1) (.slice A2 m2 c2)) 44 (0, 0)) ∧ rl = .error (ae, ee) ∧ ee ≠ 0 ∧ DSt ty wr lk b o n cap D dp f ae ee
theorem touch6 {w : World} {Y : Nat} (v0 v1 v2 v3 v4 v5 : Value) : Touch [Y] w ((((((w.setCell ⟨Y, 0, none⟩ v0).setCell ⟨Y, 1, none⟩ v1).setCell ⟨Y, 2, none⟩ v2).setCell ⟨Y, 3, none⟩ v3).setCell ⟨Y, 4, none⟩ v4).setCell ⟨Y, 5, none⟩ v5) :=
  (((((Touch.setCell _ _ _ _).trans (Touch.setCell _ _ _ _)).trans (Touch.setCell _ _ _ _)).trans (Touch.setCell _ _ _ _)).trans (Touch.setCell _ _ _ _)).trans (Touch.setCell _ _ _ _)
theorem owns_sl {w : World} {B : Nat} {e : TypeId} {sz n : Nat} {v : Value} {xs : List Value} (h : w.ownsRow B e sz v n xs) : ∃ A m c, v = .slice A m c := by
  obtain ⟨A, c, rfl⟩ := owns_ptr h
  exact ⟨_, _, _, rfl⟩
theorem six_one {kd nn u : Int} {s : ByteArray} {A1 A2 : Option Addr} {m1 c1 m2 c2 : Nat} : ∀ v ∈ [Value.int .i64 kd, .int .i64 nn, .int .u64 u, .string s, .slice A1 m1 c1, .slice A2 m2 c2], v.oneCell' = true := by
  intro v hv
  simp only [List.mem_cons, List.not_mem_nil, or_false] at hv
  rcases hv with rfl | rfl | rfl | rfl | rfl | rfl <;> rfl
/-- The loop behind a child: its cells are appended to the row. -/
theorem Kids.next {F : Int} {ty : TypeId} {B : Nat} {wv w1 w3 : World} {lk b o n cap : Nat} {D : List UInt8} {dp : Int} {dec : DecF} {p q t k a d : Int} {ks : List (List UInt8)} {rl : DR (List DT × Int)} {j r' : Nat} {acc : List DT} {kv lv v' : Value} {xs : List Value} {bl : List Nat}
    {res : DR (DT × Int)} {kd1 nn1 u1 : Int} {s1 : ByteArray} {A1 A2 : Option Addr} {m1 c1 m2 c2 : Nat} (hkv : Kids wv B ks acc kv lv xs bl) (hl : lk < B) (hb : b < B) (hB : B ≤ wv.heap.size)
    (hp : NPost ty wv lk b o n cap D dp res (.returned (.agg #[.int .i64 kd1, .int .i64 nn1, .int .u64 u1, .string s1, .slice A1 m1 c1, .slice A2 m2 c2])) w1)
    (hg : (w1.alloc (.cells #[.int .i64 kd1, .int .i64 nn1, .int .u64 u1, .string s1, .slice A1 m1 c1, .slice A2 m2 c2] 44)).grownBy w3 lv.ownBlock) (ho : w3.ownsRow 0 44 6 v' (acc.length + 1) (xs ++ [.int .i64 kd1, .int .i64 nn1, .int .u64 u1, .string s1, .slice A1 m1 c1, .slice A2 m2 c2]))
    (hw : v'.ownBlock = lv.ownBlock ∨ v'.ownBlock = some (w1.alloc (.cells #[.int .i64 kd1, .int .i64 nn1, .int .u64 u1, .string s1, .slice A1 m1 c1, .slice A2 m2 c2] 44)).heap.size)
    (hm : (match res with | .error x => .error x | .ok (y, fu') => vloopD dec D p q t k a d r' (j + 1) (acc ++ [y]) fu') = rl) (hr' : (lCnt D p q t k).toNat - (j + 1) = r') (hacc : acc.length = j) (hgood : ∀ T f, res = .ok (T, f) → InF F f) :
    (∀ i, i < wv.heap.size → i ≠ lk → lv.ownBlock ≠ some i → w3.heap[i]? = wv.heap[i]?) ∧
    ((∃ xs' bl' acc' fu a', Kids w3 B ks acc' kv v' xs' bl' ∧ acc'.length = j + 1 ∧ DSt ty w3 lk b o n cap D dp fu a' 0 ∧ InF F fu ∧ vloopD dec D p q t k a d ((lCnt D p q t k).toNat - (j + 1)) (j + 1 : Nat) acc' fu = rl) ∨
      ∃ ae ee f, rl = .error (ae, ee) ∧ ee ≠ 0 ∧ DSt ty w3 lk b o n cap D dp f ae ee) := by
  obtain ⟨_, _, _, _, _, _, _, _, _, _, -, ht1, -, -⟩ := npost_shape hp
  have hb2 : Below w1.heap.size w1 (w1.alloc (.cells #[.int .i64 kd1, .int .i64 nn1, .int .u64 u1, .string s1, .slice A1 m1 c1, .slice A2 m2 c2] 44)) := (Below.refl _ _).alloc (Nat.le_refl _) _
  have hlvB : ∀ i, lv.ownBlock = some i → B ≤ i ∧ i < wv.heap.size := fun i hi => ⟨hkv.ge i (by simp [mem_blk, hi]), hkv.lt i (by simp [mem_blk, hi])⟩
  have hs1 := ht1.size
  have hs2 := hb2.size
  have same : ∀ i, i < wv.heap.size → i ≠ lk → lv.ownBlock ≠ some i → w3.heap[i]? = wv.heap[i]? := fun i hi hn he =>
    (hg.block i (by omega) (fun e => he e.symm)).trans ((hb2.block i (by omega)).trans (ht1.block i hi (by simpa using hn)))
  have hnl : lv.ownBlock ≠ some lk := fun e => by have := (hlvB lk e).1; omega
  have hnb : lv.ownBlock ≠ some b := fun e => by have := (hlvB b e).1; omega
  refine ⟨same, ?_⟩
  rcases res with ⟨ae, ee⟩ | ⟨⟨kd, nn, u, s, ks1, l1⟩, f⟩
  · obtain ⟨_, _, _, _, _, _, _, _, _, _, f, -, he0, hd, -⟩ := hp
    exact .inr ⟨ae, ee, f, hm.symm, he0, (hd.keep hd.low hb2 (Nat.le_refl _)).grown hg hnl hnb⟩
  · obtain ⟨kv1, lv1, xs1, bl1, a', he, o1, o2, o3, nd1, ge1, hd, -⟩ := hp
    injection he with he
    injection he with he
    simp only [Array.mk.injEq, List.cons.injEq, Value.int.injEq, Value.string.injEq, true_and, and_true] at he
    obtain ⟨rfl, rfl, rfl, rfl, rfl, rfl⟩ := he
    have hT : NRep w1 (.mk kd1 nn1 u1 s ks1 l1) [.int .i64 kd1, .int .i64 nn1, .int .u64 u1, .string ⟨s.toArray⟩, .slice A1 m1 c1, .slice A2 m2 c2] (blkL (.slice A1 m1 c1) ++ (blkL (.slice A2 m2 c2) ++ bl1)) := by
      rw [NRep]; exact ⟨_, _, _, _, rfl, o1, o2, o3, rfl⟩
    refine .inl ⟨_, _, _, f, a', hkv.push hl ht1 hT nd1 ge1 hB hb2 hg ho hw, by simp [hacc], (hd.keep hd.low hb2 (Nat.le_refl _)).grown hg hnl hnb, hgood _ _ rfl, ?_⟩
    rw [hr']
    exact hm
theorem VSt.step {F : Int} {ty : TypeId} {w w3 : World} {kd : Int} {lk b o n cap : Nat} {D : List UInt8} {dp : Int} {dec : DecF} {p q t k a d : Int} {ks : List (List UInt8)} {rl : DR (List DT × Int)} {j : Nat} {A1 A2 A' : Option Addr} {m1 c1 m2 c2 n' c' : Nat} {X : Obj} (hl : lk < w.heap.size) (hb : b < w.heap.size)
    (h : Touch [lk] w w3 ∧ w.heap.size + 1 < w3.heap.size ∧ w3.heap[w.heap.size]? = some X ∧ w3.heap[w.heap.size + 1]? = some (.cells (nodeCells kd 0 0 [] (.slice A1 m1 c1) (.slice A2 m2 c2)) 44 (0, 0)) ∧
      ((∃ xs' bl' acc' fu a', Kids w3 (w.heap.size + 2) ks acc' (.slice A1 m1 c1) (.slice A' n' c') xs' bl' ∧ acc'.length = j + 1 ∧ DSt ty w3 lk b o n cap D dp fu a' 0 ∧ InF F fu ∧ vloopD dec D p q t k a d ((lCnt D p q t k).toNat - (j + 1)) (j + 1 : Nat) acc' fu = rl) ∨
      ∃ ae ee f, rl = .error (ae, ee) ∧ ee ≠ 0 ∧ DSt ty w3 lk b o n cap D dp f ae ee)) :
    Touch [lk] w (w3.setCell ⟨w.heap.size + 1, 5, none⟩ (.slice A' n' c')) ∧ w.heap.size + 1 < (w3.setCell ⟨w.heap.size + 1, 5, none⟩ (.slice A' n' c')).heap.size ∧ (w3.setCell ⟨w.heap.size + 1, 5, none⟩ (.slice A' n' c')).heap[w.heap.size]? = some X ∧
      VSt F ty (w.heap.size + 2) (w.heap.size + 1) kd (w3.setCell ⟨w.heap.size + 1, 5, none⟩ (.slice A' n' c')) lk b o n cap D dp dec p q t k a d ks rl (j + 1) := by
  obtain ⟨t1, t2, t3, t4, t5⟩ := h
  have hy : (w3.setCell ⟨w.heap.size + 1, 5, none⟩ (.slice A' n' c')).heap[w.heap.size + 1]? = some (.cells (nodeCells kd 0 0 [] (.slice A1 m1 c1) (.slice A' n' c')) 44 (0, 0)) := (heap_setCell_same _ _ _ _ _ _ t4).trans rfl
  refine ⟨Tch.touch ((t1.tch (Nat.le_refl _)).setCell (show w.heap.size ≤ w.heap.size + 1 by omega) _), by rw [World.size_setCell]; exact t2, (heap_setCell_other _ _ _ _ (show w.heap.size ≠ w.heap.size + 1 by omega)).trans t3, ?_⟩
  rcases t5 with ⟨xs', bl', acc', fu', a', hk, hlen, hd, hf, hm⟩ | ⟨ae, ee, f, hrl, he, hd⟩
  · exact .inl ⟨_, _, xs', bl', acc', fu', a', hy, hk.same (fun i hi => heap_setCell_other _ _ _ _ (show i ≠ w.heap.size + 1 by have := hk.ge i hi; omega)), hlen, hd.still (Touch.setCell _ _ _ _) (by simp; omega) (by simp; omega), hf, hm⟩
  · exact .inr ⟨_, _, _, _, _, _, ae, ee, f, hy, hrl, he, hd.still (Touch.setCell _ _ _ _) (by simp; omega) (by simp; omega)⟩
section
variable {w : World} {lk b o n cap : Nat} {D : List UInt8} {dp fu a0 : Int}
set_option maxHeartbeats 8000000 in
set_option maxRecDepth 100000 in
theorem dvec_e (F : Int) (dec : DecF) (hdg : DecGood F dec) (h : DSt 76 w lk b o n cap D dp fu a0 0) (hfu : InF F fu) (p q t k a d : Int) (ha0 : 0 ≤ a) (ha1 : a ≤ 1073741824) (hd0 : 0 ≤ d) (hd1 : d ≤ 2147483648)
    (HN : HypNode F 76 33 dec lk b o n cap D dp (lFrom D p q t k) (d + 1)) (he : lfindE D p q t k ≠ 0) (r : DR (DT × Int)) (hr : vecD dec D p q t k a d fu = r) :
    Calls Try.prog 67 #[.pointer (some ⟨lk, 0, none⟩), plcV p q t k a d] w (VPost 76 0 w lk b o n cap D dp r) := by
  have H_he := Lib.hid he
  clear he
  have hlow := h.low
  have hD := h.doc
  obtain ⟨hn1, hn2⟩ := hD.bd
  have hbw := hlow.b
  have hlw := hlow.l
  have hHR := Lib.hid hr
  have hHN := Lib.hid HN
  have HSp := Lib.hid (fun W (hW : Doc W b o n cap D) => span_any b o n cap D p q t k W hW)
  have HLe := Lib.hid (fun W (hW : Doc W b o n cap D) => len_any b o n cap D p q t k W hW)
  clear hr HN
  go_enter Try.func67, Try.ntmps67
  go_upto_region 1 with fail
  refine wp_named (fun wn => Touch [lk] w wn ∧ DSt 76 wn lk b o n cap D dp fu a0 0 ∧ w.heap.size + 1 < wn.heap.size ∧ wn.heap[w.heap.size]? = some (.cells (plcCells p q t k a d) 112 (0, 0)) ∧ wn.heap[w.heap.size + 1]? = some (.cells (nodeCells 0 0 0 [] (.slice none 0 0) (.slice none 0 0)) 44 (0, 0))) ⟨Touch.quiet zw, h.keep hlow zw (Nat.le_refl _), by simp, heap_made_1 _ _ _, heap_made_2 _ _ _⟩ ?_
  rintro wn ⟨htn, hKn, hY, hXb, hYb⟩
  have hX : w.heap.size < wn.heap.size := by omega
  have hnX : w.heap.size ∉ [lk] := by simp; omega
  have hnY : w.heap.size + 1 ∉ [lk] := by simp; omega
  have gln : lk < wn.heap.size := hKn.lkt
  have hDn := hKn.doc
  have z0 : wn.cell? ⟨w.heap.size, 0, none⟩ = some (.int .i64 p) := cell_of_row _ _ _ _ _ _ hXb
  have z1 : wn.cell? ⟨w.heap.size, 1, none⟩ = some (.int .i64 q) := cell_of_row _ _ _ _ _ _ hXb
  have z2 : wn.cell? ⟨w.heap.size, 2, none⟩ = some (.int .i64 t) := cell_of_row _ _ _ _ _ _ hXb
  have z3 : wn.cell? ⟨w.heap.size, 3, none⟩ = some (.int .i64 k) := cell_of_row _ _ _ _ _ _ hXb
  have z4 := hKn.c0
  go_region_held3 (fun w' => w'.cell? ⟨w.heap.size, 0, none⟩ = some (.int .i64 p) ∧ w'.cell? ⟨w.heap.size, 1, none⟩ = some (.int .i64 q) ∧ w'.cell? ⟨w.heap.size, 2, none⟩ = some (.int .i64 t) ∧ w'.cell? ⟨w.heap.size, 3, none⟩ = some (.int .i64 k) ∧ w'.cell? ⟨lk, 0, none⟩ = some (.slice (some ⟨b, o, none⟩) n cap)) (first | (with_reducible exact ⟨z0, z1, z2, z3, z4⟩) | (with_reducible exact ⟨k0, k1, k2, k3, k4⟩) | (refine ⟨?_, ?_, ?_, ?_, ?_⟩ <;> go_keep)) (((go_at_call 103; refine (HSp.out _ (hDn.below zw)).mono ?_; rintro e w1 ⟨rfl, hb1⟩; obtain ⟨hc1, hf1, hl1⟩ := bcell hb1; (try simp only [zdz] at hc1 hf1 hl1); have hz1 := hb1.size; (try simp only [zsz] at hz1); (try have g0 : w.heap.size < w1.heap.size := by omega); (try have g1 : w.heap.size + 1 < w1.heap.size := by omega); (try have gl : lk < w1.heap.size := by omega))))
  go_upto_region 2 with fail
  refine wp_named (fun wx => Touch [lk] wn wx ∧ DSt 76 wx lk b o n cap D dp fu a0 0) ⟨Touch.quiet zw, hKn.keep hKn.low zw (Nat.le_refl _)⟩ ?_
  clear hb1 hc1 hf1 hl1 hz1 gl z0 z1 z2 z3 z4 hDn
  rintro wx ⟨htx, hKx⟩
  have hXx := (htx.block _ hX hnX).trans hXb
  have hYx := (htx.block _ hY hnY).trans hYb
  have hX' : w.heap.size < wx.heap.size := Nat.lt_of_lt_of_le hX htx.size
  have hY' : w.heap.size + 1 < wx.heap.size := Nat.lt_of_lt_of_le hY htx.size
  have y4 : wx.cell? ⟨w.heap.size, 4, none⟩ = some (.int .i64 a) := cell_of_row _ _ _ _ _ _ hXx
  have htw := htn.trans htx
  clear htx htn hKn hXb hYb hX hY gln
  have he := H_he.out
  have hr := hHR.out
  unfold vecD at hr
  rw [if_pos he] at hr
  subst hr
  have HE := Lib.hid he
  clear he hHR HLe
  go_upto_region 3 with (go_at_call 64; refine (dtell_no hKx a (lfindE D p q t k) HE.out).mono ?_; rintro e w1 ⟨rfl, hv1, ht1⟩)
  have hYz := (ht1.block _ hY' hnY).trans hYx
  have hYs := Nat.lt_of_lt_of_le hY' ht1.size
  have hfz := fun (j : Nat) => frozen_of_row _ _ j _ _ hYz
  have n0 : w1.cell? ⟨w.heap.size + 1, 0, none⟩ = some (.int .i64 0) := cell_of_row _ _ _ _ _ _ hYz
  have n1 : w1.cell? ⟨w.heap.size + 1, 1, none⟩ = some (.int .i64 0) := cell_of_row _ _ _ _ _ _ hYz
  have n2 : w1.cell? ⟨w.heap.size + 1, 2, none⟩ = some (.int .u64 0) := cell_of_row _ _ _ _ _ _ hYz
  have n3 : w1.cell? ⟨w.heap.size + 1, 3, none⟩ = some (.string ⟨#[]⟩) := cell_of_row _ _ _ _ _ _ hYz
  have n4 : w1.cell? ⟨w.heap.size + 1, 4, none⟩ = some (.slice none 0 0) := cell_of_row _ _ _ _ _ _ hYz
  have n5 : w1.cell? ⟨w.heap.size + 1, 5, none⟩ = some (.slice none 0 0) := cell_of_row _ _ _ _ _ _ hYz
  go_wp2
  refine bodyPost_ret (v := .agg #[.int .i64 0, .int .i64 0, .int .u64 0, .string ⟨#[]⟩, .slice none 0 0, .slice none 0 0]) (by simp [results, Try.results67, go_sem, *]) rfl ?_
  exact ⟨0, 0, 0, ⟨#[]⟩, none, 0, 0, none, 0, 0, fu, rfl, HE.out, hv1.keep (B := w.heap.size + 1) (hlow.mono (by omega)) zw (by omega), Tch.touch (Tch.trans (htw.tch (Nat.le_refl _)) (Tch.trans (ht1.tch (by have := htw.size; omega)) (by (repeat' first | (with_reducible first | exact Tch.refl _ _ _ | assumption | refine Tch.alloc ?_ ?_ _ | refine Tch.drew ?_ | refine Tch.drewN ?_ _ | refine Tch.setCell ?_ ?_ _ | refine Tch.setBlock ?_ (by simp) _ | refine tch_call (by assumption) ?_ ?_ | refine tch_below (by assumption) ?_ ?_ | exact zb6 _) | omega | (simp only [zsz, size_setBlock]; omega) | (simp; omega)))))⟩
end
end
end Go.Proofs.Ytmpflnlajakibaa
