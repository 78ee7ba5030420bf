/- The walk of accordionlaw11.ParseLists. The walk of accordionlaw11.ParseLists. -/
import Derived.Test.YtccmhhmdenfecaaGreatDoorOf
import Derived.Test.YtccmhhmdenfecaaGreatDoorJn
namespace Go.Proofs.YtccmhhmdenfecaaGreatDoor
set_option linter.unusedVariables false
set_option linter.unusedSimpArgs false
section
section
open Go.RowKit Go.Shelf
/-- One child more, in one world. -/
theorem Kids.pushD {W2 w3 : World} {B : Nat} {ks : List (List UInt8)} {l : List DT} {kv lv v' : Value} {xs : List Value} {bl : List Nat} (h : Kids W2 B ks l kv lv xs bl) {T : DT} {c : List Value} {bs : List Nat} (hT : NRep W2 T c bs) (hnd : bs.Nodup) (hge : ∀ i ∈ bs, B ≤ i)
    (hdis : ∀ i ∈ bs, i ∉ blkL kv ++ (blkL lv ++ bl)) (hB : B ≤ W2.heap.size) (hg : W2.grownBy w3 lv.ownBlock) (ho : w3.ownsRow 0 27 6 v' (l.length + 1) (xs ++ c)) (hw : v'.ownBlock = lv.ownBlock ∨ v'.ownBlock = some W2.heap.size) :
    Kids w3 B ks (l ++ [T]) kv v' (xs ++ c) (bl ++ bs) := by
  have hlt := h.lt
  have hbs := NRep.bd T c bs hT
  have hnd0 := h.nd
  rw [List.nodup_append] at hnd0
  obtain ⟨n1, n2, n3⟩ := hnd0
  rw [List.nodup_append] at n2
  obtain ⟨n4, n5, n6⟩ := n2
  have three : ∀ i, i < W2.heap.size → lv.ownBlock ≠ some i → w3.heap[i]? = W2.heap[i]? := fun i hi hn => hg.block i hi (fun e => hn e.symm)
  have hv' : ∀ i, v'.ownBlock = some i → (lv.ownBlock = some i) ∨ i = W2.heap.size := fun i hi => by
    rcases hw with hw | hw
    · rw [hw] at hi; exact .inl hi
    · rw [hw] at hi; injection hi with hi; exact .inr hi.symm
  have kvne : ∀ i ∈ blkL kv, lv.ownBlock ≠ some i := fun i hi e => n3 i hi i (by simp [mem_blk, e]) rfl
  have blne : ∀ i ∈ bl, lv.ownBlock ≠ some i := fun i hi e => n6 i (mem_blk.2 e) i hi rfl
  have bsne : ∀ i ∈ bs, lv.ownBlock ≠ some i := fun i hi e => hdis i hi (by simp [mem_blk, e])
  refine ⟨own_same2 h.k fun i hi => three i (hlt i (by simp [hi])) (kvne i hi), ?_, NReps.snoc _ _ _ _ _ _ (NReps.same _ _ _ h.n fun i hi => three i (hlt i (by simp [hi])) (blne i hi)) (NRep.same _ _ _ hT fun i hi => three i (hbs i hi) (bsne i hi)), ?_, ?_⟩
  · rw [List.length_append]
    exact ho
  · rw [List.nodup_append]
    refine ⟨n1, ?_, ?_⟩
    · rw [List.nodup_append]
      refine ⟨?_, ?_, ?_⟩
      · unfold blkL; cases v'.ownBlock <;> simp
      · rw [List.nodup_append]
        exact ⟨n5, hnd, fun i hi j hj e => hdis j hj (by rw [← e]; simp [hi])⟩
      · intro i hi j hj e
        subst e
        rcases List.mem_append.1 hj with hj | hj
        · rcases hv' i (mem_blk.1 hi) with x | x
          · exact blne i hj x
          · have := hlt i (by simp [hj]); omega
        · rcases hv' i (mem_blk.1 hi) with x | x
          · exact bsne i hj x
          · have := hbs i hj; omega
    · intro i hi j hj e
      subst e
      rcases List.mem_append.1 hj with hj | hj
      · rcases hv' i (mem_blk.1 hj) with x | x
        · exact kvne i hi x
        · have := hlt i (by simp [hi]); omega
      · rcases List.mem_append.1 hj with hj | hj
        · exact n3 i hi i (by simp [hj]) rfl
        · exact hdis i hj (by simp [hi])
  · intro i hi
    simp only [List.mem_append] at hi
    rcases hi with hi | hi | hi | hi
    · exact h.ge i (by simp [hi])
    · rcases hv' i (mem_blk.1 hi) with x | x
      · exact h.ge i (by simp [mem_blk, x])
      · omega
    · exact h.ge i (by simp [hi])
    · exact hge i hi
/-- The list and the map so far: they share their children's blocks. -/
structure LSt (V B : Nat) (ks : List (List UInt8)) (acc accM : List DT) (lv kvM lvM : Value) (xs xsM : List Value) (bl blM : List Nat) (w : World) : Prop where
  v : w.heap[V]? = some (.cells (outC 10 (.slice none 0 0) lv) 27 (0, 0))
  m : w.heap[V + 1]? = some (.cells (outC 17 kvM lvM) 27 (0, 0))
  kv : Kids w B [] acc (.slice none 0 0) lv xs bl
  km : Kids w B ks accM kvM lvM xsM blM
  d1 : ∀ i ∈ blkL lv, i ∉ blkL kvM ++ (blkL lvM ++ blM)
  d2 : ∀ i ∈ blkL kvM ++ blkL lvM, i ∉ bl
theorem LSt.below {V B : Nat} {ks : List (List UInt8)} {acc accM : List DT} {lv kvM lvM : Value} {xs xsM : List Value} {bl blM : List Nat} {w w' : World} (h : LSt V B ks acc accM lv kvM lvM xs xsM bl blM w) (hb : Below w.heap.size w w') : LSt V B ks acc accM lv kvM lvM xs xsM bl blM w' :=
  ⟨(hb.block V (Array.getElem?_eq_some_iff.1 h.v).1).trans h.v, (hb.block (V + 1) (Array.getElem?_eq_some_iff.1 h.m).1).trans h.m, h.kv.same fun i hi => hb.block i (h.kv.lt i hi), h.km.same fun i hi => hb.block i (h.km.lt i hi), h.d1, h.d2⟩
theorem blk_none {i : Nat} : i ∉ blkL (.slice none 0 0) := by simp [blkL, Value.ownBlock]
theorem own_or {v' lv : Value} {n : Nat} (hw : v'.ownBlock = lv.ownBlock ∨ v'.ownBlock = some n) {i : Nat} (hi : i ∈ blkL v') : i ∈ blkL lv ∨ i = n := by
  rw [mem_blk] at hi
  rcases hw with hw | hw
  · rw [hw] at hi; exact .inl (mem_blk.2 hi)
  · rw [hw] at hi; injection hi with hi; exact .inr hi.symm
theorem LSt.pushV {V B : Nat} {ks : List (List UInt8)} {acc accM : List DT} {lv kvM lvM v' : Value} {xs xsM : List Value} {bl blM : List Nat} {w w3 : World} (h : LSt V B ks acc accM lv kvM lvM xs xsM bl blM w) (hV : V + 2 ≤ B) (hB : B ≤ w.heap.size) {T : DT} {c : List Value} {bs : List Nat} (hT : NRep w T c bs) (hnd : bs.Nodup) (hge : ∀ i ∈ bs, B ≤ i)
    (hdis : ∀ i ∈ bs, i ∉ blkL lv ++ (bl ++ (blkL kvM ++ (blkL lvM ++ blM)))) (hg : w.grownBy w3 lv.ownBlock) (ho : w3.ownsRow 0 27 6 v' (acc.length + 1) (xs ++ c)) (hw : v'.ownBlock = lv.ownBlock ∨ v'.ownBlock = some w.heap.size) :
    LSt V B ks (acc ++ [T]) accM v' kvM lvM (xs ++ c) xsM (bl ++ bs) blM (w3.setCell ⟨V, 5, none⟩ v') ∧ NRep (w3.setCell ⟨V, 5, none⟩ v') T c bs ∧ (∀ i, i < w.heap.size → i ≠ V → i ∉ blkL lv → (w3.setCell ⟨V, 5, none⟩ v').heap[i]? = w.heap[i]?) := by
  have hK := h.kv.pushD hT hnd hge (fun i hi hm => hdis i hi (by simp only [List.mem_append] at hm ⊢; rcases hm with hm | hm | hm; exact absurd hm blk_none; exact .inl hm; exact .inr (.inl hm))) hB hg ho hw
  have hoth : ∀ i, i < w.heap.size → i ≠ V → i ∉ blkL lv → (w3.setCell ⟨V, 5, none⟩ v').heap[i]? = w.heap[i]? := fun i hi hne hn =>
    (heap_setCell_other _ _ _ _ hne).trans (hg.block i hi fun e => hn (mem_blk.2 e.symm))
  have hlvB : ∀ i ∈ blkL lv, B ≤ i := fun i hi => h.kv.ge i (by simp [hi])
  have hv3 : w3.heap[V]? = some (.cells (outC 10 (.slice none 0 0) lv) 27 (0, 0)) := (hg.block V (by omega) fun e => by have := hlvB V (mem_blk.2 e.symm); omega).trans h.v
  have hrow := heap_setCell_same w3 V 5 _ _ v' hv3
  have hmb : ∀ i ∈ blkL kvM ++ (blkL lvM ++ blM), B ≤ i ∧ i < w.heap.size ∧ i ∉ blkL lv := fun i hi => ⟨h.km.ge i hi, h.km.lt i hi, fun hx => h.d1 i hx hi⟩
  have hbs := NRep.bd T c bs hT
  refine ⟨⟨hrow, (hoth (V + 1) (by omega) (by omega) fun hx => by have := hlvB _ hx; omega).trans h.m, hK.same fun i hi => heap_setCell_other _ _ _ _ (by have := hK.ge i hi; show i ≠ V; omega), h.km.same fun i hi => ?_, ?_, ?_⟩, NRep.same _ _ _ hT fun i hi => hoth i (hbs i hi) (by have := hge i hi; omega) (fun hx => hdis i hi (by simp [hx])), hoth⟩
  · obtain ⟨a1, a2, a3⟩ := hmb i hi
    exact hoth i a2 (by omega) a3
  · intro i hi hm
    obtain ⟨a1, a2, a3⟩ := hmb i hm
    rcases own_or hw hi with x | x
    · exact a3 x
    · omega
  · intro i hi hm
    rcases List.mem_append.1 hm with hm | hm
    · exact h.d2 i hi hm
    · refine hdis i hm ?_
      simp only [List.mem_append] at hi ⊢
      rcases hi with hi | hi
      · exact .inr (.inr (.inl hi))
      · exact .inr (.inr (.inr (.inl hi)))
theorem LSt.pushM {V B : Nat} {ks : List (List UInt8)} {acc accM : List DT} {lv kvM lvM v' : Value} {xs xsM : List Value} {bl blM : List Nat} {w w3 : World} (h : LSt V B ks acc accM lv kvM lvM xs xsM bl blM w) (hV : V + 2 ≤ B) (hB : B ≤ w.heap.size) {T : DT} {c : List Value} {bs : List Nat} (hT : NRep w T c bs) (hnd : bs.Nodup) (hge : ∀ i ∈ bs, B ≤ i)
    (hdis : ∀ i ∈ bs, i ∉ blkL kvM ++ (blkL lvM ++ blM)) (hsub : ∀ i ∈ bs, i ∈ bl) (hg : w.grownBy w3 lvM.ownBlock) (ho : w3.ownsRow 0 27 6 v' (accM.length + 1) (xsM ++ c)) (hw : v'.ownBlock = lvM.ownBlock ∨ v'.ownBlock = some w.heap.size) :
    LSt V B ks acc (accM ++ [T]) lv kvM v' xs (xsM ++ c) bl (blM ++ bs) (w3.setCell ⟨V + 1, 5, none⟩ v') ∧ (∀ i, i < w.heap.size → i ≠ V + 1 → i ∉ blkL lvM → (w3.setCell ⟨V + 1, 5, none⟩ v').heap[i]? = w.heap[i]?) := by
  have hK := h.km.pushD hT hnd hge hdis hB hg ho hw
  have hoth : ∀ i, i < w.heap.size → i ≠ V + 1 → i ∉ blkL lvM → (w3.setCell ⟨V + 1, 5, none⟩ v').heap[i]? = w.heap[i]? := fun i hi hne hn =>
    (heap_setCell_other _ _ _ _ hne).trans (hg.block i hi fun e => hn (mem_blk.2 e.symm))
  have hlvB : ∀ i ∈ blkL lvM, B ≤ i := fun i hi => h.km.ge i (by simp [hi])
  have hv3 : w3.heap[V + 1]? = some (.cells (outC 17 kvM lvM) 27 (0, 0)) := (hg.block (V + 1) (by omega) fun e => by have := hlvB (V + 1) (mem_blk.2 e.symm); omega).trans h.m
  have hrow := heap_setCell_same w3 (V + 1) 5 _ _ v' hv3
  have hvb : ∀ i ∈ blkL (.slice none 0 0) ++ (blkL lv ++ bl), B ≤ i ∧ i < w.heap.size ∧ i ∉ blkL lvM := fun i hi => ⟨h.kv.ge i hi, h.kv.lt i hi, fun hx => by
    simp only [List.mem_append] at hi
    rcases hi with hi | hi | hi
    · exact blk_none hi
    · exact h.d1 i hi (by simp [hx])
    · exact h.d2 i (by simp [hx]) hi⟩
  refine ⟨⟨(hoth V (by omega) (by omega) fun hx => by have := hlvB _ hx; omega).trans h.v, hrow, h.kv.same fun i hi => ?_, hK.same fun i hi => heap_setCell_other _ _ _ _ (by have := hK.ge i hi; show i ≠ V + 1; omega), ?_, ?_⟩, hoth⟩
  · obtain ⟨a1, a2, a3⟩ := hvb i hi
    exact hoth i a2 (by omega) a3
  · intro i hi hm
    have hn := h.kv.nd
    simp only [List.mem_append] at hm
    rcases hm with hm | hm | hm | hm
    · exact h.d1 i hi (by simp [hm])
    · rcases own_or hw hm with x | x
      · exact h.d1 i hi (by simp [x])
      · have := (hvb i (by simp [hi])).2.1; omega
    · exact h.d1 i hi (by simp [hm])
    · rw [List.nodup_append] at hn
      obtain ⟨-, hn, -⟩ := hn
      rw [List.nodup_append] at hn
      exact hn.2.2 i hi i (hsub i hm) rfl
  · intro i hi hm
    rcases List.mem_append.1 hi with hi | hi
    · exact h.d2 i (by simp [hi]) hm
    · rcases own_or hw hi with x | x
      · exact h.d2 i (by simp [x]) hm
      · have := (hvb i (by simp [hm])).2.1; omega
theorem LSt.pushK {V B : Nat} {ks : List (List UInt8)} {acc accM : List DT} {lv kvM lvM v' : Value} {xs xsM : List Value} {bl blM : List Nat} {w w3 : World} (h : LSt V B ks acc accM lv kvM lvM xs xsM bl blM w) (hV : V + 2 ≤ B) (hB : B ≤ w.heap.size) {k : List UInt8}
    (hg : w.grownBy w3 kvM.ownBlock) (ho : w3.ownsRow 0 9 1 v' (ks.length + 1) (ks.map strV ++ [strV k])) (hw : v'.ownBlock = kvM.ownBlock ∨ v'.ownBlock = some w.heap.size) :
    LSt V B (ks ++ [k]) acc accM lv v' lvM xs xsM bl blM (w3.setCell ⟨V + 1, 4, none⟩ v') ∧ (∀ i, i < w.heap.size → i ≠ V + 1 → i ∉ blkL kvM → (w3.setCell ⟨V + 1, 4, none⟩ v').heap[i]? = w.heap[i]?) := by
  have hK := h.km.pushK hB hg ho hw
  have hoth : ∀ i, i < w.heap.size → i ≠ V + 1 → i ∉ blkL kvM → (w3.setCell ⟨V + 1, 4, none⟩ v').heap[i]? = w.heap[i]? := fun i hi hne hn =>
    (heap_setCell_other _ _ _ _ hne).trans (hg.block i hi fun e => hn (mem_blk.2 e.symm))
  have hlvB : ∀ i ∈ blkL kvM, B ≤ i := fun i hi => h.km.ge i (by simp [hi])
  have hv3 : w3.heap[V + 1]? = some (.cells (outC 17 kvM lvM) 27 (0, 0)) := (hg.block (V + 1) (by omega) fun e => by have := hlvB (V + 1) (mem_blk.2 e.symm); omega).trans h.m
  have hrow := heap_setCell_same w3 (V + 1) 4 _ _ v' hv3
  have hvb : ∀ i ∈ blkL (.slice none 0 0) ++ (blkL lv ++ bl), B ≤ i ∧ i < w.heap.size ∧ i ∉ blkL kvM := fun i hi => ⟨h.kv.ge i hi, h.kv.lt i hi, fun hx => by
    simp only [List.mem_append] at hi
    rcases hi with hi | hi | hi
    · exact blk_none hi
    · exact h.d1 i hi (by simp [hx])
    · exact h.d2 i (by simp [hx]) hi⟩
  refine ⟨⟨(hoth V (by omega) (by omega) fun hx => by have := hlvB _ hx; omega).trans h.v, hrow, h.kv.same fun i hi => ?_, hK.same fun i hi => heap_setCell_other _ _ _ _ (by have := hK.ge i hi; show i ≠ V + 1; omega), ?_, ?_⟩, hoth⟩
  · obtain ⟨a1, a2, a3⟩ := hvb i hi
    exact hoth i a2 (by omega) a3
  · intro i hi hm
    simp only [List.mem_append] at hm
    rcases hm with hm | hm | hm
    · rcases own_or hw hm with x | x
      · exact h.d1 i hi (by simp [x])
      · have := (hvb i (by simp [hi])).2.1; omega
    · exact h.d1 i hi (by simp [hm])
    · exact h.d1 i hi (by simp [hm])
  · intro i hi hm
    rcases List.mem_append.1 hi with hi | hi
    · rcases own_or hw hi with x | x
      · exact h.d2 i (by simp [x]) hm
      · have := (hvb i (by simp [hm])).2.1; omega
    · exact h.d2 i (by simp [hi]) hm
end
end
section
section
open Go.RowKit Go.Shelf
def StrRow (w : World) (a : Option Addr) (len : Nat) : Prop := ∀ i, i < len → ∃ (x : Addr) (s : List UInt8), a = some x ∧ s.length ≤ 9223372036854775807 ∧ x.block < w.heap.size ∧ w.cell? (x.add i) = some (strV s)
/-- What the loop holds. -/
def LiJ (w : World) (R : List (List UInt8 × DT)) (A Bm : List UInt8) (wr : World) : Prop :=
  (A = 91 :: joinC (R.map (·.1)) ∧ Bm = 123 :: joinC ((memF 0 R).map fun y => y.1.1 ++ y.2.1)) ∧ (∀ y ∈ R, OkP y ∧ y.1.length ≤ 100) ∧
  (∃ lv kvM lvM xs bl, LSt w.heap.size (w.heap.size + 2) (keysF R.length) (R.map (·.2)) (R.map (·.2)) lv kvM lvM xs xs bl bl wr) ∧ Below w.heap.size w wr ∧ w.heap.size + 2 ≤ wr.heap.size
theorem kids_reads {w : World} {B : Nat} {ks : List (List UInt8)} {l : List DT} {kv lv : Value} {xs : List Value} {bl : List Nat} (h : Kids w B ks l kv lv xs bl) (kd : Int) : RRep w (.mk kd 0 0 [] ks l) [.int .i64 kd, .int .i64 0, .int .u64 0, .string ⟨#[]⟩, kv, lv] := by
  have hn : NRep w (.mk kd 0 0 [] ks l) [.int .i64 kd, .int .i64 0, .int .u64 0, .string ⟨#[]⟩, kv, lv] (blkL kv ++ (blkL lv ++ bl)) := by
    rw [NRep]
    exact ⟨kv, lv, xs, bl, rfl, h.k, h.r, h.n, rfl⟩
  exact hn.reads
theorem lists_start (w : World) : LiJ w [] [91] [123] ((w.alloc (.cells (outC 10 (.slice none 0 0) (.slice none 0 0)) 27)).alloc (.cells (outC 17 (.slice none 0 0) (.slice none 0 0)) 27)) := by
  have s1 : (w.alloc (.cells (outC 10 (.slice none 0 0) (.slice none 0 0)) 27)).heap.size = w.heap.size + 1 := World.size_alloc _ _
  have h2 := heap_alloc_new (w.alloc (.cells (outC 10 (.slice none 0 0) (.slice none 0 0)) 27)) (.cells (outC 17 (.slice none 0 0) (.slice none 0 0)) 27)
  rw [s1] at h2
  have h1 := (Below.heap_alloc (w.alloc (.cells (outC 10 (.slice none 0 0) (.slice none 0 0)) 27)) (.cells (outC 17 (.slice none 0 0) (.slice none 0 0)) 27) w.heap.size (by omega)).trans (heap_alloc_new w (.cells (outC 10 (.slice none 0 0) (.slice none 0 0)) 27))
  refine ⟨⟨rfl, rfl⟩, fun y hy => (by cases hy), ⟨.slice none 0 0, .slice none 0 0, .slice none 0 0, [], [], h1, h2, kids_nil _ _, kids_nil _ _, fun i hi => absurd hi blk_none, fun i hi => ?_⟩, ((Below.refl w.heap.size w).alloc (Nat.le_refl _) _).alloc (by rw [s1]; omega) _, by rw [World.size_alloc, s1]; omega⟩
  rcases List.mem_append.1 hi with hi | hi <;> exact absurd hi blk_none
theorem str_app (a b : List UInt8) : (⟨a.toArray⟩ : ByteArray) ++ ⟨b.toArray⟩ = ⟨(a ++ b).toArray⟩ := by
  apply ByteArray.ext
  rw [ByteArray.data_append]
  simp
theorem addBlk (x : Addr) (i : Nat) : (x.add i).block = x.block := by unfold Addr.add; split <;> rfl
theorem keyF_at {j : Nat} (h : j < 6) : (([97, 98, 99, 100, 101, 102] : List UInt8).drop j).take (j + 1 - j) = [UInt8.ofNat (97 + j)] := by
  have : j = 0 ∨ j = 1 ∨ j = 2 ∨ j = 3 ∨ j = 4 ∨ j = 5 := by omega
  rcases this with rfl | rfl | rfl | rfl | rfl | rfl <;> rfl
theorem lists_cellV {V B : Nat} {ks : List (List UInt8)} {acc accM : List DT} {lv kvM lvM : Value} {xs xsM : List Value} {bl blM : List Nat} {w w3 : World} (h : LSt V B ks acc accM lv kvM lvM xs xsM bl blM w) (hV : V + 2 ≤ B) (hg : w.grownBy w3 lv.ownBlock) : w3.cell? ⟨V, 5, none⟩ = some lv ∧ w3.frozen? ⟨V, 5, none⟩ = false := by
  have hv := (hg.block V (Array.getElem?_eq_some_iff.1 h.v).1 fun e => by have := h.kv.ge V (by simp [mem_blk.2 e.symm]); omega).trans h.v
  exact ⟨cell_of_row _ _ _ _ _ _ hv, frozen_of_row _ _ _ _ _ hv⟩
theorem lists_cellM {V B : Nat} {ks : List (List UInt8)} {acc accM : List DT} {lv kvM lvM : Value} {xs xsM : List Value} {bl blM : List Nat} {w w3 : World} (h : LSt V B ks acc accM lv kvM lvM xs xsM bl blM w) (hV : V + 2 ≤ B) (hg : w.grownBy w3 lvM.ownBlock) : w3.cell? ⟨V + 1, 5, none⟩ = some lvM ∧ w3.frozen? ⟨V + 1, 5, none⟩ = false := by
  have hv := (hg.block (V + 1) (Array.getElem?_eq_some_iff.1 h.m).1 fun e => by have := h.km.ge (V + 1) (by simp [mem_blk.2 e.symm]); omega).trans h.m
  exact ⟨cell_of_row _ _ _ _ _ _ hv, frozen_of_row _ _ _ _ _ hv⟩
theorem lists_cellK {V B : Nat} {ks : List (List UInt8)} {acc accM : List DT} {lv kvM lvM : Value} {xs xsM : List Value} {bl blM : List Nat} {w w3 : World} (h : LSt V B ks acc accM lv kvM lvM xs xsM bl blM w) (hV : V + 2 ≤ B) (hg : w.grownBy w3 kvM.ownBlock) : w3.cell? ⟨V + 1, 4, none⟩ = some kvM ∧ w3.frozen? ⟨V + 1, 4, none⟩ = false := by
  have hv := (hg.block (V + 1) (Array.getElem?_eq_some_iff.1 h.m).1 fun e => by have := h.km.ge (V + 1) (by simp [mem_blk.2 e.symm]); omega).trans h.m
  exact ⟨cell_of_row _ _ _ _ _ _ hv, frozen_of_row _ _ _ _ _ hv⟩
theorem lists_step (R : List (List UInt8 × DT)) (A Bm s : List UInt8) (T : DT) (h : A = 91 :: joinC (R.map (·.1)) ∧ Bm = 123 :: joinC ((memF 0 R).map fun y => y.1.1 ++ y.2.1)) :
    (if R.length = 0 then A else A ++ [44]) ++ s = 91 :: joinC ((R ++ [(s, T)]).map (·.1)) ∧ (if R.length = 0 then Bm else Bm ++ [44]) ++ [34] ++ [UInt8.ofNat (97 + R.length)] ++ [34, 58] ++ s = 123 :: joinC ((memF 0 (R ++ [(s, T)])).map fun y => y.1.1 ++ y.2.1) := by
  obtain ⟨rfl, rfl⟩ := h
  rw [memF_snoc, List.map_append, List.map_append, List.map_singleton, List.map_singleton, joinC_snoc, joinC_snoc, List.length_map, List.length_map, memF_len]
  by_cases h0 : R.length = 0
  · rw [if_pos h0, if_pos h0, if_pos h0]
    simp [keyH]
  · rw [if_neg h0, if_neg h0, if_neg h0]
    simp [keyH]
set_option maxHeartbeats 16000000 in
set_option maxRecDepth 100000 in
theorem lists_any (a0 : Option Addr) (len0 cap0 : Nat) (w : World) (hS : StrRow w a0 len0) (hl0 : len0 ≤ cap0 ∧ cap0 ≤ maxLen) (hG : Glb w) (hB : Gb w.heap.size) : Calls Tryz.prog 4 #[.slice a0 len0 cap0] w fun e w' => e = .returned (.bool true) ∧ Below w.heap.size w w' := by
  have HW := Lib.hid (WP.refl hG hB)
  have HS := Lib.hid hS
  have HST := Lib.hid (lists_start w)
  obtain ⟨hl1, hl2⟩ := hl0
  have hl3 : len0 ≤ 9223372036854775807 := Nat.le_trans hl1 (Nat.le_trans hl2 (by unfold maxLen; omega))
  have HLM := Lib.hid (And.intro hl1 hl2)
  clear hG hB hS hl1 hl2
  go_enter Tryz.func4, Tryz.ntmps4
  go_upto_region 4 with fail
  refine wp_named (fun wn => LiJ w [] [91] [123] wn) HST.out ?_
  rintro wn hn
  have HN := Lib.hid hn
  clear hn HST
  go_wp2_with fail
  go_loopw [3, 4, 7] (fun ls ms i wr => ∃ (R : List (List UInt8 × DT)) (A Bm : List UInt8), ls = .string ⟨A.toArray⟩ ∧ ms = .string ⟨Bm.toArray⟩ ∧ i = .int .i64 R.length ∧ R.length ≤ 6 ∧ A.length ≤ 1 + 110 * R.length ∧ Bm.length ≤ 1 + 110 * R.length ∧ Hid (LiJ w R A Bm wr)) (fun _ _ i _ => 6 - (intOf i).toNat)
  case atStart => exact ⟨[], [91], [123], rfl, rfl, rfl, by decide, by decide, by decide, HN⟩
  case round =>
    rename_i wr hK0
    clear HN
    obtain ⟨R, A, Bm, rfl, rfl, rfl, h6, hA, hBm, HJ⟩ := hrel
    obtain ⟨hE, hOK, hL, hb, hz⟩ := HJ.out
    have hWr := HW.out.next hb
    by_cases g1 : R.length < 6 ∧ R.length < len0
    · obtain ⟨g6, gl⟩ := g1
      obtain ⟨x, s0, rfl, hs0, hxb, hc⟩ := HS.out R.length gl
      have hcr := (hb.cell (p := x.add R.length) (by rw [addBlk]; exact hxb)).trans hc
      have d1 : (R.length : Int) < (len0 : Int) := by omega
      have d2 : (R.length : Int) < 6 := by omega
      obtain ⟨s, hs⟩ : ∃ s, s = s0.take 100 := ⟨_, rfl⟩
      have hsl : s.length ≤ 100 := by rw [hs, List.length_take]; omega
      have HSH := Lib.hid (fun W => short_any s0 100 hs0 (by decide) W)
      rw [← hs] at HSH
      have HP := Lib.hid (parse_is s (parM s).1 (parM s).2.1 (parM s).2.2 rfl w wr (by omega) hWr)
      have HYE := Lib.hid (fun h : (parM s).2.2 = 0 => okP_of (s := s) (T := (parM s).1) (by omega) (Prod.ext rfl (Prod.ext (par_yes (by omega) h).1 h)))
      generalize parM s = r at *
      obtain ⟨T, at_, e⟩ := r
      dsimp only at HP HYE
      unfold strV at HSH HP hcr
      have HB := Lib.hid hb
      have HZ := Lib.hid hz
      have HWR := Lib.hid hWr
      have HE := Lib.hid hE
      have HOK := Lib.hid hOK
      have HL := Lib.hid hL
      have hxw : x.block < wr.heap.size := Nat.lt_of_lt_of_le hxb hb.size
      clear hs hc hb hz hWr hE hOK hL HJ hxb
      go_wp2_with fail
      refine (HSH.out _).mono ?_
      rintro o w1 ⟨rfl, rfl⟩
      go_wp2_with fail
      refine HP.out.mono ?_
      rintro o w1 ⟨x0, x1, x2, x3, x4, x5, rfl, ⟨bs, hN, hnd, hge⟩, hb1⟩
      obtain ⟨kd1, nn1, uu1, s1, B1, n1, e1, B2, n2, e2, rfl, rfl, rfl, rfl, rfl, rfl⟩ := hN.form2
      have HB1 := Lib.hid hb1
      have HN := Lib.hid (And.intro hN (And.intro hnd hge))
      clear hb1 hN hnd hge HP HSH hcr hxw
      by_cases he : e = 0
      · subst he
        have HOKY := Lib.hid (HYE.out rfl)
        clear HYE
        obtain ⟨lv, kvM, lvM, xs, bl, hL⟩ := HL.out
        obtain ⟨acc, hacc⟩ : ∃ acc, acc = R.map (·.2) := ⟨_, rfl⟩
        rw [← hacc] at hL
        have hal : acc.length = R.length := by rw [hacc, List.length_map]
        obtain ⟨Av, cv, rfl⟩ := owns_ptr hL.kv.r
        obtain ⟨Ak, ck, rfl⟩ := owns_ptr hL.km.k
        obtain ⟨Am, cm, rfl⟩ := owns_ptr hL.km.r
        have hkl : (keysF R.length).length = R.length := by unfold keysF; rw [List.length_map, List.length_range']
        have hbs1 := HN.out.2.2
        have HDIS : Hid (∀ i ∈ bs, i ∉ blkL (.slice Av acc.length cv) ++ (bl ++ (blkL (.slice Ak (keysF R.length).length ck) ++ (blkL (.slice Am acc.length cm) ++ bl)))) := Lib.hid (by
          intro i hi hm
          have h1 := hbs1 i hi
          have h2 : i < wr.heap.size := by
            simp only [List.mem_append] at hm
            rcases hm with hm | hm | hm | hm | hm
            · exact hL.kv.lt i (by simp [hm])
            · exact hL.kv.lt i (by simp [hm])
            · exact hL.km.lt i (by simp [hm])
            · exact hL.km.lt i (by simp [hm])
            · exact hL.kv.lt i (by simp [hm])
          omega)
        clear hbs1
        have hba := Below.alloc (Below.refl w1.heap.size w1) (Nat.le_refl _) (.cells #[.int .i64 kd1, .int .i64 nn1, .int .u64 uu1, .string s1, .slice B1 n1 e1, .slice B2 n2 e2] 27)
        have hnode : (w1.alloc (.cells #[.int .i64 kd1, .int .i64 nn1, .int .u64 uu1, .string s1, .slice B1 n1 e1, .slice B2 n2 e2] 27)).heap[w1.heap.size]? = some (.cells #[.int .i64 kd1, .int .i64 nn1, .int .u64 uu1, .string s1, .slice B1 n1 e1, .slice B2 n2 e2] 27 (0, 0)) := heap_alloc_new w1 _
        have HL2 := Lib.hid ((hL.below HB1.out).below hba)
        have HN2 := Lib.hid (And.intro (HN.out.1.below hba) HN.out.2.1)
        have HGE : Hid (∀ i ∈ bs, w.heap.size + 2 ≤ i) := Lib.hid (fun i hi => Nat.le_trans HZ.out (HN.out.2.2 i hi))
        have HB2 := Lib.hid ((HB.out.trans (HB1.out.mono HB.out.size)).trans (hba.mono (Nat.le_trans HB.out.size HB1.out.size)))
        have HNO := Lib.hid hnode
        have hszX : w.heap.size + 2 ≤ w1.heap.size := Nat.le_trans HZ.out HB1.out.size
        have HSX := Lib.hid hszX
        have HHAL := Lib.hid hal
        have HHKL := Lib.hid hkl
        have HACC := Lib.hid hacc
        have HMB : Hid (∀ i ∈ blkL (.slice Av acc.length cv) ++ (blkL (.slice Ak (keysF R.length).length ck) ++ blkL (.slice Am acc.length cm)), i < w1.heap.size) := Lib.hid (by
          intro i hi
          have hs := HB1.out.size
          have h2 : i < wr.heap.size := by
            simp only [List.mem_append] at hi
            rcases hi with hm | hm | hm
            · exact hL.kv.lt i (by simp [hm])
            · exact hL.km.lt i (by simp [hm])
            · exact hL.km.lt i (by simp [hm])
          omega)
        clear hL hacc hba hnode HL HB HB1 HN HZ hal hkl hszX HWR
        go_upto_region 11 with fail
        refine wp_named (fun w2 => LSt w.heap.size (w.heap.size + 2) (keysF R.length) acc acc (.slice Av acc.length cv) (.slice Ak (keysF R.length).length ck) (.slice Am acc.length cm) xs xs bl bl w2 ∧ (NRep w2 T [.int .i64 kd1, .int .i64 nn1, .int .u64 uu1, .string s1, .slice B1 n1 e1, .slice B2 n2 e2] bs ∧ bs.Nodup) ∧ Below w.heap.size w w2 ∧ w2.heap[w1.heap.size]? = some (.cells #[.int .i64 kd1, .int .i64 nn1, .int .u64 uu1, .string s1, .slice B1 n1 e1, .slice B2 n2 e2] 27 (0, 0))) ⟨HL2.out, HN2.out, HB2.out, HNO.out⟩ ?_
        clear HL2 HN2 HB2 HNO
        generalize w1.heap.size = X at *
        rintro w2 ⟨hL2, hN2, hb2, hX2⟩
        have HL2 := Lib.hid hL2
        have HN2 := Lib.hid hN2
        have HB2 := Lib.hid hb2
        have HX2 := Lib.hid hX2
        clear hL2 hN2 hb2 hX2
        have HAP : Hid ((if R.length = 0 then A else A ++ [44]) ++ s = 91 :: joinC ((R ++ [(s, T)]).map (·.1)) ∧ (if R.length = 0 then Bm else Bm ++ [44]) ++ [34] ++ [UInt8.ofNat (97 + R.length)] ++ [34, 58] ++ s = 123 :: joinC ((memF 0 (R ++ [(s, T)])).map fun y => y.1.1 ++ y.2.1)) := Lib.hid (lists_step R A Bm s T HE.out)
        clear HE
        by_cases hj : R.length = 0
        · have d3 : ¬ ((0 : Int) < (R.length : Int)) := by omega
          rw [if_pos hj, if_pos hj] at HAP
          clear hj
          go_upto_region 13 with fail
          have hAl : A.length ≤ 2 + 110 * R.length := by omega
          have hBl : Bm.length ≤ 2 + 110 * R.length := by omega
          have hkey : ∀ W, (Instr.slice 9 (.string ⟨#[97, 98, 99, 100, 101, 102]⟩) (some (.int .i64 (R.length : Int))) (some (.int .i64 ((R.length : Int) + 1))) none).run Tryz.prog W = .ok (.string ⟨#[UInt8.ofNat (97 + R.length)]⟩) W := fun W => by
            have := sub_run [97, 98, 99, 100, 101, 102] R.length (R.length + 1) (by omega) (by simp only [List.length_cons, List.length_nil]; omega) W
            rw [keyF_at g6] at this
            exact this
          have HKS := Lib.hid (keysF_snoc R.length)
          generalize UInt8.ofNat (97 + R.length) = cc at *
          obtain ⟨A2, HA2, hap1⟩ : ∃ A' : List UInt8, Hid (A' = A ++ s) ∧ (⟨A.toArray⟩ : ByteArray) ++ ⟨s.toArray⟩ = ⟨A'.toArray⟩ := ⟨_, Lib.hid rfl, str_app A s⟩
          obtain ⟨C2, HC2, hap2⟩ : ∃ A' : List UInt8, Hid (A' = Bm ++ [34]) ∧ (⟨Bm.toArray⟩ : ByteArray) ++ ⟨#[34]⟩ = ⟨A'.toArray⟩ := ⟨_, Lib.hid rfl, str_app Bm [34]⟩
          obtain ⟨C3, HC3, hap3⟩ : ∃ A' : List UInt8, Hid (A' = C2 ++ [cc]) ∧ (⟨C2.toArray⟩ : ByteArray) ++ ⟨#[cc]⟩ = ⟨A'.toArray⟩ := ⟨_, Lib.hid rfl, str_app C2 [cc]⟩
          obtain ⟨C4, HC4, hap4⟩ : ∃ A' : List UInt8, Hid (A' = C3 ++ [34, 58]) ∧ (⟨C3.toArray⟩ : ByteArray) ++ ⟨#[34, 58]⟩ = ⟨A'.toArray⟩ := ⟨_, Lib.hid rfl, str_app C3 [34, 58]⟩
          obtain ⟨C5, HC5, hap5⟩ : ∃ A' : List UInt8, Hid (A' = C4 ++ s) ∧ (⟨C4.toArray⟩ : ByteArray) ++ ⟨s.toArray⟩ = ⟨A'.toArray⟩ := ⟨_, Lib.hid rfl, str_app C4 s⟩
          have z2 : C2.length = Bm.length + 1 := by rw [HC2.out]; simp
          have z3 : C3.length = Bm.length + 2 := by rw [HC3.out]; simp; omega
          have z4 : C4.length = Bm.length + 4 := by rw [HC4.out]; simp; omega
          have k1 : A.length + s.length ≤ 9223372036854775807 := by omega
          have k2 : Bm.length + 1 ≤ 9223372036854775807 := by omega
          have k3 : C2.length + 1 ≤ 9223372036854775807 := by omega
          have k4 : C3.length + 2 ≤ 9223372036854775807 := by omega
          have k5 : C4.length + s.length ≤ 9223372036854775807 := by omega
          have HLEN : Hid (A2.length ≤ 1 + 110 * (R.length + 1) ∧ C5.length ≤ 1 + 110 * (R.length + 1)) := Lib.hid ⟨by rw [HA2.out, List.length_append]; omega, by rw [HC5.out, List.length_append]; omega⟩
          have HFIN : Hid (A2 = 91 :: joinC ((R ++ [(s, T)]).map (·.1)) ∧ C5 = 123 :: joinC ((memF 0 (R ++ [(s, T)])).map fun y => y.1.1 ++ y.2.1)) := Lib.hid ⟨HA2.out.trans HAP.out.1, by rw [HC5.out, HC4.out, HC3.out, HC2.out]; exact HAP.out.2⟩
          have q1 : IntKind.i64.wrap ((R.length : Int) + 1) = (R.length : Int) + 1 := IntWalk.i64_in _ (by omega)
          clear z2 z3 z4 HAP HA2 HC2 HC3 HC4 HC5
          go_upto_region 15 with fail
          clear hap1 hap2 hap3 hap4 hap5 k1 k2 k3 k4 k5 hkey hAl hBl
          obtain ⟨i0, hi, hz0, hz1, hz2⟩ := info_parts nodeInfo
          obtain ⟨i1, hi', hz0', hz1', hz2'⟩ := info_parts strInfo
          have hal := HHAL.out
          have H63 : Hid (acc.length + 1 ≤ maxLen) := Lib.hid (by unfold maxLen; omega)
          have HBY : Hid ((acc.length + 1) * 88 ≤ 140737488355328) := Lib.hid (by omega)
          have hkl := HHKL.out
          have H63k : Hid ((keysF R.length).length + 1 ≤ maxLen) := Lib.hid (by unfold maxLen; omega)
          have HBYk : Hid (((keysF R.length).length + 1) * 16 ≤ 140737488355328) := Lib.hid (by omega)
          clear hal hkl
          have c5 : w2.cell? ⟨w.heap.size, 5, none⟩ = some (.slice Av acc.length cv) := cell_of_row _ _ _ _ _ _ HL2.out.v
          obtain ⟨y0, y1, y2, y3, y4, y5⟩ := cells6 HX2.out
          have hVX : w.heap.size + 2 ≤ X := HSX.out
          have hXl : X < w2.heap.size := (Array.getElem?_eq_some_iff.1 HX2.out).1
          go_upto_region 16 with (at_builtin; refine wpList_append_where (P := Tryz.prog) _ rfl (.tmp 60) (.tmp 62) 25 rfl 27 i0 (.agg #[.int .i64 0, .int .i64 0, .int .u64 0, .string ⟨#[]⟩, .slice none 0 0, .slice none 0 0]) 6 88 Tryz.underlying25 hi hz0 hz1 hz2 rfl (by decide) (.slice Av acc.length cv) acc.length xs rfl (own_below HL2.out.kv.r ((Below.refl _ _).alloc (Nat.le_refl _) _)) ⟨w2.heap.size, 0, none⟩ 1 1 [.int .i64 kd1, .int .i64 nn1, .int .u64 uu1, .string s1, .slice B1 n1 e1, .slice B2 n2 e2] rfl rfl (row_at (heap_alloc_new _ _)) six_one H63.out HBY.out ?_; intro v' w3 ho hg hwh; obtain ⟨A', n', c', rfl⟩ := owns_sl ho; obtain ⟨f5, g5⟩ := lists_cellV (HL2.out.below ((Below.refl _ _).alloc (Nat.le_refl _) _)) (Nat.le_refl _) hg)
          have hba := (Below.refl w2.heap.size w2).alloc (Nat.le_refl _) (.cells #[.int .i64 kd1, .int .i64 nn1, .int .u64 uu1, .string s1, .slice B1 n1 e1, .slice B2 n2 e2] 27)
          have hsz : (w2.alloc (.cells #[.int .i64 kd1, .int .i64 nn1, .int .u64 uu1, .string s1, .slice B1 n1 e1, .slice B2 n2 e2] 27)).heap.size = w2.heap.size + 1 := World.size_alloc _ _
          have hst := (HL2.out.below hba).pushV (Nat.le_refl _) (by omega) (HN2.out.1.below hba) HN2.out.2 HGE.out HDIS.out hg ho hwh
          have hbw : Below w.heap.size w w3 := (HB2.out.trans (hba.mono (by omega))).grown hg (by omega) (fun k hk => by have := HL2.out.kv.ge k (by simp [mem_blk, hk]); omega)
          have hg3 := hg.size
          refine wp_named (fun w4 => LSt w.heap.size (w.heap.size + 2) (keysF R.length) (acc ++ [T]) acc (.slice A' n' c') (.slice Ak (keysF R.length).length ck) (.slice Am acc.length cm) (xs ++ [.int .i64 kd1, .int .i64 nn1, .int .u64 uu1, .string s1, .slice B1 n1 e1, .slice B2 n2 e2]) xs (bl ++ bs) bl w4 ∧ NRep w4 T [.int .i64 kd1, .int .i64 nn1, .int .u64 uu1, .string s1, .slice B1 n1 e1, .slice B2 n2 e2] bs ∧ Below w.heap.size w w4 ∧ w4.heap[X]? = some (.cells #[.int .i64 kd1, .int .i64 nn1, .int .u64 uu1, .string s1, .slice B1 n1 e1, .slice B2 n2 e2] 27 (0, 0)) ∧ w2.heap.size ≤ w4.heap.size) ⟨hst.1, hst.2.1, hbw.setCell (p := ⟨w.heap.size, 5, none⟩) (Nat.le_refl _) _, ((hst.2.2 X (by omega) (by omega) (fun hm => by have := HMB.out X (by simp [hm]); omega)).trans (hba.block X hXl)).trans HX2.out, by simp only [World.size_setCell]; omega⟩ ?_
          clear hst hbw hg ho hwh hba hsz hg3 c5 f5 g5 y0 y1 y2 y3 y4 y5 HL2 HB2 HX2
          rintro w4 ⟨hL4, hN4, hb4, hX4, hz4⟩
          have HL4 := Lib.hid hL4
          have HN4 := Lib.hid hN4
          have HB4 := Lib.hid hb4
          have HX4 := Lib.hid hX4
          clear hL4 hN4 hb4 hX4
          have c5 : w4.cell? ⟨w.heap.size + 1, 5, none⟩ = some (.slice Am acc.length cm) := cell_of_row _ _ _ _ _ _ HL4.out.m
          obtain ⟨y0, y1, y2, y3, y4, y5⟩ := cells6 HX4.out
          have hXl4 : X < w4.heap.size := (Array.getElem?_eq_some_iff.1 HX4.out).1
          go_upto_region 17 with (at_builtin; refine wpList_append_where (P := Tryz.prog) _ rfl (.tmp 66) (.tmp 68) 25 rfl 27 i0 (.agg #[.int .i64 0, .int .i64 0, .int .u64 0, .string ⟨#[]⟩, .slice none 0 0, .slice none 0 0]) 6 88 Tryz.underlying25 hi hz0 hz1 hz2 rfl (by decide) (.slice Am acc.length cm) acc.length xs rfl (own_below HL4.out.km.r ((Below.refl _ _).alloc (Nat.le_refl _) _)) ⟨w4.heap.size, 0, none⟩ 1 1 [.int .i64 kd1, .int .i64 nn1, .int .u64 uu1, .string s1, .slice B1 n1 e1, .slice B2 n2 e2] rfl rfl (row_at (heap_alloc_new _ _)) six_one H63.out HBY.out ?_; intro v' w3 ho hg hwh; obtain ⟨D', m', d', rfl⟩ := owns_sl ho; obtain ⟨f5, g5⟩ := lists_cellM (HL4.out.below ((Below.refl _ _).alloc (Nat.le_refl _) _)) (Nat.le_refl _) hg)
          have hba := (Below.refl w4.heap.size w4).alloc (Nat.le_refl _) (.cells #[.int .i64 kd1, .int .i64 nn1, .int .u64 uu1, .string s1, .slice B1 n1 e1, .slice B2 n2 e2] 27)
          have hsz : (w4.alloc (.cells #[.int .i64 kd1, .int .i64 nn1, .int .u64 uu1, .string s1, .slice B1 n1 e1, .slice B2 n2 e2] 27)).heap.size = w4.heap.size + 1 := World.size_alloc _ _
          have hst := (HL4.out.below hba).pushM (Nat.le_refl _) (by omega) (HN4.out.below hba) HN2.out.2 HGE.out (fun i hi hm => HDIS.out i hi (by simp only [List.mem_append] at hm ⊢; exact .inr (.inr hm))) (fun i hi => List.mem_append.2 (.inr hi)) hg ho hwh
          have hbw : Below w.heap.size w w3 := (HB4.out.trans (hba.mono (by omega))).grown hg (by omega) (fun k hk => by have := HL4.out.km.ge k (by simp [mem_blk, hk]); omega)
          have hg3 := hg.size
          refine wp_named (fun w6 => LSt w.heap.size (w.heap.size + 2) (keysF R.length) (acc ++ [T]) (acc ++ [T]) (.slice A' n' c') (.slice Ak (keysF R.length).length ck) (.slice D' m' d') (xs ++ [.int .i64 kd1, .int .i64 nn1, .int .u64 uu1, .string s1, .slice B1 n1 e1, .slice B2 n2 e2]) (xs ++ [.int .i64 kd1, .int .i64 nn1, .int .u64 uu1, .string s1, .slice B1 n1 e1, .slice B2 n2 e2]) (bl ++ bs) (bl ++ bs) w6 ∧ Below w.heap.size w w6 ∧ w4.heap.size ≤ w6.heap.size) ⟨hst.1, hbw.setCell (p := ⟨w.heap.size + 1, 5, none⟩) (by show w.heap.size ≤ w.heap.size + 1; omega) _, by simp only [World.size_setCell]; omega⟩ ?_
          clear hst hbw hg ho hwh hba hsz hg3 c5 f5 g5 y0 y1 y2 y3 y4 y5 HL4 HB4 HX4 HN4 HN2
          rintro w6 ⟨hL6, hb6, hz6⟩
          have HL6 := Lib.hid hL6
          have HB6 := Lib.hid hb6
          clear hL6 hb6
          have c4 : w6.cell? ⟨w.heap.size + 1, 4, none⟩ = some (.slice Ak (keysF R.length).length ck) := cell_of_row _ _ _ _ _ _ HL6.out.m
          go_upto_region 6 with (at_builtin; refine wpList_append_where (P := Tryz.prog) _ rfl (.tmp 72) (.tmp 74) 24 rfl 9 i1 (.string ⟨#[]⟩) 1 16 Tryz.underlying24 hi' hz0' hz1' hz2' rfl (by decide) (.slice Ak (keysF R.length).length ck) (keysF R.length).length ((keysF R.length).map strV) rfl (own_below HL6.out.km.k ((Below.refl _ _).alloc (Nat.le_refl _) _)) ⟨w6.heap.size, 0, none⟩ 1 1 [.string ⟨#[cc]⟩] rfl rfl (row_at (heap_alloc_new _ _)) (by intro v hv; simp only [List.mem_cons, List.not_mem_nil, or_false] at hv; subst hv; rfl) H63k.out HBYk.out ?_; intro v' w3 ho hg hwh; obtain ⟨E', p', q', rfl⟩ := owns_sl ho; obtain ⟨f4, g4⟩ := lists_cellK (HL6.out.below ((Below.refl _ _).alloc (Nat.le_refl _) _)) (Nat.le_refl _) hg)
          have hba := (Below.refl w6.heap.size w6).alloc (Nat.le_refl _) (.cells #[.string ⟨#[cc]⟩] 9)
          have hsz : (w6.alloc (.cells #[.string ⟨#[cc]⟩] 9)).heap.size = w6.heap.size + 1 := World.size_alloc _ _
          have hst := (HL6.out.below hba).pushK (Nat.le_refl _) (by omega) (k := [cc]) hg ho hwh
          have hbw : Below w.heap.size w w3 := (HB6.out.trans (hba.mono (by omega))).grown hg (by omega) (fun k hk => by have := HL6.out.km.ge k (by simp [mem_blk, hk]); omega)
          have hg3 := hg.size
          refine wp_named (fun w8 => LiJ w (R ++ [(s, T)]) A2 C5 w8) ⟨HFIN.out, fun y hy => by
            rcases List.mem_append.1 hy with hy | hy
            · exact HOK.out y hy
            · rw [List.mem_singleton] at hy; subst hy; exact ⟨HOKY.out, hsl⟩, ⟨_, _, _, _, _, by
              rw [List.length_append, List.length_singleton, HKS.out, List.map_append, ← HACC.out]
              exact hst.1⟩, hbw.setCell (p := ⟨w.heap.size + 1, 4, none⟩) (by show w.heap.size ≤ w.heap.size + 1; omega) _, by simp only [World.size_setCell]; omega⟩ ?_
          clear hst hbw hg ho hwh hba hsz hg3 c4 f4 g4 HL6 HB6
          rintro w8 hj8
          have HJ8 := Lib.hid hj8
          clear hj8
          go_wp2_with fail
          go_roundw
          case rel => exact ⟨R ++ [(s, T)], A2, C5, rfl, rfl, by simp, by simp; omega, by have := HLEN.out.1; simpa using this, by have := HLEN.out.2; simpa using this, HJ8⟩
          case measure => simp only [intOf]; omega
        · have d3 : ((0 : Int) < (R.length : Int)) := by omega
          rw [if_neg hj, if_neg hj] at HAP
          clear hj
          obtain ⟨A', HA1, hap⟩ : ∃ A' : List UInt8, Hid (A' = A ++ [44]) ∧ (⟨A.toArray⟩ : ByteArray) ++ ⟨#[44]⟩ = ⟨A'.toArray⟩ := ⟨A ++ [44], Lib.hid rfl, str_app A [44]⟩
          obtain ⟨B', HB3, hbp⟩ : ∃ A' : List UInt8, Hid (A' = Bm ++ [44]) ∧ (⟨Bm.toArray⟩ : ByteArray) ++ ⟨#[44]⟩ = ⟨A'.toArray⟩ := ⟨Bm ++ [44], Lib.hid rfl, str_app Bm [44]⟩
          rw [← HA1.out, ← HB3.out] at HAP
          have hA2 : A'.length ≤ 2 + 110 * R.length := by rw [HA1.out, List.length_append, List.length_singleton]; omega
          have hB2 : B'.length ≤ 2 + 110 * R.length := by rw [HB3.out, List.length_append, List.length_singleton]; omega
          have hl1 : A.length + 1 ≤ 9223372036854775807 := by omega
          have hl2 : Bm.length + 1 ≤ 9223372036854775807 := by omega
          go_upto_region 13 with fail
          clear hap hbp hl1 hl2 hA hBm HA1 HB3
          obtain ⟨A, hAA⟩ : ∃ A, A = A' := ⟨_, rfl⟩
          obtain ⟨Bm, hBB⟩ : ∃ A, A = B' := ⟨_, rfl⟩
          subst hAA
          subst hBB
          have hAl : A.length ≤ 2 + 110 * R.length := by omega
          have hBl : Bm.length ≤ 2 + 110 * R.length := by omega
          have hkey : ∀ W, (Instr.slice 9 (.string ⟨#[97, 98, 99, 100, 101, 102]⟩) (some (.int .i64 (R.length : Int))) (some (.int .i64 ((R.length : Int) + 1))) none).run Tryz.prog W = .ok (.string ⟨#[UInt8.ofNat (97 + R.length)]⟩) W := fun W => by
            have := sub_run [97, 98, 99, 100, 101, 102] R.length (R.length + 1) (by omega) (by simp only [List.length_cons, List.length_nil]; omega) W
            rw [keyF_at g6] at this
            exact this
          have HKS := Lib.hid (keysF_snoc R.length)
          generalize UInt8.ofNat (97 + R.length) = cc at *
          obtain ⟨A2, HA2, hap1⟩ : ∃ A' : List UInt8, Hid (A' = A ++ s) ∧ (⟨A.toArray⟩ : ByteArray) ++ ⟨s.toArray⟩ = ⟨A'.toArray⟩ := ⟨_, Lib.hid rfl, str_app A s⟩
          obtain ⟨C2, HC2, hap2⟩ : ∃ A' : List UInt8, Hid (A' = Bm ++ [34]) ∧ (⟨Bm.toArray⟩ : ByteArray) ++ ⟨#[34]⟩ = ⟨A'.toArray⟩ := ⟨_, Lib.hid rfl, str_app Bm [34]⟩
          obtain ⟨C3, HC3, hap3⟩ : ∃ A' : List UInt8, Hid (A' = C2 ++ [cc]) ∧ (⟨C2.toArray⟩ : ByteArray) ++ ⟨#[cc]⟩ = ⟨A'.toArray⟩ := ⟨_, Lib.hid rfl, str_app C2 [cc]⟩
          obtain ⟨C4, HC4, hap4⟩ : ∃ A' : List UInt8, Hid (A' = C3 ++ [34, 58]) ∧ (⟨C3.toArray⟩ : ByteArray) ++ ⟨#[34, 58]⟩ = ⟨A'.toArray⟩ := ⟨_, Lib.hid rfl, str_app C3 [34, 58]⟩
          obtain ⟨C5, HC5, hap5⟩ : ∃ A' : List UInt8, Hid (A' = C4 ++ s) ∧ (⟨C4.toArray⟩ : ByteArray) ++ ⟨s.toArray⟩ = ⟨A'.toArray⟩ := ⟨_, Lib.hid rfl, str_app C4 s⟩
          have z2 : C2.length = Bm.length + 1 := by rw [HC2.out]; simp
          have z3 : C3.length = Bm.length + 2 := by rw [HC3.out]; simp; omega
          have z4 : C4.length = Bm.length + 4 := by rw [HC4.out]; simp; omega
          have k1 : A.length + s.length ≤ 9223372036854775807 := by omega
          have k2 : Bm.length + 1 ≤ 9223372036854775807 := by omega
          have k3 : C2.length + 1 ≤ 9223372036854775807 := by omega
          have k4 : C3.length + 2 ≤ 9223372036854775807 := by omega
          have k5 : C4.length + s.length ≤ 9223372036854775807 := by omega
          have HLEN : Hid (A2.length ≤ 1 + 110 * (R.length + 1) ∧ C5.length ≤ 1 + 110 * (R.length + 1)) := Lib.hid ⟨by rw [HA2.out, List.length_append]; omega, by rw [HC5.out, List.length_append]; omega⟩
          have HFIN : Hid (A2 = 91 :: joinC ((R ++ [(s, T)]).map (·.1)) ∧ C5 = 123 :: joinC ((memF 0 (R ++ [(s, T)])).map fun y => y.1.1 ++ y.2.1)) := Lib.hid ⟨HA2.out.trans HAP.out.1, by rw [HC5.out, HC4.out, HC3.out, HC2.out]; exact HAP.out.2⟩
          have q1 : IntKind.i64.wrap ((R.length : Int) + 1) = (R.length : Int) + 1 := IntWalk.i64_in _ (by omega)
          clear z2 z3 z4 HAP HA2 HC2 HC3 HC4 HC5
          go_upto_region 15 with fail
          clear hap1 hap2 hap3 hap4 hap5 k1 k2 k3 k4 k5 hkey hAl hBl
          obtain ⟨i0, hi, hz0, hz1, hz2⟩ := info_parts nodeInfo
          obtain ⟨i1, hi', hz0', hz1', hz2'⟩ := info_parts strInfo
          have hal := HHAL.out
          have H63 : Hid (acc.length + 1 ≤ maxLen) := Lib.hid (by unfold maxLen; omega)
          have HBY : Hid ((acc.length + 1) * 88 ≤ 140737488355328) := Lib.hid (by omega)
          have hkl := HHKL.out
          have H63k : Hid ((keysF R.length).length + 1 ≤ maxLen) := Lib.hid (by unfold maxLen; omega)
          have HBYk : Hid (((keysF R.length).length + 1) * 16 ≤ 140737488355328) := Lib.hid (by omega)
          clear hal hkl
          have c5 : w2.cell? ⟨w.heap.size, 5, none⟩ = some (.slice Av acc.length cv) := cell_of_row _ _ _ _ _ _ HL2.out.v
          obtain ⟨y0, y1, y2, y3, y4, y5⟩ := cells6 HX2.out
          have hVX : w.heap.size + 2 ≤ X := HSX.out
          have hXl : X < w2.heap.size := (Array.getElem?_eq_some_iff.1 HX2.out).1
          go_upto_region 16 with (at_builtin; refine wpList_append_where (P := Tryz.prog) _ rfl (.tmp 60) (.tmp 62) 25 rfl 27 i0 (.agg #[.int .i64 0, .int .i64 0, .int .u64 0, .string ⟨#[]⟩, .slice none 0 0, .slice none 0 0]) 6 88 Tryz.underlying25 hi hz0 hz1 hz2 rfl (by decide) (.slice Av acc.length cv) acc.length xs rfl (own_below HL2.out.kv.r ((Below.refl _ _).alloc (Nat.le_refl _) _)) ⟨w2.heap.size, 0, none⟩ 1 1 [.int .i64 kd1, .int .i64 nn1, .int .u64 uu1, .string s1, .slice B1 n1 e1, .slice B2 n2 e2] rfl rfl (row_at (heap_alloc_new _ _)) six_one H63.out HBY.out ?_; intro v' w3 ho hg hwh; obtain ⟨A', n', c', rfl⟩ := owns_sl ho; obtain ⟨f5, g5⟩ := lists_cellV (HL2.out.below ((Below.refl _ _).alloc (Nat.le_refl _) _)) (Nat.le_refl _) hg)
          have hba := (Below.refl w2.heap.size w2).alloc (Nat.le_refl _) (.cells #[.int .i64 kd1, .int .i64 nn1, .int .u64 uu1, .string s1, .slice B1 n1 e1, .slice B2 n2 e2] 27)
          have hsz : (w2.alloc (.cells #[.int .i64 kd1, .int .i64 nn1, .int .u64 uu1, .string s1, .slice B1 n1 e1, .slice B2 n2 e2] 27)).heap.size = w2.heap.size + 1 := World.size_alloc _ _
          have hst := (HL2.out.below hba).pushV (Nat.le_refl _) (by omega) (HN2.out.1.below hba) HN2.out.2 HGE.out HDIS.out hg ho hwh
          have hbw : Below w.heap.size w w3 := (HB2.out.trans (hba.mono (by omega))).grown hg (by omega) (fun k hk => by have := HL2.out.kv.ge k (by simp [mem_blk, hk]); omega)
          have hg3 := hg.size
          refine wp_named (fun w4 => LSt w.heap.size (w.heap.size + 2) (keysF R.length) (acc ++ [T]) acc (.slice A' n' c') (.slice Ak (keysF R.length).length ck) (.slice Am acc.length cm) (xs ++ [.int .i64 kd1, .int .i64 nn1, .int .u64 uu1, .string s1, .slice B1 n1 e1, .slice B2 n2 e2]) xs (bl ++ bs) bl w4 ∧ NRep w4 T [.int .i64 kd1, .int .i64 nn1, .int .u64 uu1, .string s1, .slice B1 n1 e1, .slice B2 n2 e2] bs ∧ Below w.heap.size w w4 ∧ w4.heap[X]? = some (.cells #[.int .i64 kd1, .int .i64 nn1, .int .u64 uu1, .string s1, .slice B1 n1 e1, .slice B2 n2 e2] 27 (0, 0)) ∧ w2.heap.size ≤ w4.heap.size) ⟨hst.1, hst.2.1, hbw.setCell (p := ⟨w.heap.size, 5, none⟩) (Nat.le_refl _) _, ((hst.2.2 X (by omega) (by omega) (fun hm => by have := HMB.out X (by simp [hm]); omega)).trans (hba.block X hXl)).trans HX2.out, by simp only [World.size_setCell]; omega⟩ ?_
          clear hst hbw hg ho hwh hba hsz hg3 c5 f5 g5 y0 y1 y2 y3 y4 y5 HL2 HB2 HX2
          rintro w4 ⟨hL4, hN4, hb4, hX4, hz4⟩
          have HL4 := Lib.hid hL4
          have HN4 := Lib.hid hN4
          have HB4 := Lib.hid hb4
          have HX4 := Lib.hid hX4
          clear hL4 hN4 hb4 hX4
          have c5 : w4.cell? ⟨w.heap.size + 1, 5, none⟩ = some (.slice Am acc.length cm) := cell_of_row _ _ _ _ _ _ HL4.out.m
          obtain ⟨y0, y1, y2, y3, y4, y5⟩ := cells6 HX4.out
          have hXl4 : X < w4.heap.size := (Array.getElem?_eq_some_iff.1 HX4.out).1
          go_upto_region 17 with (at_builtin; refine wpList_append_where (P := Tryz.prog) _ rfl (.tmp 66) (.tmp 68) 25 rfl 27 i0 (.agg #[.int .i64 0, .int .i64 0, .int .u64 0, .string ⟨#[]⟩, .slice none 0 0, .slice none 0 0]) 6 88 Tryz.underlying25 hi hz0 hz1 hz2 rfl (by decide) (.slice Am acc.length cm) acc.length xs rfl (own_below HL4.out.km.r ((Below.refl _ _).alloc (Nat.le_refl _) _)) ⟨w4.heap.size, 0, none⟩ 1 1 [.int .i64 kd1, .int .i64 nn1, .int .u64 uu1, .string s1, .slice B1 n1 e1, .slice B2 n2 e2] rfl rfl (row_at (heap_alloc_new _ _)) six_one H63.out HBY.out ?_; intro v' w3 ho hg hwh; obtain ⟨D', m', d', rfl⟩ := owns_sl ho; obtain ⟨f5, g5⟩ := lists_cellM (HL4.out.below ((Below.refl _ _).alloc (Nat.le_refl _) _)) (Nat.le_refl _) hg)
          have hba := (Below.refl w4.heap.size w4).alloc (Nat.le_refl _) (.cells #[.int .i64 kd1, .int .i64 nn1, .int .u64 uu1, .string s1, .slice B1 n1 e1, .slice B2 n2 e2] 27)
          have hsz : (w4.alloc (.cells #[.int .i64 kd1, .int .i64 nn1, .int .u64 uu1, .string s1, .slice B1 n1 e1, .slice B2 n2 e2] 27)).heap.size = w4.heap.size + 1 := World.size_alloc _ _
          have hst := (HL4.out.below hba).pushM (Nat.le_refl _) (by omega) (HN4.out.below hba) HN2.out.2 HGE.out (fun i hi hm => HDIS.out i hi (by simp only [List.mem_append] at hm ⊢; exact .inr (.inr hm))) (fun i hi => List.mem_append.2 (.inr hi)) hg ho hwh
          have hbw : Below w.heap.size w w3 := (HB4.out.trans (hba.mono (by omega))).grown hg (by omega) (fun k hk => by have := HL4.out.km.ge k (by simp [mem_blk, hk]); omega)
          have hg3 := hg.size
          refine wp_named (fun w6 => LSt w.heap.size (w.heap.size + 2) (keysF R.length) (acc ++ [T]) (acc ++ [T]) (.slice A' n' c') (.slice Ak (keysF R.length).length ck) (.slice D' m' d') (xs ++ [.int .i64 kd1, .int .i64 nn1, .int .u64 uu1, .string s1, .slice B1 n1 e1, .slice B2 n2 e2]) (xs ++ [.int .i64 kd1, .int .i64 nn1, .int .u64 uu1, .string s1, .slice B1 n1 e1, .slice B2 n2 e2]) (bl ++ bs) (bl ++ bs) w6 ∧ Below w.heap.size w w6 ∧ w4.heap.size ≤ w6.heap.size) ⟨hst.1, hbw.setCell (p := ⟨w.heap.size + 1, 5, none⟩) (by show w.heap.size ≤ w.heap.size + 1; omega) _, by simp only [World.size_setCell]; omega⟩ ?_
          clear hst hbw hg ho hwh hba hsz hg3 c5 f5 g5 y0 y1 y2 y3 y4 y5 HL4 HB4 HX4 HN4 HN2
          rintro w6 ⟨hL6, hb6, hz6⟩
          have HL6 := Lib.hid hL6
          have HB6 := Lib.hid hb6
          clear hL6 hb6
          have c4 : w6.cell? ⟨w.heap.size + 1, 4, none⟩ = some (.slice Ak (keysF R.length).length ck) := cell_of_row _ _ _ _ _ _ HL6.out.m
          go_upto_region 6 with (at_builtin; refine wpList_append_where (P := Tryz.prog) _ rfl (.tmp 72) (.tmp 74) 24 rfl 9 i1 (.string ⟨#[]⟩) 1 16 Tryz.underlying24 hi' hz0' hz1' hz2' rfl (by decide) (.slice Ak (keysF R.length).length ck) (keysF R.length).length ((keysF R.length).map strV) rfl (own_below HL6.out.km.k ((Below.refl _ _).alloc (Nat.le_refl _) _)) ⟨w6.heap.size, 0, none⟩ 1 1 [.string ⟨#[cc]⟩] rfl rfl (row_at (heap_alloc_new _ _)) (by intro v hv; simp only [List.mem_cons, List.not_mem_nil, or_false] at hv; subst hv; rfl) H63k.out HBYk.out ?_; intro v' w3 ho hg hwh; obtain ⟨E', p', q', rfl⟩ := owns_sl ho; obtain ⟨f4, g4⟩ := lists_cellK (HL6.out.below ((Below.refl _ _).alloc (Nat.le_refl _) _)) (Nat.le_refl _) hg)
          have hba := (Below.refl w6.heap.size w6).alloc (Nat.le_refl _) (.cells #[.string ⟨#[cc]⟩] 9)
          have hsz : (w6.alloc (.cells #[.string ⟨#[cc]⟩] 9)).heap.size = w6.heap.size + 1 := World.size_alloc _ _
          have hst := (HL6.out.below hba).pushK (Nat.le_refl _) (by omega) (k := [cc]) hg ho hwh
          have hbw : Below w.heap.size w w3 := (HB6.out.trans (hba.mono (by omega))).grown hg (by omega) (fun k hk => by have := HL6.out.km.ge k (by simp [mem_blk, hk]); omega)
          have hg3 := hg.size
          refine wp_named (fun w8 => LiJ w (R ++ [(s, T)]) A2 C5 w8) ⟨HFIN.out, fun y hy => by
            rcases List.mem_append.1 hy with hy | hy
            · exact HOK.out y hy
            · rw [List.mem_singleton] at hy; subst hy; exact ⟨HOKY.out, hsl⟩, ⟨_, _, _, _, _, by
              rw [List.length_append, List.length_singleton, HKS.out, List.map_append, ← HACC.out]
              exact hst.1⟩, hbw.setCell (p := ⟨w.heap.size + 1, 4, none⟩) (by show w.heap.size ≤ w.heap.size + 1; omega) _, by simp only [World.size_setCell]; omega⟩ ?_
          clear hst hbw hg ho hwh hba hsz hg3 c4 f4 g4 HL6 HB6
          rintro w8 hj8
          have HJ8 := Lib.hid hj8
          clear hj8
          go_wp2_with fail
          go_roundw
          case rel => exact ⟨R ++ [(s, T)], A2, C5, rfl, rfl, by simp, by simp; omega, by have := HLEN.out.1; simpa using this, by have := HLEN.out.2; simpa using this, HJ8⟩
          case measure => simp only [intOf]; omega
      · have hne : (e != 0) = true := by simp [he]
        have hba := Below.alloc (Below.refl w1.heap.size w1) (Nat.le_refl _) (.cells #[.int .i64 kd1, .int .i64 nn1, .int .u64 uu1, .string s1, .slice B1 n1 e1, .slice B2 n2 e2] 27)
        have HW2 := Lib.hid ((HWR.out.next HB1.out).next hba)
        clear hba HN HL HYE HE HOK HB1 HB HZ he hA hBm
        go_upto_region 10 with fail
        refine wp_named (fun w2 => WP w w2) HW2.out ?_
        rintro w2 hw2
        have HW3 := Lib.hid hw2
        clear hw2 HW2
        go_wp2_with fail
        refine (works_any w _ HW3.out).mono ?_
        rintro o w3 ⟨rfl, h3⟩
        have H3 := Lib.hid h3
        clear h3
        go_wp2_with fail
        go_returns
        exact ⟨rfl, H3.out.b⟩
    · obtain ⟨lv, kvM, lvM, xs, bl, hL⟩ := hL
      obtain ⟨acc, hacc⟩ : ∃ acc, acc = R.map (·.2) := ⟨_, rfl⟩
      have hlaw := lists_law R h6 hOK (by have := congrArg List.length hE.1; rw [List.length_cons] at this; omega) (by have := congrArg List.length hE.2; rw [List.length_cons] at this; omega)
      have e1 : A ++ [93] = 91 :: (joinC (R.map (·.1)) ++ [93]) := by rw [hE.1]; rfl
      have e2 : Bm ++ [125] = 123 :: (joinC ((memF 0 R).map fun y => y.1.1 ++ y.2.1) ++ [125]) := by rw [hE.2]; rfl
      rw [← e1, ← e2, ← hacc] at hlaw
      rw [← hacc] at hL
      obtain ⟨A', HA1, hap⟩ : ∃ A' : List UInt8, Hid (A' = A ++ [93]) ∧ (⟨A.toArray⟩ : ByteArray) ++ ⟨#[93]⟩ = ⟨A'.toArray⟩ := ⟨A ++ [93], Lib.hid rfl, str_app A [93]⟩
      obtain ⟨B', HB3, hbp⟩ : ∃ A' : List UInt8, Hid (A' = Bm ++ [125]) ∧ (⟨Bm.toArray⟩ : ByteArray) ++ ⟨#[125]⟩ = ⟨A'.toArray⟩ := ⟨Bm ++ [125], Lib.hid rfl, str_app Bm [125]⟩
      rw [← HA1.out, ← HB3.out] at hlaw
      have hA2 : A'.length ≤ 1073741824 := by rw [HA1.out, List.length_append, List.length_singleton]; omega
      have hB2 : B'.length ≤ 1073741824 := by rw [HB3.out, List.length_append, List.length_singleton]; omega
      have hl1 : A.length + 1 ≤ 9223372036854775807 := by omega
      have hl2 : Bm.length + 1 ≤ 9223372036854775807 := by omega
      obtain ⟨Av, cv, rfl⟩ := owns_ptr hL.kv.r
      obtain ⟨Ak, ck, rfl⟩ := owns_ptr hL.km.k
      obtain ⟨Am, cm, rfl⟩ := owns_ptr hL.km.r
      obtain ⟨v0, v1, v2, v3, v4, v5⟩ := cells6 hL.v
      have HS1 := Lib.hid (says_yes A' _ _ _ _ _ _ _ hlaw.1 wr wr hA2 (kids_reads hL.kv 10) (WP.refl hWr.g hWr.gw))
      have HS2 := Lib.hid (fun (W : World) (hb' : Below wr.heap.size wr W) => says_yes B' _ _ _ _ _ _ _ hlaw.2 W W hB2 (RRep.below hb' _ _ (kids_reads hL.km 17)) (WP.refl (hWr.next hb').g (hWr.next hb').gw))
      have HM := Lib.hid hL.m
      have HWR := Lib.hid hWr
      have HG1 := Lib.hid g1
      clear hlaw hL hWr hacc e1 e2 HA1 HB3 hE hOK HJ hA2 hB2 hb hz g1
      unfold strV at HS1 HS2
      by_cases gl : R.length < len0
      · have d1 : (R.length : Int) < (len0 : Int) := by omega
        have d2 : ¬ ((R.length : Int) < 6) := by have := HG1.out; omega
        go_wp2_with fail
        refine HS1.out.mono ?_
        rintro o w1 ⟨rfl, hw1⟩
        have hm1 := (hw1.b.block _ (Array.getElem?_eq_some_iff.1 HM.out).1).trans HM.out
        obtain ⟨m0, m1, m2, m3, m4, m5⟩ := cells6 hm1
        have HS3 := Lib.hid (HS2.out w1 hw1.b)
        have HW1 := Lib.hid hw1
        clear hw1 hm1 v0 v1 v2 v3 v4 v5
        go_wp2_with fail
        refine HS3.out.mono ?_
        rintro o w2 ⟨rfl, hw2⟩
        have HW2 := Lib.hid ((HWR.out.next HW1.out.b).next hw2.b)
        clear hw2 m0 m1 m2 m3 m4 m5
        go_wp2_with fail
        refine (works_any w _ HW2.out).mono ?_
        rintro o w3 ⟨rfl, h3⟩
        have H3 := Lib.hid h3
        clear h3
        go_wp2_with fail
        go_returns
        exact ⟨rfl, H3.out.b⟩
      · have d1 : ¬ ((R.length : Int) < (len0 : Int)) := by omega
        go_wp2_with fail
        refine HS1.out.mono ?_
        rintro o w1 ⟨rfl, hw1⟩
        have hm1 := (hw1.b.block _ (Array.getElem?_eq_some_iff.1 HM.out).1).trans HM.out
        obtain ⟨m0, m1, m2, m3, m4, m5⟩ := cells6 hm1
        have HS3 := Lib.hid (HS2.out w1 hw1.b)
        have HW1 := Lib.hid hw1
        clear hw1 hm1 v0 v1 v2 v3 v4 v5
        go_wp2_with fail
        refine HS3.out.mono ?_
        rintro o w2 ⟨rfl, hw2⟩
        have HW2 := Lib.hid ((HWR.out.next HW1.out.b).next hw2.b)
        clear hw2 m0 m1 m2 m3 m4 m5
        go_wp2_with fail
        refine (works_any w _ HW2.out).mono ?_
        rintro o w3 ⟨rfl, h3⟩
        have H3 := Lib.hid h3
        clear h3
        go_wp2_with fail
        go_returns
        exact ⟨rfl, H3.out.b⟩
end
end
end Go.Proofs.YtccmhhmdenfecaaGreatDoor
