/- The state of the reference's check: what holds between the calls, what a call keeps; tell. -/
import Derived.Test.YtmpflnlajakibaaB3
import Derived.Test.YtmpflnlajakibaaUniq
import Derived.Test.YtmpflnlajakibaaRef7
import Derived.Laws.OwnMore
namespace Go.Proofs.Ytmpflnlajakibaa
set_option linter.unusedVariables false
set_option linter.unusedSimpArgs false
set_option linter.unusedSectionVars false
open Go.RowKit
/-- The cells of the reference's Look. -/
def rkCells (bv : Value) (deep bud steps : Int) (lv cv : Value) (at_ e : Int) : Array Value :=
  #[bv, .int .i64 deep, .int .i64 bud, .int .i64 steps, lv, cv, .int .i64 at_, .int .i64 e]
def knownRow : List (Lead × Int) → List Value
  | [] => []
  | ((t, a, k), h) :: R => .int .i64 t :: .int .i64 a :: .int .i64 k :: .int .i64 h :: knownRow R
def intRow (C : List Int) : List Value := C.map (Value.int .i64)
structure RSt (K : Nat → Prop) (w : World) (lk b o n cap : Nat) (D : List UInt8) (dp bud steps at_ e : Int) (lv cv : Value) (Ls : List (Lead × Int)) (Cs : List Int) : Prop where
  row : w.heap[lk]? = some (.cells (rkCells (.slice (some ⟨b, o, none⟩) n cap) dp bud steps lv cv at_ e) 71 (0, 0))
  doc : Doc w b o n cap D
  ol : w.ownsRow 0 108 4 lv Ls.length (knownRow Ls)
  oc : w.ownsRow 0 3 1 cv Cs.length (intRow Cs)
  kb : K b
  k1 : ∀ i, K i → i < w.heap.size ∧ i ≠ lk ∧ lv.ownBlock ≠ some i ∧ cv.ownBlock ≠ some i
  n1 : lv.ownBlock ≠ some lk ∧ cv.ownBlock ≠ some lk
  n2 : lv.ownBlock = none ∨ cv.ownBlock = none ∨ lv.ownBlock ≠ cv.ownBlock
/-- What a call keeps. -/
structure RKept (K : Nat → Prop) (w w' : World) : Prop where
  os : w'.os = w.os
  tape : w'.tape = w.tape
  output : w'.output = w.output
  size : w.heap.size ≤ w'.heap.size
  block : ∀ i, K i → w'.heap[i]? = w.heap[i]?
section
variable {K K' : Nat → Prop} {w w' w1 W : World}
theorem RKept.refl (K : Nat → Prop) (w : World) : RKept K w w := ⟨rfl, rfl, rfl, Nat.le_refl _, fun _ _ => rfl⟩
theorem RKept.trans {a b c : World} (h : RKept K a b) (k : RKept K b c) : RKept K a c :=
  ⟨k.os.trans h.os, k.tape.trans h.tape, k.output.trans h.output, Nat.le_trans h.size k.size, fun i hi => (k.block i hi).trans (h.block i hi)⟩
theorem RKept.mono (h : RKept K' w w') (hk : ∀ i, K i → K' i) : RKept K w w' := ⟨h.os, h.tape, h.output, h.size, fun i hi => h.block i (hk i hi)⟩
theorem rkept_same {a : World} (h : RKept K W w1) (h0 : RKept K a W) : RKept K a w1 := h0.trans h
theorem rkept_call {a : World} (h : RKept (fun i => K i ∨ K' i) W w1) (h0 : RKept K a W) : RKept K a w1 := h0.trans (h.mono fun _ hi => .inl hi)
theorem RKept.of_below {B : Nat} (hK : ∀ i, K i → i < B) (h : Below B w w') : RKept K w w' := ⟨h.os, h.tape, h.output, h.size, fun i hi => h.block i (hK i hi)⟩
theorem rkept_below {a : World} {B : Nat} (hK : ∀ i, K i → i < B) (h : Below W.heap.size W w1) (h0 : RKept K a W) (hB : B ≤ W.heap.size) : RKept K a w1 := h0.trans (RKept.of_below hK (h.mono hB))
theorem RKept.drew {a : World} (h : RKept K a W) : RKept K a W.drew := ⟨h.os, h.tape, h.output, h.size, h.block⟩
theorem RKept.drewN {a : World} {B : Nat} (hK : ∀ i, K i → i < B) (h : RKept K a W) (k : Nat) : RKept K a (W.drewN k) := h.trans (RKept.of_below hK (below_drewN (Below.refl B W) k))
theorem RKept.alloc {a : World} {B : Nat} (hK : ∀ i, K i → i < B) (h : RKept K a W) (hB : B ≤ W.heap.size) (o : Obj) : RKept K a (W.alloc o) := h.trans (RKept.of_below hK ((Below.refl B W).alloc hB o))
theorem RKept.setCell {a : World} {B : Nat} (hK : ∀ i, K i → i < B) (h : RKept K a W) {p : Addr} (hp : B ≤ p.block) (u : Value) : RKept K a (W.setCell p u) := h.trans (RKept.of_below hK ((Below.refl B W).setCell hp u))
theorem RKept.cell (h : RKept K w w') {x : Nat} (hx : K x) (o : Nat) : w'.cell? ⟨x, o, none⟩ = w.cell? ⟨x, o, none⟩ := World.cell?_of_block (a := ⟨x, o, none⟩) (h.block x hx)
theorem RKept.froz (h : RKept K w w') {x : Nat} (hx : K x) (o : Nat) : w'.frozen? ⟨x, o, none⟩ = w.frozen? ⟨x, o, none⟩ := World.frozen?_of_block (a := ⟨x, o, none⟩) (h.block x hx)
end
section
variable {K K' : Nat → Prop} {w w' w1 W : World} {lk b o n cap : Nat} {D : List UInt8} {dp bud steps at_ e : Int} {lv cv : Value} {Ls : List (Lead × Int)} {Cs : List Int}
theorem RSt.lkt (h : RSt K w lk b o n cap D dp bud steps at_ e lv cv Ls Cs) : lk < w.heap.size := (Array.getElem?_eq_some_iff.1 h.row).1
theorem own_same {B : Nat} {ty : TypeId} {sz m : Nat} {v : Value} {xs : List Value} (h : w.ownsRow B ty sz v m xs) (hk : ∀ i, v.ownBlock = some i → w'.heap[i]? = w.heap[i]?) : w'.ownsRow B ty sz v m xs := by
  refine ⟨h.1, ?_⟩
  rcases h.2 with hn | ⟨g, c, cur, rfl, hb, hg, rest⟩
  · exact .inl hn
  · exact .inr ⟨g, c, cur, rfl, hb, (hk g rfl).trans hg, rest⟩
/-- The state in another world that agrees on its blocks, with more blocks kept. -/
theorem RSt.move (h : RSt K w lk b o n cap D dp bud steps at_ e lv cv Ls Cs) (hs : w.heap.size ≤ W.heap.size) (hb : ∀ i, i < w.heap.size → (i = lk ∨ i = b ∨ lv.ownBlock = some i ∨ cv.ownBlock = some i) → W.heap[i]? = w.heap[i]?)
    (hK : ∀ i, K' i → K i ∨ (i < W.heap.size ∧ i ≠ lk ∧ lv.ownBlock ≠ some i ∧ cv.ownBlock ≠ some i)) (hkb : K' b) : RSt K' W lk b o n cap D dp bud steps at_ e lv cv Ls Cs := by
  refine ⟨(hb lk h.lkt (.inl rfl)).trans h.row, ⟨h.doc.len, h.doc.le, h.doc.max, h.doc.sm, fun i hi => ?_, Nat.lt_of_lt_of_le h.doc.lt hs⟩, own_same h.ol fun i hi => hb i (h.ol.lt i hi).2 (.inr (.inr (.inl hi))), own_same h.oc fun i hi => hb i (h.oc.lt i hi).2 (.inr (.inr (.inr hi))), hkb, fun i hi => ?_, h.n1, h.n2⟩
  · rw [World.cell?_of_block (w := w) (w' := W) (a := ⟨b, o + i, none⟩) (hb b h.doc.lt (.inr (.inl rfl)))]; exact h.doc.at_ i hi
  · rcases hK i hi with hk | hk
    · obtain ⟨x1, x2⟩ := h.k1 i hk
      exact ⟨Nat.lt_of_lt_of_le x1 hs, x2⟩
    · exact hk
/-- Into a world that grew, own blocks kept besides. -/
theorem RSt.enter (h : RSt K w lk b o n cap D dp bud steps at_ e lv cv Ls Cs) (hb : Below w.heap.size w W) (hK : ∀ i, K' i → w.heap.size ≤ i ∧ i < W.heap.size) : RSt (fun i => K i ∨ K' i) W lk b o n cap D dp bud steps at_ e lv cv Ls Cs := by
  refine h.move hb.size (fun i hi _ => hb.block i hi) (fun i hi => ?_) (.inl h.kb)
  rcases hi with hi | hi
  · exact .inl hi
  · obtain ⟨x1, x2⟩ := hK i hi
    have := h.lkt
    refine .inr ⟨x2, by omega, fun hx => ?_, fun hx => ?_⟩
    · have := (h.ol.lt i hx).2; omega
    · have := (h.oc.lt i hx).2; omega
theorem RSt.keep (h : RSt K w lk b o n cap D dp bud steps at_ e lv cv Ls Cs) (hb : Below w.heap.size w W) : RSt K W lk b o n cap D dp bud steps at_ e lv cv Ls Cs :=
  h.move hb.size (fun i hi _ => hb.block i hi) (fun i hi => .inl hi) h.kb
theorem RSt.less (h : RSt (fun i => K i ∨ K' i) w lk b o n cap D dp bud steps at_ e lv cv Ls Cs) (hkb : K b) : RSt K w lk b o n cap D dp bud steps at_ e lv cv Ls Cs :=
  h.move (Nat.le_refl _) (fun _ _ _ => rfl) (fun i hi => .inl (.inl hi)) hkb
/-- Own blocks may be written. -/
theorem RSt.wrote {T : List Nat} (h : RSt K w lk b o n cap D dp bud steps at_ e lv cv Ls Cs) (ht : Touch T w W) (hT : ∀ x ∈ T, (K x ∧ x ≠ b) ∨ w.heap.size ≤ x) : RSt K W lk b o n cap D dp bud steps at_ e lv cv Ls Cs := by
  refine h.move ht.size (fun i hi hx => ht.block i hi fun hm => ?_) (fun i hi => .inl hi) h.kb
  rcases hT i hm with ⟨y1, y2⟩ | y
  · obtain ⟨z1, z2, z3, z4⟩ := h.k1 i y1
    rcases hx with hx | hx | hx | hx
    · exact z2 hx
    · exact y2 hx
    · exact z3 hx
    · exact z4 hx
  · omega
end
/-- The state while no failure is recorded, against the model's. -/
structure ROk (K : Nat → Prop) (w : World) (lk b o n cap : Nat) (D : List UInt8) (dp bud : Int) (S : VS) : Prop where
  st : ∃ at_ lv cv, RSt K w lk b o n cap D dp bud S.s at_ 0 lv cv S.L.reverse S.C.reverse
  s0 : 0 ≤ S.s
  s1 : S.s ≤ bud
  bd : bud ≤ 1073741824
  kn : KInv S.L
  nd : ND S.L
  cs : (S.C.length : Int) ≤ S.s
/-- The state with a failure. -/
def RNo (K : Nat → Prop) (w : World) (lk b o n cap : Nat) (D : List UInt8) (dp : Int) (s a e : Int) : Prop :=
  e ≠ 0 ∧ 0 ≤ s ∧ ∃ bud lv cv Ls Cs, s ≤ bud ∧ bud ≤ 1073741824 ∧ RSt K w lk b o n cap D dp bud s a e lv cv Ls Cs
section
variable {K K' : Nat → Prop} {w w' w1 W : World} {lk b o n cap : Nat} {D : List UInt8} {dp bud : Int} {S : VS} {s a e : Int}
theorem ROk.lkt (h : ROk K w lk b o n cap D dp bud S) : lk < w.heap.size := by obtain ⟨_, _, _, h⟩ := h.st; exact h.lkt
theorem RNo.lkt (h : RNo K w lk b o n cap D dp s a e) : lk < w.heap.size := by obtain ⟨_, _, _, _, _, _, _, _, _, h⟩ := h; exact h.lkt
theorem ROk.hK (h : ROk K w lk b o n cap D dp bud S) : ∀ i, K i → i < w.heap.size := by obtain ⟨_, _, _, h⟩ := h.st; exact fun i hi => (h.k1 i hi).1
theorem RNo.hK (h : RNo K w lk b o n cap D dp s a e) : ∀ i, K i → i < w.heap.size := by obtain ⟨_, _, _, _, _, _, _, _, _, h⟩ := h; exact fun i hi => (h.k1 i hi).1
theorem ROk.kb (h : ROk K w lk b o n cap D dp bud S) : K b := by obtain ⟨_, _, _, h⟩ := h.st; exact h.kb
theorem RNo.kb (h : RNo K w lk b o n cap D dp s a e) : K b := by obtain ⟨_, _, _, _, _, _, _, _, _, h⟩ := h; exact h.kb
theorem ROk.doc (h : ROk K w lk b o n cap D dp bud S) : Doc w b o n cap D := by obtain ⟨_, _, _, h⟩ := h.st; exact h.doc
theorem RNo.doc (h : RNo K w lk b o n cap D dp s a e) : Doc w b o n cap D := by obtain ⟨_, _, _, _, _, _, _, _, _, h⟩ := h; exact h.doc
theorem ROk.enter (h : ROk K w lk b o n cap D dp bud S) (hb : Below w.heap.size w W) (hK : ∀ i, K' i → w.heap.size ≤ i ∧ i < W.heap.size) : ROk (fun i => K i ∨ K' i) W lk b o n cap D dp bud S := by
  obtain ⟨x1, x2, x3, x4⟩ := h.st
  exact ⟨⟨x1, x2, x3, x4.enter hb hK⟩, h.s0, h.s1, h.bd, h.kn, h.nd, h.cs⟩
theorem RNo.enter (h : RNo K w lk b o n cap D dp s a e) (hb : Below w.heap.size w W) (hK : ∀ i, K' i → w.heap.size ≤ i ∧ i < W.heap.size) : RNo (fun i => K i ∨ K' i) W lk b o n cap D dp s a e := by
  obtain ⟨h0, h1, x1, x2, x3, x4, x5, h2, h3, x6⟩ := h
  exact ⟨h0, h1, x1, x2, x3, x4, x5, h2, h3, x6.enter hb hK⟩
theorem ROk.keep (h : ROk K w lk b o n cap D dp bud S) (hb : Below w.heap.size w W) : ROk K W lk b o n cap D dp bud S := by
  obtain ⟨x1, x2, x3, x4⟩ := h.st
  exact ⟨⟨x1, x2, x3, x4.keep hb⟩, h.s0, h.s1, h.bd, h.kn, h.nd, h.cs⟩
theorem RNo.keep (h : RNo K w lk b o n cap D dp s a e) (hb : Below w.heap.size w W) : RNo K W lk b o n cap D dp s a e := by
  obtain ⟨h0, h1, x1, x2, x3, x4, x5, h2, h3, x6⟩ := h
  exact ⟨h0, h1, x1, x2, x3, x4, x5, h2, h3, x6.keep hb⟩
theorem ROk.less (h : ROk (fun i => K i ∨ K' i) w lk b o n cap D dp bud S) (hkb : K b) : ROk K w lk b o n cap D dp bud S := by
  obtain ⟨x1, x2, x3, x4⟩ := h.st
  exact ⟨⟨x1, x2, x3, x4.less hkb⟩, h.s0, h.s1, h.bd, h.kn, h.nd, h.cs⟩
theorem RNo.less (h : RNo (fun i => K i ∨ K' i) w lk b o n cap D dp s a e) (hkb : K b) : RNo K w lk b o n cap D dp s a e := by
  obtain ⟨h0, h1, x1, x2, x3, x4, x5, h2, h3, x6⟩ := h
  exact ⟨h0, h1, x1, x2, x3, x4, x5, h2, h3, x6.less hkb⟩
theorem ROk.wrote {T : List Nat} (h : ROk K w lk b o n cap D dp bud S) (ht : Touch T w W) (hT : ∀ x ∈ T, (K x ∧ x ≠ b) ∨ w.heap.size ≤ x) : ROk K W lk b o n cap D dp bud S := by
  obtain ⟨x1, x2, x3, x4⟩ := h.st
  exact ⟨⟨x1, x2, x3, x4.wrote ht hT⟩, h.s0, h.s1, h.bd, h.kn, h.nd, h.cs⟩
theorem RNo.wrote {T : List Nat} (h : RNo K w lk b o n cap D dp s a e) (ht : Touch T w W) (hT : ∀ x ∈ T, (K x ∧ x ≠ b) ∨ w.heap.size ≤ x) : RNo K W lk b o n cap D dp s a e := by
  obtain ⟨h0, h1, x1, x2, x3, x4, x5, h2, h3, x6⟩ := h
  exact ⟨h0, h1, x1, x2, x3, x4, x5, h2, h3, x6.wrote ht hT⟩
end
/-- tell. -/
theorem rtell_any (lk : Nat) (bv lv cv : Value) (deep bud steps at_ e a x : Int) (w : World) (hr : w.heap[lk]? = some (.cells (rkCells bv deep bud steps lv cv at_ e) 71 (0, 0))) :
    Calls Try.prog 52 #[.pointer (some ⟨lk, 0, none⟩), .int .i64 a, .int .i64 x] w fun en w' =>
      en = .returned (.tuple #[]) ∧ w'.heap[lk]? = some (.cells (rkCells bv deep bud steps lv cv (tellA e at_ a) (tellE e x)) 71 (0, 0)) ∧ Touch [lk] w w' := by
  have Hr := Lib.hid hr
  have c7 : w.cell? ⟨lk, 7, none⟩ = some (.int .i64 e) := cell_of_row _ _ _ _ _ _ hr
  have c6 : w.cell? ⟨lk, 6, none⟩ = some (.int .i64 at_) := cell_of_row _ _ _ _ _ _ hr
  have f6 := frozen_of_row _ _ 6 _ _ hr
  have f7 := frozen_of_row _ _ 7 _ _ hr
  clear hr
  by_cases he : e = 0
  · subst he
    have e1 : tellE 0 x = x := by simp [tellE]
    have e2 : tellA 0 at_ a = a := by simp [tellA]
    rw [e1, e2]; clear e1 e2
    go_enter Try.func52, Try.ntmps52
    go_wp2
    go_returns
    exact ⟨rfl, heap_setCell_same _ _ _ _ _ _ (heap_setCell_same _ _ _ _ _ _ Hr.out), (Touch.setCell _ _ _ _).trans (Touch.setCell _ _ _ _)⟩
  · have he' : (e == 0) = false := by simpa using he
    have e1 : tellE e x = e := by simp [tellE, he]
    have e2 : tellA e at_ a = at_ := by simp [tellA, he]
    rw [e1, e2]; clear e1 e2 he
    go_enter Try.func52, Try.ntmps52
    go_wp2
    go_returns
    exact ⟨rfl, Hr.out, Touch.refl _ _⟩
section
variable {K : Nat → Prop} {w w' : World} {lk b o n cap : Nat} {D : List UInt8} {dp bud : Int} {S : VS} {steps at_ e : Int} {lv cv : Value} {Ls : List (Lead × Int)} {Cs : List Int}
theorem RSt.told {bud' steps' at' e' : Int} (h : RSt K w lk b o n cap D dp bud steps at_ e lv cv Ls Cs) (ht : Touch [lk] w w') (hr : w'.heap[lk]? = some (.cells (rkCells (.slice (some ⟨b, o, none⟩) n cap) dp bud' steps' lv cv at' e') 71 (0, 0))) :
    RSt K w' lk b o n cap D dp bud' steps' at' e' lv cv Ls Cs := by
  have hb : b ≠ lk := (h.k1 b h.kb).2.1
  refine ⟨hr, ⟨h.doc.len, h.doc.le, h.doc.max, h.doc.sm, fun i hi => ?_, Nat.lt_of_lt_of_le h.doc.lt ht.size⟩, own_same h.ol fun i hi => ht.block i (h.ol.lt i hi).2 ?_, own_same h.oc fun i hi => ht.block i (h.oc.lt i hi).2 ?_, h.kb, fun i hi => ?_, h.n1, h.n2⟩
  · rw [World.cell?_of_block (w := w) (w' := w') (a := ⟨b, o + i, none⟩) (ht.block b h.doc.lt (by simpa using hb))]; exact h.doc.at_ i hi
  · intro hx; have : i = lk := by simpa using hx
    subst this; exact h.n1.1 hi
  · intro hx; have : i = lk := by simpa using hx
    subst this; exact h.n1.2 hi
  · obtain ⟨x1, x2⟩ := h.k1 i hi
    exact ⟨Nat.lt_of_lt_of_le x1 ht.size, x2⟩
theorem RSt.tkept (h : RSt K w lk b o n cap D dp bud steps at_ e lv cv Ls Cs) (ht : Touch [lk] w w') : RKept K w w' :=
  ⟨ht.os, ht.tape, ht.output, ht.size, fun i hi => ht.block i (h.k1 i hi).1 (by simpa using (h.k1 i hi).2.1)⟩
theorem rtell_no (h : ROk K w lk b o n cap D dp bud S) (a e : Int) (he : e ≠ 0) :
    Calls Try.prog 52 #[.pointer (some ⟨lk, 0, none⟩), .int .i64 a, .int .i64 e] w fun en w' => en = .returned (.tuple #[]) ∧ RNo K w' lk b o n cap D dp S.s a e ∧ RKept K w w' := by
  obtain ⟨at_, lv, cv, h1⟩ := h.st
  refine (rtell_any lk _ lv cv dp bud S.s at_ 0 a e w h1.row).mono ?_
  rintro en w1 ⟨rfl, hr, ht⟩
  exact ⟨rfl, ⟨he, h.s0, bud, lv, cv, _, _, h.s1, h.bd, by simpa [tellE, tellA] using h1.told ht hr⟩, h1.tkept ht⟩
theorem rtell_still {s a' e : Int} (h : RNo K w lk b o n cap D dp s a' e) (a x : Int) :
    Calls Try.prog 52 #[.pointer (some ⟨lk, 0, none⟩), .int .i64 a, .int .i64 x] w fun en w' => en = .returned (.tuple #[]) ∧ RNo K w' lk b o n cap D dp s a' e ∧ RKept K w w' := by
  obtain ⟨he, h0, l, lv, cv, Ls, Cs, h2, h3, h1⟩ := h
  refine (rtell_any lk _ lv cv dp l s a' e a x w h1.row).mono ?_
  rintro en w1 ⟨rfl, hr, ht⟩
  exact ⟨rfl, ⟨he, h0, l, lv, cv, Ls, Cs, h2, h3, by simpa [tellE, tellA, he] using h1.told ht hr⟩, h1.tkept ht⟩
end
end Go.Proofs.Ytmpflnlajakibaa
