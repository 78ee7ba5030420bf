/- Appending to an own row: where the row then lies. The reference's rows. -/
import Derived.Test.YtmpflnlajakibaaRSt
import Derived.Deep.RegionLaw
namespace Go.Proofs.Ytmpflnlajakibaa
set_option linter.unusedVariables false
set_option linter.unusedSimpArgs false
set_option linter.unusedSectionVars false
open Go.RowKit
section
variable {P : Program} (w : World)
/-- An append to an own row: the new row is the old one or lies in a new block. -/
theorem run_append_where (t ty e : TypeId) (i : TypeInfo) (z : Value) (size bytes : Nat) (ht : P.underlying t = some (.slice e)) (hi : P.info? e = some i) (hz : i.zero = some z)
    (hsize : i.size = size) (hby : i.bytes = bytes) (hzs : z.cells.size = size) (hsz : 0 < size)
    (v : Value) (n : Nat) (xs : List Value) (hown : w.ownsRow 0 e size v n xs)
    (a : Addr) (m c : Nat) (news : List Value) (hl : news.length = m * size) (hnews : ∀ j u, news[j]? = some u → w.cell? (a.add j) = some u) (h1 : ∀ u ∈ news, u.oneCell' = true)
    (h63 : n + m ≤ maxLen) (hbytes : (n + m) * bytes ≤ 140737488355328) :
    ∃ v' w', (Builtin.append_ #[t, t] ty #[v, .slice (some a) m c]).run P w = .ok v' w' ∧ w'.ownsRow 0 e size v' (n + m) (xs ++ news) ∧ w.grownBy w' v.ownBlock ∧
      (v'.ownBlock = v.ownBlock ∨ v'.ownBlock = some w.heap.size) := by
  obtain ⟨v', w', hr, h2, h3, h4⟩ := run_append_own (P := P) w 0 t ty e i z size bytes ht hi hz hsize hby hzs hsz v n xs hown a m c news hl hnews h1 h63 hbytes (Nat.zero_le _)
  refine ⟨v', w', hr, h2, h3, ?_⟩
  subst hsize
  subst hby
  have hsmall : n + m ≤ 9223372036854775807 := by simp only [maxLen] at h63; omega
  rcases hown.2 with ⟨rfl, rfl⟩ | ⟨g, cap, cur, rfl, hbg, hg, hnc, hcm, hcs, htake⟩
  · by_cases hm : m = 0
    · left
      rw [h4.2 ⟨rfl, hm⟩]
    · right
      have hx := run_append_nil (P := P) w t ty e i z ht hi hz a m c news hl hnews (by omega) (by omega) (by have hb := hbytes; simp only [Nat.zero_add] at hb; omega)
      rw [hx] at hr
      injection hr with hr _
      rw [← hr]; rfl
  · by_cases hroom : n + m ≤ cap
    · left
      have hfit : n * i.size + news.length ≤ cur.size := by rw [hl, hcs, ← Nat.add_mul]; exact Nat.mul_le_mul_right _ hroom
      have hx := run_append_room (P := P) w t ty e i ht hi g n cap cur hg a m c news hl hnews h1 hroom hfit
      rw [hx] at hr
      injection hr with hr _
      rw [← hr]; rfl
    · right
      have holds : ∀ j u, xs[j]? = some u → w.cell? ((⟨g, 0, none⟩ : Addr).add j) = some u := hown.cells (g := g) rfl
      have hx := run_append_grow (P := P) w t ty e i z ht hi hz ⟨g, 0, none⟩ n cap xs hown.1 holds a m c news hl hnews (by omega) (by omega) (growslice_fits (by omega) hbytes)
      rw [hx] at hr
      injection hr with hr _
      rw [← hr]; rfl
theorem wpList_append_where {ops : Array Oper} {rest : List Oper} {o : Oper} {a : Act} {Q : Exit → Act → World → Prop} (hgd : o.guard = none) (s x : Operand) (t : TypeId)
    (ho : o.op = .call { callee := .builtin .append, args := #[s, x], argTypes := #[t, t] })
    (e : TypeId) (i : TypeInfo) (z : Value) (size bytes : Nat) (ht : P.underlying t = some (.slice e)) (hi : P.info? e = some i) (hz : i.zero = some z)
    (hsize : i.size = size) (hby : i.bytes = bytes) (hzs : z.cells.size = size) (hsz : 0 < size)
    (v : Value) (n : Nat) (xs : List Value) (hs : a.eval s = v) (hown : w.ownsRow 0 e size v n xs)
    (ad : Addr) (m c : Nat) (news : List Value) (hx : a.eval x = .slice (some ad) m c) (hl : news.length = m * size) (hnews : ∀ j u, news[j]? = some u → w.cell? (ad.add j) = some u) (h1 : ∀ u ∈ news, u.oneCell' = true)
    (h63 : n + m ≤ maxLen) (hbytes : (n + m) * bytes ≤ 140737488355328)
    (h : ∀ v' w', w'.ownsRow 0 e size v' (n + m) (xs ++ news) → w.grownBy w' v.ownBlock → (v'.ownBlock = v.ownBlock ∨ v'.ownBlock = some w.heap.size) → wpList P ops Q rest (a.put o.dst v') w') : wpList P ops Q (o :: rest) a w := by
  obtain ⟨v', w', hr, h2, h3, h4⟩ := run_append_where (P := P) w t o.type e i z size bytes ht hi hz hsize hby hzs hsz v n xs hown ad m c news hl hnews h1 h63 hbytes
  refine wpList_plain hgd fun _ hK => ?_
  unfold Oper.wp execOp
  simp only [ho, resolve, invoke, builtin, Sem.run_bind, Sem.run_pure, Result.andThen_ok, List.map_toArray, List.map_cons, List.map_nil, hs, hx, hr]
  exact hK _ _ (h v' w' h2 h3 h4)
end
/-- The same, as one step of a region that draws its order. -/
theorem step_append_where {P : Program} {ops : Array Oper} {o : Oper} {a : Act} {w : World} {K : Act → World → Prop} {Q : Exit → Act → World → Prop} {E : Prop}
    (hg : o.guard = none) (s x : Operand) (t : TypeId) (hop : o.op = Op.call { callee := Callee.builtin Builtin.append, args := #[s, x], argTypes := #[t, t] })
    (e : TypeId) (i : TypeInfo) (z : Value) (size bytes : Nat) (ht : P.underlying t = some (.slice e)) (hi : P.info? e = some i) (hz : i.zero = some z)
    (hsize : i.size = size) (hby : i.bytes = bytes) (hzs : z.cells.size = size) (hsz : 0 < size)
    (v : Value) (n : Nat) (xs : List Value) (hs : a.eval s = v) (hown : w.ownsRow 0 e size v n xs)
    (ad : Addr) (m c : Nat) (news : List Value) (hx : a.eval x = .slice (some ad) m c) (hl : news.length = m * size) (hnews : ∀ j u, news[j]? = some u → w.cell? (ad.add j) = some u) (h1 : ∀ u ∈ news, u.oneCell' = true)
    (h63 : n + m ≤ maxLen) (hbytes : (n + m) * bytes ≤ 140737488355328)
    (hK : ∀ v' w', w'.ownsRow 0 e size v' (n + m) (xs ++ news) → w.grownBy w' v.ownBlock → (v'.ownBlock = v.ownBlock ∨ v'.ownBlock = some w.heap.size) → K (a.put o.dst v') w') :
    if Region.wanted o (yielded ops a.tmps) = true then Oper.wp P o a w K Q else E := by
  have hw : Region.wanted o (yielded ops a.tmps) = true := by simp [Region.wanted, hg]
  rw [if_pos hw]
  obtain ⟨v', w', hrun, h2, h3, h4⟩ := run_append_where (P := P) w t o.type e i z size bytes ht hi hz hsize hby hzs hsz v n xs hown ad m c news hl hnews h1 h63 hbytes
  unfold Oper.wp
  simp [execOp, hop, resolve, invoke, builtin, hs, hx, hrun, Result.andThen]
  exact hK v' w' h2 h3 h4
theorem knownRow_append (R : List (Lead × Int)) (t a k h : Int) : knownRow (R ++ [((t, a, k), h)]) = knownRow R ++ [.int .i64 t, .int .i64 a, .int .i64 k, .int .i64 h] := by
  induction R with
  | nil => rfl
  | cons y R ih => obtain ⟨⟨t', a', k'⟩, h'⟩ := y; simp only [List.cons_append, knownRow, ih]
theorem intRow_append (C : List Int) (a : Int) : intRow (C ++ [a]) = intRow C ++ [.int .i64 a] := by simp [intRow]
section
variable {K : Nat → Prop} {w W w3 : World} {lk b o n cap : Nat} {D : List UInt8} {dp bud steps at_ e : Int} {lv cv v' : Value} {Ls : List (Lead × Int)} {Cs : List Int}
theorem RSt.counted (h : RSt K w lk b o n cap D dp bud steps at_ e lv cv Ls Cs) (hb : Below w.heap.size w W) (a : Int) (ho : w3.ownsRow 0 3 1 v' (Cs.length + 1) (intRow Cs ++ [.int .i64 a])) (hg : W.grownBy w3 cv.ownBlock)
    (hw : v'.ownBlock = cv.ownBlock ∨ v'.ownBlock = some W.heap.size) :
    RSt K (w3.setCell ⟨lk, 5, none⟩ v') lk b o n cap D dp bud steps at_ e lv v' Ls (Cs ++ [a]) ∧ RKept K w (w3.setCell ⟨lk, 5, none⟩ v') := by
  have hs1 := hb.size
  have hs2 := hg.size
  have hsame : ∀ i, i < w.heap.size → cv.ownBlock ≠ some i → w3.heap[i]? = w.heap[i]? := fun i hi hn => (hg.block i (by omega) (fun e => hn e.symm)).trans (hb.block i hi)
  have hlk := h.lkt
  have hrow : w3.heap[lk]? = some (.cells (rkCells (.slice (some ⟨b, o, none⟩) n cap) dp bud steps lv cv at_ e) 71 (0, 0)) := (hsame lk hlk h.n1.2).trans h.row
  have hv : ∀ i, v'.ownBlock = some i → i ≠ lk := fun i hi e => by
    subst e
    rcases hw with hw | hw
    · rw [hw] at hi; exact h.n1.2 hi
    · rw [hw] at hi; injection hi with hi; omega
  have hkb := h.k1 b h.kb
  have hset : ∀ i, i ≠ lk → (w3.setCell ⟨lk, 5, none⟩ v').heap[i]? = w3.heap[i]? := fun i hi => heap_setCell_other _ _ _ _ hi
  refine ⟨⟨heap_setCell_same _ _ _ _ _ _ hrow, ⟨h.doc.len, h.doc.le, h.doc.max, h.doc.sm, fun i hi => ?_, ?_⟩, own_same h.ol fun i hi => ?_, ?_, h.kb, fun i hi => ?_, ?_, ?_⟩, ⟨hg.os.trans hb.os, hg.tape.trans hb.tape, hg.output.trans hb.output, ?_, fun i hi => ?_⟩⟩
  · rw [World.cell?_of_block (w := w) (a := ⟨b, o + i, none⟩) ((hset b hkb.2.1).trans (hsame b hkb.1 hkb.2.2.2))]; exact h.doc.at_ i hi
  · rw [World.size_setCell]; omega
  · have hil := h.ol.lt i hi
    have hne : cv.ownBlock ≠ some i := by
      rcases h.n2 with x | x | x
      · rw [x] at hi; cases hi
      · rw [x]; simp
      · rw [← hi]; exact fun e => x e.symm
    exact (hset i (fun e => h.n1.1 (e ▸ hi))).trans (hsame i hil.2 hne)
  · rw [List.length_append, intRow_append]
    exact own_same ho fun i hi => hset i (hv i hi)
  · obtain ⟨x1, x2, x3, x4⟩ := h.k1 i hi
    refine ⟨by rw [World.size_setCell]; omega, x2, x3, fun hx => ?_⟩
    rcases hw with hw | hw
    · rw [hw] at hx; exact x4 hx
    · rw [hw] at hx; injection hx with hx; omega
  · exact ⟨h.n1.1, fun hx => hv _ hx rfl⟩
  · rcases hw with hw | hw
    · rw [hw]; exact h.n2
    · rw [hw]
      cases hl : lv.ownBlock with
      | none => exact .inl rfl
      | some i => exact .inr (.inr (fun e => by injection e with e; have := (h.ol.lt i hl).2; omega))
  · rw [World.size_setCell]; omega
  · obtain ⟨x1, x2, x3, x4⟩ := h.k1 i hi
    exact (hset i x2).trans (hsame i x1 x4)
theorem RSt.known (h : RSt K w lk b o n cap D dp bud steps at_ e lv cv Ls Cs) (hb : Below w.heap.size w W) (t a k x : Int) (ho : w3.ownsRow 0 108 4 v' (Ls.length + 1) (knownRow Ls ++ [.int .i64 t, .int .i64 a, .int .i64 k, .int .i64 x])) (hg : W.grownBy w3 lv.ownBlock)
    (hw : v'.ownBlock = lv.ownBlock ∨ v'.ownBlock = some W.heap.size) :
    RSt K (w3.setCell ⟨lk, 4, none⟩ v') lk b o n cap D dp bud steps at_ e v' cv (Ls ++ [((t, a, k), x)]) Cs ∧ RKept K w (w3.setCell ⟨lk, 4, none⟩ v') := by
  have hs1 := hb.size
  have hs2 := hg.size
  have hsame : ∀ i, i < w.heap.size → lv.ownBlock ≠ some i → w3.heap[i]? = w.heap[i]? := fun i hi hn => (hg.block i (by omega) (fun e => hn e.symm)).trans (hb.block i hi)
  have hlk := h.lkt
  have hrow : w3.heap[lk]? = some (.cells (rkCells (.slice (some ⟨b, o, none⟩) n cap) dp bud steps lv cv at_ e) 71 (0, 0)) := (hsame lk hlk h.n1.1).trans h.row
  have hv : ∀ i, v'.ownBlock = some i → i ≠ lk := fun i hi e => by
    subst e
    rcases hw with hw | hw
    · rw [hw] at hi; exact h.n1.1 hi
    · rw [hw] at hi; injection hi with hi; omega
  have hkb := h.k1 b h.kb
  have hset : ∀ i, i ≠ lk → (w3.setCell ⟨lk, 4, none⟩ v').heap[i]? = w3.heap[i]? := fun i hi => heap_setCell_other _ _ _ _ hi
  refine ⟨⟨heap_setCell_same _ _ _ _ _ _ hrow, ⟨h.doc.len, h.doc.le, h.doc.max, h.doc.sm, fun i hi => ?_, ?_⟩, ?_, own_same h.oc fun i hi => ?_, h.kb, fun i hi => ?_, ?_, ?_⟩, ⟨hg.os.trans hb.os, hg.tape.trans hb.tape, hg.output.trans hb.output, ?_, fun i hi => ?_⟩⟩
  · rw [World.cell?_of_block (w := w) (a := ⟨b, o + i, none⟩) ((hset b hkb.2.1).trans (hsame b hkb.1 hkb.2.2.1))]; exact h.doc.at_ i hi
  · rw [World.size_setCell]; omega
  · rw [List.length_append, knownRow_append]
    exact own_same ho fun i hi => hset i (hv i hi)
  · have hil := h.oc.lt i hi
    have hne : lv.ownBlock ≠ some i := by
      rcases h.n2 with x | x | x
      · rw [x]; simp
      · rw [x] at hi; cases hi
      · rw [← hi]; exact x
    exact (hset i (fun e => h.n1.2 (e ▸ hi))).trans (hsame i hil.2 hne)
  · obtain ⟨x1, x2, x3, x4⟩ := h.k1 i hi
    refine ⟨by rw [World.size_setCell]; omega, x2, fun hx => ?_, x4⟩
    rcases hw with hw | hw
    · rw [hw] at hx; exact x3 hx
    · rw [hw] at hx; injection hx with hx; omega
  · exact ⟨fun hx => hv _ hx rfl, h.n1.2⟩
  · rcases hw with hw | hw
    · rw [hw]; exact h.n2
    · rw [hw]
      cases hl : cv.ownBlock with
      | none => exact .inr (.inl rfl)
      | some i => exact .inr (.inr (fun e => by injection e with e; have := (h.oc.lt i hl).2; omega))
  · rw [World.size_setCell]; omega
  · obtain ⟨x1, x2, x3, x4⟩ := h.k1 i hi
    exact (hset i x2).trans (hsame i x1 x3)
end
end Go.Proofs.Ytmpflnlajakibaa
