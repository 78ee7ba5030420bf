/- The walk of decode.walker's node. -/
import Derived.Test.YtmpflnlajakibaaCcd
namespace Go.Proofs.Ytmpflnlajakibaa
set_option linter.unusedVariables false
set_option linter.unusedSimpArgs false
set_option linter.unusedSectionVars false
open Go.RowKit
theorem tch_setY {B Y : Nat} {a W : World} (h : Tch B [Y] a W) (j : Nat) (v : Value) : Tch B [Y] a (W.setCell ⟨Y, j, none⟩ v) :=
  h.trans ⟨rfl, rfl, rfl, by rw [World.size_setCell]; exact Nat.le_refl _, fun i _ hn => heap_setCell_other _ _ _ _ (by simpa using hn)⟩
/-- The readers' results have a shape. -/
theorem vpost_shape {ty : TypeId} {kd0 : Int} {w : World} {lk b o n cap : Nat} {D : List UInt8} {dp : Int} {r : DR (DT × Int)} {en : Ending} {w' : World} (h : VPost ty kd0 w lk b o n cap D dp r en w') :
    ∃ kd nn u s A1 m1 c1 A2 m2 c2, en = .returned (.agg #[.int .i64 kd, .int .i64 nn, .int .u64 u, .string s, .slice A1 m1 c1, .slice A2 m2 c2]) ∧ Touch [lk] w w' ∧ VPost ty kd0 w lk b o n cap D dp r en w' := by
  have h0 := h
  rcases r with ⟨a, e⟩ | ⟨⟨kd, nn, u, s, ks, l⟩, f⟩
  · obtain ⟨kd, nn, u, s, A1, m1, c1, A2, m2, c2, f, he, -, hd, ht⟩ := h
    exact ⟨_, _, _, _, _, _, _, _, _, _, he, ht, h0⟩
  · obtain ⟨kv, lv, xs, bl, a', he, o1, o2, -, -, -, hd, ht⟩ := h
    rcases o1.2 with ⟨rfl, -⟩ | ⟨g1, x1, y1, rfl, -⟩ <;> rcases o2.2 with ⟨rfl, -⟩ | ⟨g2, x2, y2, rfl, -⟩ <;> exact ⟨_, _, _, _, _, _, _, _, _, _, he, ht, h0⟩
/-- Behind a reader: the kind is set, the node copied. -/
theorem npost_of {ty : TypeId} {w wz w1 W : World} {lk b o n cap Y : Nat} {D : List UInt8} {dp t : Int} {T : DR (DT × Int)} {kd nn u : Int} {s : ByteArray} {A1 A2 : Option Addr} {m1 c1 m2 c2 : Nat} (hK : ∀ kd' nn' u' s' ks' l' f', T = .ok (.mk kd' nn' u' s' ks' l', f') → kd' = kindD t)
    (h : VPost ty 0 wz lk b o n cap D dp T (.returned (.agg #[.int .i64 kd, .int .i64 nn, .int .u64 u, .string s, .slice A1 m1 c1, .slice A2 m2 c2])) w1) (hw : Touch [lk] w wz) (ht : Tch w1.heap.size [Y] w1 W) (hY : Y < wz.heap.size) (hYw : w.heap.size ≤ Y) (hl : lk < w.heap.size) (hb : b < w.heap.size) :
    NPost ty w lk b o n cap D dp T (.returned (.agg #[.int .i64 (kindD t), .int .i64 nn, .int .u64 u, .string s, .slice A1 m1 c1, .slice A2 m2 c2])) W := by
  obtain ⟨_, _, _, _, _, _, _, _, _, _, -, hz, -⟩ := vpost_shape h
  have hs := hz.size
  have hs2 := hw.size
  have hd : ∀ {f a e : Int}, DSt ty w1 lk b o n cap D dp f a e → DSt ty W lk b o n cap D dp f a e := fun h =>
    ⟨(ht.block _ (by omega) (by simp; omega)).trans h.row, ⟨h.doc.len, h.doc.le, h.doc.max, h.doc.sm, fun i hi => by
      rw [World.cell?_of_block (w := w1) (w' := W) (a := ⟨b, o + i, none⟩) (ht.block b (by omega) (by simp; omega))]; exact h.doc.at_ i hi, by have := ht.size; omega⟩, h.ne⟩
  have hT : Touch [lk] w W := by
    refine Tch.touch (((hw.trans hz).tch (Nat.le_refl _)).trans ⟨ht.os, ht.tape, ht.output, ht.size, fun i hi _ => ht.block i (by omega) (by simp; omega)⟩)
  rcases T with ⟨a, e⟩ | ⟨⟨kd', nn', u', s', ks, l⟩, f⟩
  · obtain ⟨_, _, _, _, _, _, _, _, _, _, f, -, he0, hd1, -⟩ := h
    exact ⟨_, _, _, _, _, _, _, _, _, _, f, rfl, he0, hd hd1, hT⟩
  · obtain ⟨kv, lv, xs, bl, a', he, o1, o2, o3, nd, ge, hd1, -⟩ := h
    obtain rfl := hK _ _ _ _ _ _ _ rfl
    injection he with he
    injection he with he
    simp only [Array.mk.injEq, List.cons.injEq, Value.int.injEq, Value.string.injEq, true_and, and_true] at he
    obtain ⟨rfl, rfl, rfl, rfl, rfl, rfl⟩ := he
    have hk : Kids w1 wz.heap.size ks l (.slice A1 m1 c1) (.slice A2 m2 c2) xs bl := ⟨o1, o2, o3, nd, ge⟩
    have hk2 := hk.same fun i hi => ht.block i (hk.lt i hi) (by have := ge i hi; simp; omega)
    exact ⟨_, _, xs, bl, a', rfl, hk2.k, hk2.r, hk2.n, nd, fun i hi => by have := ge i hi; omega, hd hd1, hT⟩
def HypVec (ty : TypeId) (vecF nodeF : Nat) (dec : DecF) (lk b o n cap : Nat) (D : List UInt8) (dp : Int) (p q t k : Int) (d : Int) : Prop :=
  ∀ W fu a0 a, DSt ty W lk b o n cap D dp fu a0 0 → 0 ≤ fu → 0 ≤ a → a ≤ 1073741824 → Calls Try.prog vecF #[.pointer (some ⟨lk, 0, none⟩), plcV p q t k a d] W (VPost ty 0 W lk b o n cap D dp (vecD dec D p q t k a d fu))
section
variable {w : World} {lk b o n cap : Nat} {D : List UInt8} {dp fu a0 : Int}
set_option maxHeartbeats 4000000 in
theorem dnode_a (h : DSt 76 w lk b o n cap D dp fu a0 0) (p q t k lim d : Int) (hfu0 : fu = 0) (hfu1 : True) :
    Calls Try.prog 33 #[.pointer (some ⟨lk, 0, none⟩), .agg #[.int .i64 p, .int .i64 q, .int .i64 t, .int .i64 k], .int .i64 lim, .int .i64 d] w (NPost 76 w lk b o n cap D dp (.error (p, 260))) := by
  have hlow := h.low
  have hD := h.doc
  obtain ⟨hn1, hn2⟩ := hD.bd
  have hbw := hlow.b
  have hlw := hlow.l
  have Hfu0 := Lib.hid hfu0
  have Hfu1 := Lib.hid hfu1
  clear hfu0 hfu1
  go_enter Try.func33, Try.ntmps33
  go_upto_region 1 with fail
  refine wp_named (fun wn => Touch [lk] w wn ∧ DSt 76 wn lk b o n cap D dp fu a0 0 ∧ w.heap.size + 1 < wn.heap.size ∧ wn.heap.size = w.heap.size + 2 ∧ wn.heap[w.heap.size]? = some (.cells #[.int .i64 p, .int .i64 q, .int .i64 t, .int .i64 k] 39 (0, 0)) ∧ wn.heap[w.heap.size + 1]? = some (.cells (nodeCells 0 0 0 [] (.slice none 0 0) (.slice none 0 0)) 44 (0, 0))) ⟨Touch.quiet zw, h.keep hlow zw (Nat.le_refl _), by simp, by simp, heap_made_1 _ _ _, heap_made_2 _ _ _⟩ ?_
  rintro wn ⟨htn, hKn, hY, hsz, hXb, hYb⟩
  have hX : w.heap.size < wn.heap.size := by omega
  have hnX : w.heap.size ∉ [lk] := by simp; omega
  have hnY : w.heap.size + 1 ∉ [lk] := by simp; omega
  have gln : lk < wn.heap.size := hKn.lkt
  have z0 : wn.cell? ⟨w.heap.size, 0, none⟩ = some (.int .i64 p) := cell_of_row _ _ _ _ _ _ hXb
  have q1 := hKn.c1
  have q2 := hKn.c2
  have hfu0 := Hfu0.out
  have hfu1 := Hfu1.out
  clear Hfu0 Hfu1
  subst hfu0
  go_wp2_with fail
  refine (dtell_no hKn p 260 (by decide)).mono ?_
  rintro e w1 ⟨rfl, hv1, ht1⟩
  have hYz := (ht1.block _ hY hnY).trans hYb
  have hfz := fun (j : Nat) => frozen_of_row _ _ j _ _ hYz
  have n0 : w1.cell? ⟨w.heap.size + 1, 0, none⟩ = some (.int .i64 0) := cell_of_row _ _ _ _ _ _ hYz
  have n1 : w1.cell? ⟨w.heap.size + 1, 1, none⟩ = some (.int .i64 0) := cell_of_row _ _ _ _ _ _ hYz
  have n2 : w1.cell? ⟨w.heap.size + 1, 2, none⟩ = some (.int .u64 0) := cell_of_row _ _ _ _ _ _ hYz
  have n3 : w1.cell? ⟨w.heap.size + 1, 3, none⟩ = some (.string ⟨#[]⟩) := cell_of_row _ _ _ _ _ _ hYz
  have n4 : w1.cell? ⟨w.heap.size + 1, 4, none⟩ = some (.slice none 0 0) := cell_of_row _ _ _ _ _ _ hYz
  have n5 : w1.cell? ⟨w.heap.size + 1, 5, none⟩ = some (.slice none 0 0) := cell_of_row _ _ _ _ _ _ hYz
  have hY1 := Nat.lt_of_lt_of_le hY ht1.size
  go_wp2
  refine bodyPost_ret (v := .agg #[.int .i64 0, .int .i64 0, .int .u64 0, .string ⟨#[]⟩, .slice none 0 0, .slice none 0 0]) (by simp [results, Try.results33, go_sem, *]) rfl ?_
  exact ⟨0, 0, 0, ⟨#[]⟩, none, 0, 0, none, 0, 0, _, rfl, by decide, hv1.keep (B := w.heap.size + 1) (hlow.mono (by omega)) zw (by omega), Tch.touch (Tch.trans ((htn.trans ht1).tch (Nat.le_refl _)) (by (repeat' first | (with_reducible first | exact Tch.refl _ _ _ | assumption | refine Tch.alloc ?_ ?_ _ | refine Tch.drew ?_ | refine Tch.drewN ?_ _ | refine Tch.setCell ?_ ?_ _ | refine Tch.setBlock ?_ (by simp) _ | refine tch_call (by assumption) ?_ ?_ | refine tch_below (by assumption) ?_ ?_ | exact zb6 _) | omega | (simp only [zsz, size_setBlock]; omega) | (simp; omega))))⟩
set_option maxHeartbeats 4000000 in
theorem dnode_b (h : DSt 76 w lk b o n cap D dp fu a0 0) (p q t k lim d : Int) (hfu0 : fu ≠ 0) (hfu1 : dp < d) :
    Calls Try.prog 33 #[.pointer (some ⟨lk, 0, none⟩), .agg #[.int .i64 p, .int .i64 q, .int .i64 t, .int .i64 k], .int .i64 lim, .int .i64 d] w (NPost 76 w lk b o n cap D dp (.error (p, 61))) := by
  have hlow := h.low
  have hD := h.doc
  obtain ⟨hn1, hn2⟩ := hD.bd
  have hbw := hlow.b
  have hlw := hlow.l
  have Hfu0 := Lib.hid hfu0
  have Hfu1 := Lib.hid hfu1
  clear hfu0 hfu1
  go_enter Try.func33, Try.ntmps33
  go_upto_region 1 with fail
  refine wp_named (fun wn => Touch [lk] w wn ∧ DSt 76 wn lk b o n cap D dp fu a0 0 ∧ w.heap.size + 1 < wn.heap.size ∧ wn.heap.size = w.heap.size + 2 ∧ wn.heap[w.heap.size]? = some (.cells #[.int .i64 p, .int .i64 q, .int .i64 t, .int .i64 k] 39 (0, 0)) ∧ wn.heap[w.heap.size + 1]? = some (.cells (nodeCells 0 0 0 [] (.slice none 0 0) (.slice none 0 0)) 44 (0, 0))) ⟨Touch.quiet zw, h.keep hlow zw (Nat.le_refl _), by simp, by simp, heap_made_1 _ _ _, heap_made_2 _ _ _⟩ ?_
  rintro wn ⟨htn, hKn, hY, hsz, hXb, hYb⟩
  have hX : w.heap.size < wn.heap.size := by omega
  have hnX : w.heap.size ∉ [lk] := by simp; omega
  have hnY : w.heap.size + 1 ∉ [lk] := by simp; omega
  have gln : lk < wn.heap.size := hKn.lkt
  have z0 : wn.cell? ⟨w.heap.size, 0, none⟩ = some (.int .i64 p) := cell_of_row _ _ _ _ _ _ hXb
  have q1 := hKn.c1
  have q2 := hKn.c2
  have hfu0 := Hfu0.out
  have hfu1 := Hfu1.out
  clear Hfu0 Hfu1
  have hfe : (fu == 0) = false := by simpa using hfu0
  clear hfu0
  go_wp2_with fail
  refine (dtell_no hKn p 61 (by decide)).mono ?_
  rintro e w1 ⟨rfl, hv1, ht1⟩
  have hYz := (ht1.block _ hY hnY).trans hYb
  have hfz := fun (j : Nat) => frozen_of_row _ _ j _ _ hYz
  have n0 : w1.cell? ⟨w.heap.size + 1, 0, none⟩ = some (.int .i64 0) := cell_of_row _ _ _ _ _ _ hYz
  have n1 : w1.cell? ⟨w.heap.size + 1, 1, none⟩ = some (.int .i64 0) := cell_of_row _ _ _ _ _ _ hYz
  have n2 : w1.cell? ⟨w.heap.size + 1, 2, none⟩ = some (.int .u64 0) := cell_of_row _ _ _ _ _ _ hYz
  have n3 : w1.cell? ⟨w.heap.size + 1, 3, none⟩ = some (.string ⟨#[]⟩) := cell_of_row _ _ _ _ _ _ hYz
  have n4 : w1.cell? ⟨w.heap.size + 1, 4, none⟩ = some (.slice none 0 0) := cell_of_row _ _ _ _ _ _ hYz
  have n5 : w1.cell? ⟨w.heap.size + 1, 5, none⟩ = some (.slice none 0 0) := cell_of_row _ _ _ _ _ _ hYz
  have hY1 := Nat.lt_of_lt_of_le hY ht1.size
  go_wp2
  refine bodyPost_ret (v := .agg #[.int .i64 0, .int .i64 0, .int .u64 0, .string ⟨#[]⟩, .slice none 0 0, .slice none 0 0]) (by simp [results, Try.results33, go_sem, *]) rfl ?_
  exact ⟨0, 0, 0, ⟨#[]⟩, none, 0, 0, none, 0, 0, _, rfl, by decide, hv1.keep (B := w.heap.size + 1) (hlow.mono (by omega)) zw (by omega), Tch.touch (Tch.trans ((htn.trans ht1).tch (Nat.le_refl _)) (by (repeat' first | (with_reducible first | exact Tch.refl _ _ _ | assumption | refine Tch.alloc ?_ ?_ _ | refine Tch.drew ?_ | refine Tch.drewN ?_ _ | refine Tch.setCell ?_ ?_ _ | refine Tch.setBlock ?_ (by simp) _ | refine tch_call (by assumption) ?_ ?_ | refine tch_below (by assumption) ?_ ?_ | exact zb6 _) | omega | (simp only [zsz, size_setBlock]; omega) | (simp; omega))))⟩
set_option maxHeartbeats 8000000 in
set_option maxRecDepth 100000 in
theorem dnode_c (h : DSt 76 w lk b o n cap D dp fu a0 0) (p q t k lim d : Int) (hfu0 : 1 ≤ fu) (hfu1 : fu ≤ 1073741824) (hfd : ¬ dp < d) (hm : mayE n p q t k = 0) (hin : inlineB t = false) (htb : ¬ tgtB D p q t k lim = true) :
    Calls Try.prog 33 #[.pointer (some ⟨lk, 0, none⟩), .agg #[.int .i64 p, .int .i64 q, .int .i64 t, .int .i64 k], .int .i64 lim, .int .i64 d] w (NPost 76 w lk b o n cap D dp (.error (p, 211))) := by
  obtain ⟨m1, m2, m3, m4, m5, m6, m7, m8, m9⟩ := mayE_zero hm
  have HTB := Lib.hid htb
  have HIN := Lib.hid hin
  clear htb hin m1 m3
  have hlow := h.low
  have hD := h.doc
  obtain ⟨hn1, hn2⟩ := hD.bd
  have hbw := hlow.b
  have hlw := hlow.l
  have Hfu0 := Lib.hid hfu0
  have Hfu1 := Lib.hid hfu1
  clear hfu0 hfu1
  go_enter Try.func33, Try.ntmps33
  go_upto_region 1 with fail
  refine wp_named (fun wn => Touch [lk] w wn ∧ DSt 76 wn lk b o n cap D dp fu a0 0 ∧ w.heap.size + 1 < wn.heap.size ∧ wn.heap.size = w.heap.size + 2 ∧ wn.heap[w.heap.size]? = some (.cells #[.int .i64 p, .int .i64 q, .int .i64 t, .int .i64 k] 39 (0, 0)) ∧ wn.heap[w.heap.size + 1]? = some (.cells (nodeCells 0 0 0 [] (.slice none 0 0) (.slice none 0 0)) 44 (0, 0))) ⟨Touch.quiet zw, h.keep hlow zw (Nat.le_refl _), by simp, by simp, heap_made_1 _ _ _, heap_made_2 _ _ _⟩ ?_
  rintro wn ⟨htn, hKn, hY, hsz, hXb, hYb⟩
  have hX : w.heap.size < wn.heap.size := by omega
  have hnX : w.heap.size ∉ [lk] := by simp; omega
  have hnY : w.heap.size + 1 ∉ [lk] := by simp; omega
  have gln : lk < wn.heap.size := hKn.lkt
  have z0 : wn.cell? ⟨w.heap.size, 0, none⟩ = some (.int .i64 p) := cell_of_row _ _ _ _ _ _ hXb
  have q1 := hKn.c1
  have q2 := hKn.c2
  have hfu0 := Hfu0.out
  have hfu1 := Hfu1.out
  clear Hfu0 Hfu1
  have hin := HIN.out
  have hfe : (fu == 0) = false := by simp; omega
  have hwf : IntKind.i64.wrap (fu - 1) = fu - 1 := IntWalk.i64_in _ (by omega)
  have z1 : wn.cell? ⟨w.heap.size, 1, none⟩ = some (.int .i64 q) := cell_of_row _ _ _ _ _ _ hXb
  have z2 : wn.cell? ⟨w.heap.size, 2, none⟩ = some (.int .i64 t) := cell_of_row _ _ _ _ _ _ hXb
  have z3 : wn.cell? ⟨w.heap.size, 3, none⟩ = some (.int .i64 k) := cell_of_row _ _ _ _ _ _ hXb
  have f2 := hKn.fz 2

  go_upto_region 9 with fail
  have hset := (Touch.setCell wn lk 2 (.int .i64 (fu - 1)))
  have hKs : DSt 76 (wn.setCell ⟨lk, 2, none⟩ (.int .i64 (fu - 1))) lk b o n cap D dp (fu - 1) a0 0 := hKn.told hset (heap_setCell_same _ _ _ _ _ _ hKn.row)
  have hzr : ((wn.setCell ⟨lk, 2, none⟩ (.int .i64 (fu - 1))).alloc (.cells (plcCells p q t k p d) 112)).heap[w.heap.size + 2]? = some (.cells (plcCells p q t k p d) 112 (0, 0)) := by
    have := heap_alloc_new (wn.setCell ⟨lk, 2, none⟩ (.int .i64 (fu - 1))) (.cells (plcCells p q t k p d) 112)
    rwa [World.size_setCell, hsz] at this
  refine wp_named (fun wx => DSt 76 wx lk b o n cap D dp (fu - 1) a0 0 ∧ Touch [lk] wn wx ∧ w.heap.size + 2 < wx.heap.size ∧ wx.heap[w.heap.size + 2]? = some (.cells (plcCells p q t k p d) 112 (0, 0))) ⟨hKs.keep hKs.low zw (Nat.le_refl _), hset.trans (Touch.quiet zw), by simp [hsz], hzr⟩ ?_
  clear hset hKs hzr z0 z1 z2 z3 q1 q2 f2
  rintro wx ⟨hKx, htx, hZ, hZb⟩
  have hXx := (htx.block _ hX hnX).trans hXb
  have hYx := (htx.block _ hY hnY).trans hYb
  have z2 : wx.cell? ⟨w.heap.size, 2, none⟩ = some (.int .i64 t) := cell_of_row _ _ _ _ _ _ hXx
  have q4 := hKx.c4
  have glx : lk < wx.heap.size := hKx.lkt
  have htw := htn.trans htx
  have hnZ : w.heap.size + 2 ∉ [lk] := by simp; omega
  have gX : w.heap.size < wx.heap.size := by omega
  have hHI := fun W => Lib.hid (inline_any t W)
  rw [hin] at hHI
  clear htn htx hKn hXb hYb hX hY gln
  clear hin
  have z0 : wx.cell? ⟨w.heap.size, 0, none⟩ = some (.int .i64 p) := cell_of_row _ _ _ _ _ _ hXx
  have z1 : wx.cell? ⟨w.heap.size, 1, none⟩ = some (.int .i64 q) := cell_of_row _ _ _ _ _ _ hXx
  have z3 : wx.cell? ⟨w.heap.size, 3, none⟩ = some (.int .i64 k) := cell_of_row _ _ _ _ _ _ hXx
  go_upto_region 10 with (go_at_call 46; refine ((hHI _).out).mono ?_; rintro e w1 ⟨rfl, hb1⟩; obtain ⟨hc1, hf1, hl1⟩ := bcell hb1; (try simp only [zdz] at hc1 hf1 hl1); have hz1 := hb1.size; (try simp only [zsz] at hz1); (try have g0 : w.heap.size < w1.heap.size := by omega); (try have g1 : w.heap.size + 1 < w1.heap.size := by omega); (try have gl : lk < w1.heap.size := by omega))
  refine wp_named (fun wy => DSt 76 wy lk b o n cap D dp (fu - 1) a0 0 ∧ Touch [lk] wx wy) ⟨hKx.keep hKx.low zw (Nat.le_refl _), Touch.quiet zw⟩ ?_
  clear hb1 hc1 hf1 hl1 hz1 gl z0 z1 z2 z3 q4
  rintro wy ⟨hKy, hty⟩
  have hXy := (hty.block _ gX hnX).trans hXx
  have hYy := (hty.block _ (by omega) hnY).trans hYx
  have hZy := (hty.block _ hZ hnZ).trans hZb
  have hZs := Nat.lt_of_lt_of_le hZ hty.size
  have z0 : wy.cell? ⟨w.heap.size, 0, none⟩ = some (.int .i64 p) := cell_of_row _ _ _ _ _ _ hXy
  have z1 : wy.cell? ⟨w.heap.size, 1, none⟩ = some (.int .i64 q) := cell_of_row _ _ _ _ _ _ hXy
  have z2 : wy.cell? ⟨w.heap.size, 2, none⟩ = some (.int .i64 t) := cell_of_row _ _ _ _ _ _ hXy
  have z3 : wy.cell? ⟨w.heap.size, 3, none⟩ = some (.int .i64 k) := cell_of_row _ _ _ _ _ _ hXy
  have htw := htw.trans hty
  clear hty hXx hYx hZb hKx hZ
  go_wp2_with fail
  refine (dtarget hKy p q t k lim m2 m4 m9 (by omega) (by omega)).mono ?_
  rintro e w1 ⟨rfl, hv1, ht1⟩
  have hX1 := (ht1.block _ (by omega) hnX).trans hXy
  have hY1 := (ht1.block _ (by omega) hnY).trans hYy
  have hZ1 := (ht1.block _ hZs hnZ).trans hZy
  have hZs1 := Nat.lt_of_lt_of_le hZs ht1.size
  have f4 := frozen_of_row _ _ 4 _ _ hZ1
  have n4 : w1.cell? ⟨w.heap.size + 2, 4, none⟩ = some (.int .i64 p) := cell_of_row _ _ _ _ _ _ hZ1
  have htw := htw.trans ht1
  clear z0 z1 z2 z3 hXy hYy hZy hKy ht1
  have htb := HTB.out
  rw [show tgtE D p q t k lim 0 = 211 by simp [tgtE, htb, tellE], show tgtA D p q t k lim 0 a0 = p by simp [tgtA, htb, tellA]] at hv1
  clear htb
  have q4 := hv1.c4
  have gY1 : w.heap.size + 1 < w1.heap.size := by omega
  have hfz := fun (j : Nat) => frozen_of_row _ _ j _ _ hY1
  have n0 : w1.cell? ⟨w.heap.size + 1, 0, none⟩ = some (.int .i64 0) := cell_of_row _ _ _ _ _ _ hY1
  have n1 : w1.cell? ⟨w.heap.size + 1, 1, none⟩ = some (.int .i64 0) := cell_of_row _ _ _ _ _ _ hY1
  have n2 : w1.cell? ⟨w.heap.size + 1, 2, none⟩ = some (.int .u64 0) := cell_of_row _ _ _ _ _ _ hY1
  have n3 : w1.cell? ⟨w.heap.size + 1, 3, none⟩ = some (.string ⟨#[]⟩) := cell_of_row _ _ _ _ _ _ hY1
  have n5 : w1.cell? ⟨w.heap.size + 1, 4, none⟩ = some (.slice none 0 0) := cell_of_row _ _ _ _ _ _ hY1
  have n6 : w1.cell? ⟨w.heap.size + 1, 5, none⟩ = some (.slice none 0 0) := cell_of_row _ _ _ _ _ _ hY1
  have hBy : Tch w.heap.size [lk] w w1 := htw.tch (Nat.le_refl _)
  clear hX1 hY1 hZ1 htw
  go_wp2
  refine bodyPost_ret (v := .agg #[.int .i64 0, .int .i64 0, .int .u64 0, .string ⟨#[]⟩, .slice none 0 0, .slice none 0 0]) (by simp [results, Try.results33, go_sem, *]) rfl ?_
  exact ⟨0, 0, 0, ⟨#[]⟩, none, 0, 0, none, 0, 0, _, rfl, by decide, hv1.keep (B := w.heap.size + 1) (hlow.mono (by omega)) zw (by omega), Tch.touch (by (repeat' first | (with_reducible first | exact Tch.refl _ _ _ | assumption | refine Tch.alloc ?_ ?_ _ | refine Tch.drew ?_ | refine Tch.drewN ?_ _ | refine Tch.setCell ?_ ?_ _ | refine Tch.setBlock ?_ (by simp) _ | refine tch_call (by assumption) ?_ ?_ | refine tch_below (by assumption) ?_ ?_ | exact zb6 _) | omega | (simp only [zsz, size_setBlock]; omega) | (simp; omega)))⟩
end
end Go.Proofs.Ytmpflnlajakibaa
