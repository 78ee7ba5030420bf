/- The walk of the reference's Node: the failing ways. -/
import Derived.Test.YtmpflnlajakibaaGreatCh
import Derived.Test.YtmpflnlajakibaaGreatCno
namespace Go.Proofs.YtmpflnlajakibaaGreat
set_option linter.unusedVariables false
set_option linter.unusedSimpArgs false
set_option linter.unusedSectionVars false
open Go.RowKit
theorem tch_six {B Y : Nat} {T : List Nat} {a W : World} {v0 v1 v2 v3 v4 v5 : Value} (h : Tch B T a W) (hY : B ≤ Y) : Tch B T a ((((((W.setCell ⟨Y, 0, none⟩ v0).setCell ⟨Y, 1, none⟩ v1).setCell ⟨Y, 2, none⟩ v2).setCell ⟨Y, 3, none⟩ v3).setCell ⟨Y, 4, none⟩ v4).setCell ⟨Y, 5, none⟩ v5) :=
  (((((h.setCell hY _).setCell hY _).setCell hY _).setCell hY _).setCell hY _).setCell hY _
section
variable {w : World} {lk b o n cap : Nat} {D : List UInt8} {dp fu a0 : Int}
set_option maxHeartbeats 8000000 in
set_option maxRecDepth 100000 in
theorem rnode_a (h : DSt 49 w lk b o n cap D dp fu a0 0) (p q t k lim d : Int) (hfu0 : fu = 0) (hfu1 : True) :
    Calls Tryz.prog 17 #[.pointer (some ⟨lk, 0, none⟩), .agg #[.int .i64 p, .int .i64 q, .int .i64 t, .int .i64 k], .int .i64 lim, .int .i64 d] w (NPost 49 w lk b o n cap D dp (.error (p, 260))) := by
  have hlow := h.low
  have hD := h.doc
  obtain ⟨hn1, hn2⟩ := hD.bd
  have hbw := hlow.b
  have hlw := hlow.l
  have Hfu0 := Lib.hid hfu0
  have Hfu1 := Lib.hid hfu1
  clear hfu0 hfu1
  go_enter Tryz.func17, Tryz.ntmps17
  go_upto_region 1 with fail
  refine wp_named (fun wn => Touch [lk] w wn ∧ DSt 49 wn lk b o n cap D dp fu a0 0 ∧ wn.heap.size = w.heap.size + 2 ∧ wn.heap[w.heap.size]? = some (.cells #[.int .i64 p, .int .i64 q, .int .i64 t, .int .i64 k] 24 (0, 0)) ∧ wn.heap[w.heap.size + 1]? = some (.cells #[.int .i64 0, .int .i64 0, .int .u64 0, .string ⟨#[]⟩, .slice none 0 0, .slice none 0 0] 31 (0, 0))) ⟨Touch.quiet zw, h.keep hlow zw (Nat.le_refl _), by simp, heap_made_1 _ _ _, heap_made_2 _ _ _⟩ ?_
  rintro wn ⟨htn, hKn, hsz, hXb, hYb⟩
  have hX : w.heap.size < wn.heap.size := by omega
  have hY : w.heap.size + 1 < wn.heap.size := by omega
  have hnX : w.heap.size ∉ [lk] := by simp; omega
  have hnY : w.heap.size + 1 ∉ [lk] := by simp; omega
  have gln : lk < wn.heap.size := hKn.lkt
  have z0 : wn.cell? ⟨w.heap.size, 0, none⟩ = some (.int .i64 p) := cell_of_row _ _ _ _ _ _ hXb
  have q1 := hKn.c1
  have q2 := hKn.c2
  have q4 := hKn.c4
  have hfu0 := Hfu0.out
  have hfu1 := Hfu1.out
  clear Hfu0 Hfu1
  subst hfu0
  go_wp2_with fail
  refine (rdtell0 hKn p 260).mono ?_
  rintro e w1 ⟨rfl, hv1, ht1⟩
  have hX1 := touch_row ht1 hXb hnX
  have hY1 := touch_row ht1 hYb hnY
  have x0 : w1.cell? ⟨w.heap.size, 0, none⟩ = some (.int .i64 p) := cell_of_row _ _ _ _ _ _ hX1
  have r1 := hv1.c1
  have r2 := hv1.c2
  have r4 := hv1.c4
  have f2 := hv1.fz 2
  have gX1 := (Array.getElem?_eq_some_iff.1 hX1).1
  have gY1 := (Array.getElem?_eq_some_iff.1 hY1).1
  have hset := Touch.setCell w1 lk 2 (.int .i64 (-1))
  have hK2 : DSt 49 (w1.setCell ⟨lk, 2, none⟩ (.int .i64 (-1))) lk b o n cap D dp (-1) p 260 := hv1.told hset (heap_setCell_same _ _ _ _ _ _ hv1.row)
  have hY2 := touch_row hset hY1 hnY
  have htw := htn.trans (ht1.trans hset)
  have hlY : lk ≠ w.heap.size + 1 := by omega
  go_upto_region 4 with fail
  refine wp_named (fun wx => DSt 49 wx lk b o n cap D dp (-1) p 260 ∧ Touch [lk] w wx ∧ wx.heap[w.heap.size]? = some (.cells #[.int .i64 p, .int .i64 q, .int .i64 t, .int .i64 k] 24 (0, 0)) ∧ wx.heap[w.heap.size + 1]? = some (.cells #[.int .i64 0, .int .i64 0, .int .u64 0, .string ⟨#[]⟩, .slice none 0 0, .slice none 0 0] 31 (0, 0))) ⟨hK2, htw, touch_row hset hX1 hnX, hY2⟩ ?_
  clear hKn htn hXb hYb hX hY gln z0 q1 q2 q4 hv1 ht1 hX1 hY1 x0 r1 r2 r4 f2 gX1 gY1 hset hK2 hY2 htw
  rintro wx ⟨hKx, htx, hXx, hYx⟩
  have x0 : wx.cell? ⟨w.heap.size, 0, none⟩ = some (.int .i64 p) := cell_of_row _ _ _ _ _ _ hXx
  have r1 := hKx.c1
  have r4 := hKx.c4
  by_cases hdp : dp < d
  · go_wp2_with fail
    refine (rdtell hKx p 61).mono ?_
    rintro e w1 ⟨rfl, hv1, ht1⟩
    have hv1 : DSt 49 w1 lk b o n cap D dp (-1) p 260 := hv1
    have hYz := touch_row ht1 hYx hnY
    have r4 := hv1.c4
    have n0 : w1.cell? ⟨w.heap.size + 1, 0, none⟩ = some (.int .i64 0) := cell_of_row _ _ _ _ _ _ hYz
    have n1 : w1.cell? ⟨w.heap.size + 1, 1, none⟩ = some (.int .i64 0) := cell_of_row _ _ _ _ _ _ hYz
    have n2 : w1.cell? ⟨w.heap.size + 1, 2, none⟩ = some (.int .u64 0) := cell_of_row _ _ _ _ _ _ hYz
    have n3 : w1.cell? ⟨w.heap.size + 1, 3, none⟩ = some (.string ⟨#[]⟩) := cell_of_row _ _ _ _ _ _ hYz
    have n4 : w1.cell? ⟨w.heap.size + 1, 4, none⟩ = some (.slice none 0 0) := cell_of_row _ _ _ _ _ _ hYz
    have n5 : w1.cell? ⟨w.heap.size + 1, 5, none⟩ = some (.slice none 0 0) := cell_of_row _ _ _ _ _ _ hYz
    have hfz := fun (j : Nat) => frozen_of_row _ _ j _ _ hYz
    clear hYz hYx hXx x0 r1
    go_wp2_with fail
    refine bodyPost_ret (v := .agg #[.int .i64 0, .int .i64 0, .int .u64 0, .string ⟨#[]⟩, .slice none 0 0, .slice none 0 0]) (by simp [results, Tryz.results17, go_sem, *]) rfl ?_
    exact ⟨0, 0, 0, ⟨#[]⟩, none, 0, 0, none, 0, 0, _, rfl, by decide, hv1.still (touch6 _ _ _ _ _ _) (by simp; omega) (by simp; omega), Tch.touch (tch_six ((htx.trans ht1).tch (Nat.le_refl _)) (by omega))⟩
  · have n0 : wx.cell? ⟨w.heap.size + 1, 0, none⟩ = some (.int .i64 0) := cell_of_row _ _ _ _ _ _ hYx
    have n1 : wx.cell? ⟨w.heap.size + 1, 1, none⟩ = some (.int .i64 0) := cell_of_row _ _ _ _ _ _ hYx
    have n2 : wx.cell? ⟨w.heap.size + 1, 2, none⟩ = some (.int .u64 0) := cell_of_row _ _ _ _ _ _ hYx
    have n3 : wx.cell? ⟨w.heap.size + 1, 3, none⟩ = some (.string ⟨#[]⟩) := cell_of_row _ _ _ _ _ _ hYx
    have n4 : wx.cell? ⟨w.heap.size + 1, 4, none⟩ = some (.slice none 0 0) := cell_of_row _ _ _ _ _ _ hYx
    have n5 : wx.cell? ⟨w.heap.size + 1, 5, none⟩ = some (.slice none 0 0) := cell_of_row _ _ _ _ _ _ hYx
    have hfz := fun (j : Nat) => frozen_of_row _ _ j _ _ hYx
    clear hYx hXx x0
    go_wp2_with fail
    refine bodyPost_ret (v := .agg #[.int .i64 0, .int .i64 0, .int .u64 0, .string ⟨#[]⟩, .slice none 0 0, .slice none 0 0]) (by simp [results, Tryz.results17, go_sem, *]) rfl ?_
    exact ⟨0, 0, 0, ⟨#[]⟩, none, 0, 0, none, 0, 0, _, rfl, by decide, hKx.still (touch6 _ _ _ _ _ _) (by simp; omega) (by simp; omega), Tch.touch (tch_six (htx.tch (Nat.le_refl _)) (by omega))⟩
set_option maxHeartbeats 8000000 in
set_option maxRecDepth 100000 in
theorem rnode_b (h : DSt 49 w lk b o n cap D dp fu a0 0) (p q t k lim d : Int) (hfu0 : 1 ≤ fu ∧ fu ≤ 1073741824) (hfu1 : dp < d) :
    Calls Tryz.prog 17 #[.pointer (some ⟨lk, 0, none⟩), .agg #[.int .i64 p, .int .i64 q, .int .i64 t, .int .i64 k], .int .i64 lim, .int .i64 d] w (NPost 49 w lk b o n cap D dp (.error (p, 61))) := by
  have hlow := h.low
  have hD := h.doc
  obtain ⟨hn1, hn2⟩ := hD.bd
  have hbw := hlow.b
  have hlw := hlow.l
  have Hfu0 := Lib.hid hfu0
  have Hfu1 := Lib.hid hfu1
  clear hfu0 hfu1
  go_enter Tryz.func17, Tryz.ntmps17
  go_upto_region 1 with fail
  refine wp_named (fun wn => Touch [lk] w wn ∧ DSt 49 wn lk b o n cap D dp fu a0 0 ∧ wn.heap.size = w.heap.size + 2 ∧ wn.heap[w.heap.size]? = some (.cells #[.int .i64 p, .int .i64 q, .int .i64 t, .int .i64 k] 24 (0, 0)) ∧ wn.heap[w.heap.size + 1]? = some (.cells #[.int .i64 0, .int .i64 0, .int .u64 0, .string ⟨#[]⟩, .slice none 0 0, .slice none 0 0] 31 (0, 0))) ⟨Touch.quiet zw, h.keep hlow zw (Nat.le_refl _), by simp, heap_made_1 _ _ _, heap_made_2 _ _ _⟩ ?_
  rintro wn ⟨htn, hKn, hsz, hXb, hYb⟩
  have hX : w.heap.size < wn.heap.size := by omega
  have hY : w.heap.size + 1 < wn.heap.size := by omega
  have hnX : w.heap.size ∉ [lk] := by simp; omega
  have hnY : w.heap.size + 1 ∉ [lk] := by simp; omega
  have gln : lk < wn.heap.size := hKn.lkt
  have z0 : wn.cell? ⟨w.heap.size, 0, none⟩ = some (.int .i64 p) := cell_of_row _ _ _ _ _ _ hXb
  have q1 := hKn.c1
  have q2 := hKn.c2
  have q4 := hKn.c4
  have hfu0 := Hfu0.out
  have hfu1 := Hfu1.out
  clear Hfu0 Hfu1
  have hfl : ¬ fu < 1 := by omega
  have hwf : IntKind.i64.wrap (fu - 1) = fu - 1 := IntWalk.i64_in _ (by omega)
  have f2 := hKn.fz 2
  have hset := Touch.setCell wn lk 2 (.int .i64 (fu - 1))
  have hK2 : DSt 49 (wn.setCell ⟨lk, 2, none⟩ (.int .i64 (fu - 1))) lk b o n cap D dp (fu - 1) a0 0 := hKn.told hset (heap_setCell_same _ _ _ _ _ _ hKn.row)
  go_upto_region 4 with fail
  refine wp_named (fun wx => DSt 49 wx lk b o n cap D dp (fu - 1) a0 0 ∧ Touch [lk] w wx ∧ wx.heap[w.heap.size]? = some (.cells #[.int .i64 p, .int .i64 q, .int .i64 t, .int .i64 k] 24 (0, 0)) ∧ wx.heap[w.heap.size + 1]? = some (.cells #[.int .i64 0, .int .i64 0, .int .u64 0, .string ⟨#[]⟩, .slice none 0 0, .slice none 0 0] 31 (0, 0))) ⟨hK2, htn.trans hset, touch_row hset hXb hnX, touch_row hset hYb hnY⟩ ?_
  clear hKn htn hXb hYb hX hY gln z0 q1 q2 q4 f2 hset hK2
  rintro wx ⟨hKx, htx, hXx, hYx⟩
  have x0 : wx.cell? ⟨w.heap.size, 0, none⟩ = some (.int .i64 p) := cell_of_row _ _ _ _ _ _ hXx
  have r1 := hKx.c1
  have r4 := hKx.c4
  go_wp2_with fail
  refine (rdtell0 hKx p 61).mono ?_
  rintro e w1 ⟨rfl, hv1, ht1⟩
  have hYz := touch_row ht1 hYx hnY
  have r4 := hv1.c4
  have n0 : w1.cell? ⟨w.heap.size + 1, 0, none⟩ = some (.int .i64 0) := cell_of_row _ _ _ _ _ _ hYz
  have n1 : w1.cell? ⟨w.heap.size + 1, 1, none⟩ = some (.int .i64 0) := cell_of_row _ _ _ _ _ _ hYz
  have n2 : w1.cell? ⟨w.heap.size + 1, 2, none⟩ = some (.int .u64 0) := cell_of_row _ _ _ _ _ _ hYz
  have n3 : w1.cell? ⟨w.heap.size + 1, 3, none⟩ = some (.string ⟨#[]⟩) := cell_of_row _ _ _ _ _ _ hYz
  have n4 : w1.cell? ⟨w.heap.size + 1, 4, none⟩ = some (.slice none 0 0) := cell_of_row _ _ _ _ _ _ hYz
  have n5 : w1.cell? ⟨w.heap.size + 1, 5, none⟩ = some (.slice none 0 0) := cell_of_row _ _ _ _ _ _ hYz
  have hfz := fun (j : Nat) => frozen_of_row _ _ j _ _ hYz
  clear hYz hYx hXx x0 r1
  go_wp2_with fail
  refine bodyPost_ret (v := .agg #[.int .i64 0, .int .i64 0, .int .u64 0, .string ⟨#[]⟩, .slice none 0 0, .slice none 0 0]) (by simp [results, Tryz.results17, go_sem, *]) rfl ?_
  exact ⟨0, 0, 0, ⟨#[]⟩, none, 0, 0, none, 0, 0, _, rfl, by decide, hv1.still (touch6 _ _ _ _ _ _) (by simp; omega) (by simp; omega), Tch.touch (tch_six ((htx.trans ht1).tch (Nat.le_refl _)) (by omega))⟩
set_option maxHeartbeats 8000000 in
set_option maxRecDepth 100000 in
theorem rnode_c (h : DSt 49 w lk b o n cap D dp fu a0 0) (p q t k lim d : Int) (hfu0 : 1 ≤ fu ∧ fu ≤ 1073741824) (hfu1 : ¬ dp < d) (hm : mayE n p q t k = 0) (hin : inlineB t = false) (htb : ¬ tgtB D p q t k lim = true) :
    Calls Tryz.prog 17 #[.pointer (some ⟨lk, 0, none⟩), .agg #[.int .i64 p, .int .i64 q, .int .i64 t, .int .i64 k], .int .i64 lim, .int .i64 d] w (NPost 49 w lk b o n cap D dp (.error (p, 211))) := by
  obtain ⟨m1, m2, m3, m4, m5, m6, m7, m8, m9⟩ := mayE_zero hm
  have H_in := Lib.hid hin
  have H_tb := Lib.hid htb
  have HKd := fun W => Lib.hid (rkind_any p q t k m1 W)
  generalize kindD t = kd at *
  clear hin htb
  have hlow := h.low
  have hD := h.doc
  obtain ⟨hn1, hn2⟩ := hD.bd
  have hbw := hlow.b
  have hlw := hlow.l
  have Hfu0 := Lib.hid hfu0
  have Hfu1 := Lib.hid hfu1
  clear hfu0 hfu1
  go_enter Tryz.func17, Tryz.ntmps17
  go_upto_region 1 with fail
  refine wp_named (fun wn => Touch [lk] w wn ∧ DSt 49 wn lk b o n cap D dp fu a0 0 ∧ wn.heap.size = w.heap.size + 2 ∧ wn.heap[w.heap.size]? = some (.cells #[.int .i64 p, .int .i64 q, .int .i64 t, .int .i64 k] 24 (0, 0)) ∧ wn.heap[w.heap.size + 1]? = some (.cells #[.int .i64 0, .int .i64 0, .int .u64 0, .string ⟨#[]⟩, .slice none 0 0, .slice none 0 0] 31 (0, 0))) ⟨Touch.quiet zw, h.keep hlow zw (Nat.le_refl _), by simp, heap_made_1 _ _ _, heap_made_2 _ _ _⟩ ?_
  rintro wn ⟨htn, hKn, hsz, hXb, hYb⟩
  have hX : w.heap.size < wn.heap.size := by omega
  have hY : w.heap.size + 1 < wn.heap.size := by omega
  have hnX : w.heap.size ∉ [lk] := by simp; omega
  have hnY : w.heap.size + 1 ∉ [lk] := by simp; omega
  have gln : lk < wn.heap.size := hKn.lkt
  have z0 : wn.cell? ⟨w.heap.size, 0, none⟩ = some (.int .i64 p) := cell_of_row _ _ _ _ _ _ hXb
  have q1 := hKn.c1
  have q2 := hKn.c2
  have q4 := hKn.c4
  have hfu0 := Hfu0.out
  have hfu1 := Hfu1.out
  clear Hfu0 Hfu1
  have hfl : ¬ fu < 1 := by omega
  have hwf : IntKind.i64.wrap (fu - 1) = fu - 1 := IntWalk.i64_in _ (by omega)
  have f2 := hKn.fz 2
  have hset := Touch.setCell wn lk 2 (.int .i64 (fu - 1))
  have hK2 : DSt 49 (wn.setCell ⟨lk, 2, none⟩ (.int .i64 (fu - 1))) lk b o n cap D dp (fu - 1) a0 0 := hKn.told hset (heap_setCell_same _ _ _ _ _ _ hKn.row)
  go_upto_region 4 with fail
  refine wp_named (fun wx => DSt 49 wx lk b o n cap D dp (fu - 1) a0 0 ∧ Touch [lk] w wx ∧ wx.heap[w.heap.size]? = some (.cells #[.int .i64 p, .int .i64 q, .int .i64 t, .int .i64 k] 24 (0, 0)) ∧ wx.heap[w.heap.size + 1]? = some (.cells #[.int .i64 0, .int .i64 0, .int .u64 0, .string ⟨#[]⟩, .slice none 0 0, .slice none 0 0] 31 (0, 0))) ⟨hK2, htn.trans hset, touch_row hset hXb hnX, touch_row hset hYb hnY⟩ ?_
  clear hKn htn hXb hYb hX hY gln z0 q1 q2 q4 f2 hset hK2
  rintro wx ⟨hKx, htx, hXx, hYx⟩
  have x0 : wx.cell? ⟨w.heap.size, 0, none⟩ = some (.int .i64 p) := cell_of_row _ _ _ _ _ _ hXx
  have r1 := hKx.c1
  have r4 := hKx.c4
  have z1 : wx.cell? ⟨w.heap.size, 1, none⟩ = some (.int .i64 q) := cell_of_row _ _ _ _ _ _ hXx
  have z2 : wx.cell? ⟨w.heap.size, 2, none⟩ = some (.int .i64 t) := cell_of_row _ _ _ _ _ _ hXx
  have z3 : wx.cell? ⟨w.heap.size, 3, none⟩ = some (.int .i64 k) := cell_of_row _ _ _ _ _ _ hXx
  have gXx := (Array.getElem?_eq_some_iff.1 hXx).1
  have gYx := (Array.getElem?_eq_some_iff.1 hYx).1
  go_upto_region 9 with (go_at_call 40; refine ((HKd _).out).mono ?_; rintro e w1 ⟨rfl, hb1⟩; obtain ⟨hc1, hf1, hl1⟩ := bcell hb1; (try simp only [zdz] at hc1 hf1 hl1); have hz1 := hb1.size; (try simp only [zsz] at hz1); (try have g0 : w.heap.size < w1.heap.size := by omega); (try have g1 : w.heap.size + 1 < w1.heap.size := by omega); (try have gl : lk < w1.heap.size := by omega))
  refine wp_named (fun wy => DSt 49 wy lk b o n cap D dp (fu - 1) a0 0 ∧ Touch [lk] w wy ∧ w.heap.size + 1 < w1.heap.size ∧ wy.heap[w.heap.size]? = some (.cells #[.int .i64 p, .int .i64 q, .int .i64 t, .int .i64 k] 24 (0, 0)) ∧ wy.heap[w.heap.size + 1]? = some (.cells #[.int .i64 0, .int .i64 0, .int .u64 0, .string ⟨#[]⟩, .slice none 0 0, .slice none 0 0] 31 (0, 0)) ∧ wy.heap[w1.heap.size]? = some (.cells #[.int .i64 kd, .int .i64 0, .int .u64 0, .string ⟨#[]⟩, .slice none 0 0, .slice none 0 0] 31 (0, 0))) ⟨hKx.keep hKx.low zw (Nat.le_refl _), htx.trans (Touch.quiet zw), by omega, (((Below.refl w1.heap.size w1).alloc (Nat.le_refl _) _).block _ (by omega)).trans ((hb1.block _ gXx).trans hXx), (((Below.refl w1.heap.size w1).alloc (Nat.le_refl _) _).block _ (by omega)).trans ((hb1.block _ gYx).trans hYx), heap_alloc_new _ _⟩ ?_
  clear hb1 hc1 hf1 hl1 hz1 gl hKx htx hXx hYx x0 r1 r4 z1 z2 z3 gXx gYx
  generalize w1.heap.size = Z
  rintro wy ⟨hKy, hty, hZ0, hXy, hYy, hZy⟩
  have hnZ : Z ∉ [lk] := by simp; omega
  have x0 : wy.cell? ⟨w.heap.size, 0, none⟩ = some (.int .i64 p) := cell_of_row _ _ _ _ _ _ hXy
  have x1 : wy.cell? ⟨w.heap.size, 1, none⟩ = some (.int .i64 q) := cell_of_row _ _ _ _ _ _ hXy
  have x2 : wy.cell? ⟨w.heap.size, 2, none⟩ = some (.int .i64 t) := cell_of_row _ _ _ _ _ _ hXy
  have x3 : wy.cell? ⟨w.heap.size, 3, none⟩ = some (.int .i64 k) := cell_of_row _ _ _ _ _ _ hXy
  have r4 := hKy.c4
  have hin := H_in.out
  have HI := fun W => Lib.hid (rinline_any t W)
  rw [hin] at HI
  clear hin
  go_wp2_with (go_at_call 41; refine ((HI _).out).mono ?_; rintro e w1 ⟨rfl, rfl⟩)
  refine (rdtarget hKy p q t k lim m4 m9 m2 (refB_of m1 H_in.out) m7 m8).mono ?_
  rintro e w1 ⟨rfl, hv1, ht1⟩
  have hX1 := touch_row ht1 hXy hnX
  have hY1 := touch_row ht1 hYy hnY
  have hZ1 := touch_row ht1 hZy hnZ
  have htw := hty.trans ht1
  clear x0 x1 x2 x3 r4 hKy hty hXy hYy hZy ht1
  have htb := H_tb.out
  rw [show tgtE D p q t k lim 0 = 211 by simp [tgtE, htb, tellE], show tgtA D p q t k lim 0 a0 = p by simp [tgtA, htb, tellA]] at hv1
  have r4 := hv1.c4
  have n0 : w1.cell? ⟨w.heap.size + 1, 0, none⟩ = some (.int .i64 0) := cell_of_row _ _ _ _ _ _ hY1
  have n1 : w1.cell? ⟨w.heap.size + 1, 1, none⟩ = some (.int .i64 0) := cell_of_row _ _ _ _ _ _ hY1
  have n2 : w1.cell? ⟨w.heap.size + 1, 2, none⟩ = some (.int .u64 0) := cell_of_row _ _ _ _ _ _ hY1
  have n3 : w1.cell? ⟨w.heap.size + 1, 3, none⟩ = some (.string ⟨#[]⟩) := cell_of_row _ _ _ _ _ _ hY1
  have n4 : w1.cell? ⟨w.heap.size + 1, 4, none⟩ = some (.slice none 0 0) := cell_of_row _ _ _ _ _ _ hY1
  have n5 : w1.cell? ⟨w.heap.size + 1, 5, none⟩ = some (.slice none 0 0) := cell_of_row _ _ _ _ _ _ hY1
  have hfz := fun (j : Nat) => frozen_of_row _ _ j _ _ hY1
  clear hX1 hY1 hZ1 htb HI
  go_wp2_with fail
  refine bodyPost_ret (v := .agg #[.int .i64 0, .int .i64 0, .int .u64 0, .string ⟨#[]⟩, .slice none 0 0, .slice none 0 0]) (by simp [results, Tryz.results17, go_sem, *]) rfl ?_
  exact ⟨0, 0, 0, ⟨#[]⟩, none, 0, 0, none, 0, 0, _, rfl, by decide, hv1.still (touch6 _ _ _ _ _ _) (by simp; omega) (by simp; omega), Tch.touch (tch_six (htw.tch (Nat.le_refl _)) (by omega))⟩
end
end Go.Proofs.YtmpflnlajakibaaGreat
