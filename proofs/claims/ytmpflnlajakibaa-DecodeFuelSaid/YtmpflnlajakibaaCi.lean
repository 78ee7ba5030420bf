/- decode.walker's node: numbers. -/
import Derived.Test.YtmpflnlajakibaaCh
namespace Go.Proofs.Ytmpflnlajakibaa
set_option linter.unusedVariables false
set_option linter.unusedSimpArgs false
set_option linter.unusedSectionVars false
open Go.RowKit
section
variable {w : World} {lk b o n cap : Nat} {D : List UInt8} {dp fu a0 : Int}
set_option maxHeartbeats 8000000 in
set_option maxRecDepth 100000 in
theorem dnode_null (h : DSt 76 w lk b o n cap D dp fu a0 0) (p q t k lim d A : Int) (hfu0 : 1 ≤ fu) (hfu1 : fu ≤ 1073741824) (hfd : ¬ dp < d) (hm : mayE n p q t k = 0) (hin : inlineB t = true) (hA : A = p) (hfn : drFn t = fnS 98) (his : drIs t = true) (r : DR (DT × Int))
    (hK : ∀ kd' nn' u' s' ks' l' f', r = .ok (.mk kd' nn' u' s' ks' l', f') → kd' = kindD t)
    (HR : ∀ W a', DSt 76 W lk b o n cap D dp (fu - 1) a' 0 → Calls Try.prog 98 #[.pointer (some ⟨lk, 0, none⟩), plcV p q t k A d] W (VPost 76 0 W lk b o n cap D dp r)) :
    Calls Try.prog 33 #[.pointer (some ⟨lk, 0, none⟩), .agg #[.int .i64 p, .int .i64 q, .int .i64 t, .int .i64 k], .int .i64 lim, .int .i64 d] w (NPost 76 w lk b o n cap D dp r) := by
  obtain ⟨m1, m2, m3, m4, m5, m6, m7, m8, m9⟩ := mayE_zero hm
  have hleg := m1
  obtain ⟨t0, t1⟩ := kindOf_in m1
  have HTB := Lib.hid (show True from trivial)
  have HRR := Lib.hid HR
  have HFN := Lib.hid hfn
  have HIS := Lib.hid his
  have HAA := Lib.hid hA
  have HIN := Lib.hid hin
  clear HR hfn his hA hin m1 m3
  have hlow := h.low
  have hD := h.doc
  obtain ⟨hn1, hn2⟩ := hD.bd
  have hbw := hlow.b
  have hlw := hlow.l
  have Hfu0 := Lib.hid hfu0
  have Hfu1 := Lib.hid hfu1
  clear hfu0 hfu1
  go_enter Try.func33, Try.ntmps33
  go_upto_region 1 with fail
  refine wp_named (fun wn => Touch [lk] w wn ∧ DSt 76 wn lk b o n cap D dp fu a0 0 ∧ w.heap.size + 1 < wn.heap.size ∧ wn.heap.size = w.heap.size + 2 ∧ wn.heap[w.heap.size]? = some (.cells #[.int .i64 p, .int .i64 q, .int .i64 t, .int .i64 k] 39 (0, 0)) ∧ wn.heap[w.heap.size + 1]? = some (.cells (nodeCells 0 0 0 [] (.slice none 0 0) (.slice none 0 0)) 44 (0, 0))) ⟨Touch.quiet zw, h.keep hlow zw (Nat.le_refl _), by simp, by simp, heap_made_1 _ _ _, heap_made_2 _ _ _⟩ ?_
  rintro wn ⟨htn, hKn, hY, hsz, hXb, hYb⟩
  have hX : w.heap.size < wn.heap.size := by omega
  have hnX : w.heap.size ∉ [lk] := by simp; omega
  have hnY : w.heap.size + 1 ∉ [lk] := by simp; omega
  have gln : lk < wn.heap.size := hKn.lkt
  have z0 : wn.cell? ⟨w.heap.size, 0, none⟩ = some (.int .i64 p) := cell_of_row _ _ _ _ _ _ hXb
  have q1 := hKn.c1
  have q2 := hKn.c2
  have hfu0 := Hfu0.out
  have hfu1 := Hfu1.out
  clear Hfu0 Hfu1
  have hin := HIN.out
  have hA := HAA.out
  have hfe : (fu == 0) = false := by simp; omega
  have hwf : IntKind.i64.wrap (fu - 1) = fu - 1 := IntWalk.i64_in _ (by omega)
  have z1 : wn.cell? ⟨w.heap.size, 1, none⟩ = some (.int .i64 q) := cell_of_row _ _ _ _ _ _ hXb
  have z2 : wn.cell? ⟨w.heap.size, 2, none⟩ = some (.int .i64 t) := cell_of_row _ _ _ _ _ _ hXb
  have z3 : wn.cell? ⟨w.heap.size, 3, none⟩ = some (.int .i64 k) := cell_of_row _ _ _ _ _ _ hXb
  have f2 := hKn.fz 2

  go_upto_region 9 with fail
  have hset := (Touch.setCell wn lk 2 (.int .i64 (fu - 1)))
  have hKs : DSt 76 (wn.setCell ⟨lk, 2, none⟩ (.int .i64 (fu - 1))) lk b o n cap D dp (fu - 1) a0 0 := hKn.told hset (heap_setCell_same _ _ _ _ _ _ hKn.row)
  have hzr : ((wn.setCell ⟨lk, 2, none⟩ (.int .i64 (fu - 1))).alloc (.cells (plcCells p q t k p d) 112)).heap[w.heap.size + 2]? = some (.cells (plcCells p q t k p d) 112 (0, 0)) := by
    have := heap_alloc_new (wn.setCell ⟨lk, 2, none⟩ (.int .i64 (fu - 1))) (.cells (plcCells p q t k p d) 112)
    rwa [World.size_setCell, hsz] at this
  refine wp_named (fun wx => DSt 76 wx lk b o n cap D dp (fu - 1) a0 0 ∧ Touch [lk] wn wx ∧ w.heap.size + 2 < wx.heap.size ∧ wx.heap[w.heap.size + 2]? = some (.cells (plcCells p q t k p d) 112 (0, 0))) ⟨hKs.keep hKs.low zw (Nat.le_refl _), hset.trans (Touch.quiet zw), by simp [hsz], hzr⟩ ?_
  clear hset hKs hzr z0 z1 z2 z3 q1 q2 f2
  rintro wx ⟨hKx, htx, hZ, hZb⟩
  have hXx := (htx.block _ hX hnX).trans hXb
  have hYx := (htx.block _ hY hnY).trans hYb
  have z2 : wx.cell? ⟨w.heap.size, 2, none⟩ = some (.int .i64 t) := cell_of_row _ _ _ _ _ _ hXx
  have q4 := hKx.c4
  have glx : lk < wx.heap.size := hKx.lkt
  have htw := htn.trans htx
  have hnZ : w.heap.size + 2 ∉ [lk] := by simp; omega
  have gX : w.heap.size < wx.heap.size := by omega
  have hHI := fun W => Lib.hid (inline_any t W)
  rw [hin] at hHI
  clear htn htx hKn hXb hYb hX hY gln
  clear hin
  go_upto_region 13 with (go_at_call 46; refine ((hHI _).out).mono ?_; rintro e w1 ⟨rfl, hb1⟩; obtain ⟨hc1, hf1, hl1⟩ := bcell hb1; (try simp only [zdz] at hc1 hf1 hl1); have hz1 := hb1.size; (try simp only [zsz] at hz1); (try have g0 : w.heap.size < w1.heap.size := by omega); (try have g1 : w.heap.size + 1 < w1.heap.size := by omega); (try have gl : lk < w1.heap.size := by omega))
  refine wp_named (fun wz => DSt 76 wz lk b o n cap D dp (fu - 1) a0 0 ∧ Touch [lk] w wz ∧ w.heap.size + 2 < wz.heap.size ∧ wz.heap[w.heap.size]? = some (.cells #[.int .i64 p, .int .i64 q, .int .i64 t, .int .i64 k] 39 (0, 0)) ∧ wz.heap[w.heap.size + 1]? = some (.cells (nodeCells 0 0 0 [] (.slice none 0 0) (.slice none 0 0)) 44 (0, 0)) ∧ wz.heap[w.heap.size + 2]? = some (.cells (plcCells p q t k A d) 112 (0, 0))) ⟨hKx.keep hKx.low zw (Nat.le_refl _), htw.trans (Touch.quiet zw), by omega, (hb1.block _ (by omega)).trans hXx, (hb1.block _ (by omega)).trans hYx, (hb1.block _ hZ).trans (hA ▸ hZb)⟩ ?_
  clear hb1 hc1 hf1 hl1 hz1 gl hKx htw hXx hYx hZb z2 q4 hZ
  rintro wz ⟨hKz, htz, hZ, hXz, hYz, hZz⟩
  clear hA
  have hfn := HFN.out
  have his := HIS.out
  have HR := HRR.out
  have hR := Lib.hid HR
  clear HR
  have gX : w.heap.size < wz.heap.size := by omega
  have gln : lk < wz.heap.size := hKz.lkt
  have z2 : wz.cell? ⟨w.heap.size, 2, none⟩ = some (.int .i64 t) := cell_of_row _ _ _ _ _ _ hXz
  go_region_held3 (fun w' => w'.cell? ⟨w.heap.size, 2, none⟩ = some (.int .i64 t)) (first | (with_reducible exact z2) | go_keep) ((go_at_call 66; refine (dreaders_any _).mono ?_; rintro e w1 ⟨rfl, hb1, hmap⟩; obtain ⟨hc1, hf1, hl1⟩ := bcell hb1; simp only [zdz] at hc1 hf1 hl1; have hz1 := hb1.size; simp only [zsz] at hz1; (have gX1 : w.heap.size < w1.heap.size := by omega); have hlk := look_dr t t0 t1 w1 wz.heap.size hmap; rw [hfn, his] at hlk; (try unfold fnS at hlk)))
  go_upto_region 16 with fail
  refine wp_named (fun wv => DSt 76 wv lk b o n cap D dp (fu - 1) a0 0 ∧ Touch [lk] wz wv) ⟨hKz.keep hKz.low zw (Nat.le_refl _), Touch.quiet zw⟩ ?_
  clear hb1 hc1 hf1 hl1 hz1 gX1 hlk hmap z2
  rintro wv ⟨hKv, htv⟩
  have hXv := (htv.block _ gX hnX).trans hXz
  have hYv := (htv.block _ (by omega) hnY).trans hYz
  have hZv := (htv.block _ hZ hnZ).trans hZz
  have hZs := Nat.lt_of_lt_of_le hZ htv.size
  have htw := htz.trans htv
  clear htv htz hXz hYz hZz hKz gX gln
  have z0 : wv.cell? ⟨w.heap.size + 2, 0, none⟩ = some (.int .i64 p) := cell_of_row _ _ _ _ _ _ hZv
  have z1 : wv.cell? ⟨w.heap.size + 2, 1, none⟩ = some (.int .i64 q) := cell_of_row _ _ _ _ _ _ hZv
  have z2 : wv.cell? ⟨w.heap.size + 2, 2, none⟩ = some (.int .i64 t) := cell_of_row _ _ _ _ _ _ hZv
  have z3 : wv.cell? ⟨w.heap.size + 2, 3, none⟩ = some (.int .i64 k) := cell_of_row _ _ _ _ _ _ hZv
  have z4 : wv.cell? ⟨w.heap.size + 2, 4, none⟩ = some (.int .i64 A) := cell_of_row _ _ _ _ _ _ hZv
  have z5 : wv.cell? ⟨w.heap.size + 2, 5, none⟩ = some (.int .i64 d) := cell_of_row _ _ _ _ _ _ hZv
  go_wp2_with fail
  refine (hR.out _ _ hKv).mono ?_
  intro e w1 hp
  obtain ⟨kd1, nn1, uu1, s1, B1, m1', d1, B2, m2', d2, rfl, ht1, hp⟩ := vpost_shape hp
  have hX1 := (ht1.block _ (by omega) hnX).trans hXv
  have hY1 := (ht1.block _ (by omega) hnY).trans hYv
  have hs1 := Nat.lt_of_lt_of_le hZs ht1.size
  have gX1 : w.heap.size < w1.heap.size := by omega
  have gY1 : w.heap.size + 1 < w1.heap.size := by omega
  clear z0 z1 z2 z3 z4 z5 hXv hYv hZv hR
  have x0 : w1.cell? ⟨w.heap.size, 0, none⟩ = some (.int .i64 p) := cell_of_row _ _ _ _ _ _ hX1
  have x1 : w1.cell? ⟨w.heap.size, 1, none⟩ = some (.int .i64 q) := cell_of_row _ _ _ _ _ _ hX1
  have x2 : w1.cell? ⟨w.heap.size, 2, none⟩ = some (.int .i64 t) := cell_of_row _ _ _ _ _ _ hX1
  have x3 : w1.cell? ⟨w.heap.size, 3, none⟩ = some (.int .i64 k) := cell_of_row _ _ _ _ _ _ hX1
  have hfz := fun (j : Nat) => frozen_of_row _ _ j _ _ hY1
  have n0 : w1.cell? ⟨w.heap.size + 1, 0, none⟩ = some (.int .i64 0) := cell_of_row _ _ _ _ _ _ hY1
  have n1 : w1.cell? ⟨w.heap.size + 1, 1, none⟩ = some (.int .i64 0) := cell_of_row _ _ _ _ _ _ hY1
  have n2 : w1.cell? ⟨w.heap.size + 1, 2, none⟩ = some (.int .u64 0) := cell_of_row _ _ _ _ _ _ hY1
  have n3 : w1.cell? ⟨w.heap.size + 1, 3, none⟩ = some (.string ⟨#[]⟩) := cell_of_row _ _ _ _ _ _ hY1
  have n4 : w1.cell? ⟨w.heap.size + 1, 4, none⟩ = some (.slice none 0 0) := cell_of_row _ _ _ _ _ _ hY1
  have n5 : w1.cell? ⟨w.heap.size + 1, 5, none⟩ = some (.slice none 0 0) := cell_of_row _ _ _ _ _ _ hY1
  clear hX1 hY1
  have hKd := fun W => Lib.hid (refkind_any p q t k hleg W)
  go_wp2_with (go_at_call 68; refine (hKd _).out.mono ?_; rintro e w2 ⟨rfl, hb2⟩; obtain ⟨hc2, hf2, hl2⟩ := bcell hb2; have hz2 := hb2.size; simp only [zsz] at hz2; (have gw : w1.heap.size < w2.heap.size := by omega))
  refine bodyPost_ret (v := .agg #[.int .i64 (kindD t), .int .i64 nn1, .int .u64 uu1, .string s1, .slice B1 m1' d1, .slice B2 m2' d2]) (by simp [results, Try.results33, go_sem, *]) rfl ?_
  refine npost_of (Y := w.heap.size + 1) hK hp htw ?_ (by omega) (by omega) hlw hbw
  (repeat' first | (with_reducible first | exact Tch.refl _ _ _ | refine tch_setY ?_ _ _ | refine Tch.alloc ?_ ?_ _ | refine Tch.drew ?_ | refine Tch.setCell ?_ ?_ _ | refine tch_below (by assumption) ?_ ?_) | omega | (simp only [zsz]; omega) | (simp <;> omega))
set_option maxHeartbeats 8000000 in
set_option maxRecDepth 100000 in
theorem dnode_signed_i (h : DSt 76 w lk b o n cap D dp fu a0 0) (p q t k lim d A : Int) (hfu0 : 1 ≤ fu) (hfu1 : fu ≤ 1073741824) (hfd : ¬ dp < d) (hm : mayE n p q t k = 0) (hin : inlineB t = true) (hA : A = p) (hfn : drFn t = fnS 101) (his : drIs t = true) (r : DR (DT × Int))
    (hK : ∀ kd' nn' u' s' ks' l' f', r = .ok (.mk kd' nn' u' s' ks' l', f') → kd' = kindD t)
    (HR : ∀ W a', DSt 76 W lk b o n cap D dp (fu - 1) a' 0 → Calls Try.prog 101 #[.pointer (some ⟨lk, 0, none⟩), plcV p q t k A d] W (VPost 76 0 W lk b o n cap D dp r)) :
    Calls Try.prog 33 #[.pointer (some ⟨lk, 0, none⟩), .agg #[.int .i64 p, .int .i64 q, .int .i64 t, .int .i64 k], .int .i64 lim, .int .i64 d] w (NPost 76 w lk b o n cap D dp r) := by
  obtain ⟨m1, m2, m3, m4, m5, m6, m7, m8, m9⟩ := mayE_zero hm
  have hleg := m1
  obtain ⟨t0, t1⟩ := kindOf_in m1
  have HTB := Lib.hid (show True from trivial)
  have HRR := Lib.hid HR
  have HFN := Lib.hid hfn
  have HIS := Lib.hid his
  have HAA := Lib.hid hA
  have HIN := Lib.hid hin
  clear HR hfn his hA hin m1 m3
  have hlow := h.low
  have hD := h.doc
  obtain ⟨hn1, hn2⟩ := hD.bd
  have hbw := hlow.b
  have hlw := hlow.l
  have Hfu0 := Lib.hid hfu0
  have Hfu1 := Lib.hid hfu1
  clear hfu0 hfu1
  go_enter Try.func33, Try.ntmps33
  go_upto_region 1 with fail
  refine wp_named (fun wn => Touch [lk] w wn ∧ DSt 76 wn lk b o n cap D dp fu a0 0 ∧ w.heap.size + 1 < wn.heap.size ∧ wn.heap.size = w.heap.size + 2 ∧ wn.heap[w.heap.size]? = some (.cells #[.int .i64 p, .int .i64 q, .int .i64 t, .int .i64 k] 39 (0, 0)) ∧ wn.heap[w.heap.size + 1]? = some (.cells (nodeCells 0 0 0 [] (.slice none 0 0) (.slice none 0 0)) 44 (0, 0))) ⟨Touch.quiet zw, h.keep hlow zw (Nat.le_refl _), by simp, by simp, heap_made_1 _ _ _, heap_made_2 _ _ _⟩ ?_
  rintro wn ⟨htn, hKn, hY, hsz, hXb, hYb⟩
  have hX : w.heap.size < wn.heap.size := by omega
  have hnX : w.heap.size ∉ [lk] := by simp; omega
  have hnY : w.heap.size + 1 ∉ [lk] := by simp; omega
  have gln : lk < wn.heap.size := hKn.lkt
  have z0 : wn.cell? ⟨w.heap.size, 0, none⟩ = some (.int .i64 p) := cell_of_row _ _ _ _ _ _ hXb
  have q1 := hKn.c1
  have q2 := hKn.c2
  have hfu0 := Hfu0.out
  have hfu1 := Hfu1.out
  clear Hfu0 Hfu1
  have hin := HIN.out
  have hA := HAA.out
  have hfe : (fu == 0) = false := by simp; omega
  have hwf : IntKind.i64.wrap (fu - 1) = fu - 1 := IntWalk.i64_in _ (by omega)
  have z1 : wn.cell? ⟨w.heap.size, 1, none⟩ = some (.int .i64 q) := cell_of_row _ _ _ _ _ _ hXb
  have z2 : wn.cell? ⟨w.heap.size, 2, none⟩ = some (.int .i64 t) := cell_of_row _ _ _ _ _ _ hXb
  have z3 : wn.cell? ⟨w.heap.size, 3, none⟩ = some (.int .i64 k) := cell_of_row _ _ _ _ _ _ hXb
  have f2 := hKn.fz 2

  go_upto_region 9 with fail
  have hset := (Touch.setCell wn lk 2 (.int .i64 (fu - 1)))
  have hKs : DSt 76 (wn.setCell ⟨lk, 2, none⟩ (.int .i64 (fu - 1))) lk b o n cap D dp (fu - 1) a0 0 := hKn.told hset (heap_setCell_same _ _ _ _ _ _ hKn.row)
  have hzr : ((wn.setCell ⟨lk, 2, none⟩ (.int .i64 (fu - 1))).alloc (.cells (plcCells p q t k p d) 112)).heap[w.heap.size + 2]? = some (.cells (plcCells p q t k p d) 112 (0, 0)) := by
    have := heap_alloc_new (wn.setCell ⟨lk, 2, none⟩ (.int .i64 (fu - 1))) (.cells (plcCells p q t k p d) 112)
    rwa [World.size_setCell, hsz] at this
  refine wp_named (fun wx => DSt 76 wx lk b o n cap D dp (fu - 1) a0 0 ∧ Touch [lk] wn wx ∧ w.heap.size + 2 < wx.heap.size ∧ wx.heap[w.heap.size + 2]? = some (.cells (plcCells p q t k p d) 112 (0, 0))) ⟨hKs.keep hKs.low zw (Nat.le_refl _), hset.trans (Touch.quiet zw), by simp [hsz], hzr⟩ ?_
  clear hset hKs hzr z0 z1 z2 z3 q1 q2 f2
  rintro wx ⟨hKx, htx, hZ, hZb⟩
  have hXx := (htx.block _ hX hnX).trans hXb
  have hYx := (htx.block _ hY hnY).trans hYb
  have z2 : wx.cell? ⟨w.heap.size, 2, none⟩ = some (.int .i64 t) := cell_of_row _ _ _ _ _ _ hXx
  have q4 := hKx.c4
  have glx : lk < wx.heap.size := hKx.lkt
  have htw := htn.trans htx
  have hnZ : w.heap.size + 2 ∉ [lk] := by simp; omega
  have gX : w.heap.size < wx.heap.size := by omega
  have hHI := fun W => Lib.hid (inline_any t W)
  rw [hin] at hHI
  clear htn htx hKn hXb hYb hX hY gln
  clear hin
  go_upto_region 13 with (go_at_call 46; refine ((hHI _).out).mono ?_; rintro e w1 ⟨rfl, hb1⟩; obtain ⟨hc1, hf1, hl1⟩ := bcell hb1; (try simp only [zdz] at hc1 hf1 hl1); have hz1 := hb1.size; (try simp only [zsz] at hz1); (try have g0 : w.heap.size < w1.heap.size := by omega); (try have g1 : w.heap.size + 1 < w1.heap.size := by omega); (try have gl : lk < w1.heap.size := by omega))
  refine wp_named (fun wz => DSt 76 wz lk b o n cap D dp (fu - 1) a0 0 ∧ Touch [lk] w wz ∧ w.heap.size + 2 < wz.heap.size ∧ wz.heap[w.heap.size]? = some (.cells #[.int .i64 p, .int .i64 q, .int .i64 t, .int .i64 k] 39 (0, 0)) ∧ wz.heap[w.heap.size + 1]? = some (.cells (nodeCells 0 0 0 [] (.slice none 0 0) (.slice none 0 0)) 44 (0, 0)) ∧ wz.heap[w.heap.size + 2]? = some (.cells (plcCells p q t k A d) 112 (0, 0))) ⟨hKx.keep hKx.low zw (Nat.le_refl _), htw.trans (Touch.quiet zw), by omega, (hb1.block _ (by omega)).trans hXx, (hb1.block _ (by omega)).trans hYx, (hb1.block _ hZ).trans (hA ▸ hZb)⟩ ?_
  clear hb1 hc1 hf1 hl1 hz1 gl hKx htw hXx hYx hZb z2 q4 hZ
  rintro wz ⟨hKz, htz, hZ, hXz, hYz, hZz⟩
  clear hA
  have hfn := HFN.out
  have his := HIS.out
  have HR := HRR.out
  have hR := Lib.hid HR
  clear HR
  have gX : w.heap.size < wz.heap.size := by omega
  have gln : lk < wz.heap.size := hKz.lkt
  have z2 : wz.cell? ⟨w.heap.size, 2, none⟩ = some (.int .i64 t) := cell_of_row _ _ _ _ _ _ hXz
  go_region_held3 (fun w' => w'.cell? ⟨w.heap.size, 2, none⟩ = some (.int .i64 t)) (first | (with_reducible exact z2) | go_keep) ((go_at_call 66; refine (dreaders_any _).mono ?_; rintro e w1 ⟨rfl, hb1, hmap⟩; obtain ⟨hc1, hf1, hl1⟩ := bcell hb1; simp only [zdz] at hc1 hf1 hl1; have hz1 := hb1.size; simp only [zsz] at hz1; (have gX1 : w.heap.size < w1.heap.size := by omega); have hlk := look_dr t t0 t1 w1 wz.heap.size hmap; rw [hfn, his] at hlk; (try unfold fnS at hlk)))
  go_upto_region 16 with fail
  refine wp_named (fun wv => DSt 76 wv lk b o n cap D dp (fu - 1) a0 0 ∧ Touch [lk] wz wv) ⟨hKz.keep hKz.low zw (Nat.le_refl _), Touch.quiet zw⟩ ?_
  clear hb1 hc1 hf1 hl1 hz1 gX1 hlk hmap z2
  rintro wv ⟨hKv, htv⟩
  have hXv := (htv.block _ gX hnX).trans hXz
  have hYv := (htv.block _ (by omega) hnY).trans hYz
  have hZv := (htv.block _ hZ hnZ).trans hZz
  have hZs := Nat.lt_of_lt_of_le hZ htv.size
  have htw := htz.trans htv
  clear htv htz hXz hYz hZz hKz gX gln
  have z0 : wv.cell? ⟨w.heap.size + 2, 0, none⟩ = some (.int .i64 p) := cell_of_row _ _ _ _ _ _ hZv
  have z1 : wv.cell? ⟨w.heap.size + 2, 1, none⟩ = some (.int .i64 q) := cell_of_row _ _ _ _ _ _ hZv
  have z2 : wv.cell? ⟨w.heap.size + 2, 2, none⟩ = some (.int .i64 t) := cell_of_row _ _ _ _ _ _ hZv
  have z3 : wv.cell? ⟨w.heap.size + 2, 3, none⟩ = some (.int .i64 k) := cell_of_row _ _ _ _ _ _ hZv
  have z4 : wv.cell? ⟨w.heap.size + 2, 4, none⟩ = some (.int .i64 A) := cell_of_row _ _ _ _ _ _ hZv
  have z5 : wv.cell? ⟨w.heap.size + 2, 5, none⟩ = some (.int .i64 d) := cell_of_row _ _ _ _ _ _ hZv
  go_wp2_with fail
  refine (hR.out _ _ hKv).mono ?_
  intro e w1 hp
  obtain ⟨kd1, nn1, uu1, s1, B1, m1', d1, B2, m2', d2, rfl, ht1, hp⟩ := vpost_shape hp
  have hX1 := (ht1.block _ (by omega) hnX).trans hXv
  have hY1 := (ht1.block _ (by omega) hnY).trans hYv
  have hs1 := Nat.lt_of_lt_of_le hZs ht1.size
  have gX1 : w.heap.size < w1.heap.size := by omega
  have gY1 : w.heap.size + 1 < w1.heap.size := by omega
  clear z0 z1 z2 z3 z4 z5 hXv hYv hZv hR
  have x0 : w1.cell? ⟨w.heap.size, 0, none⟩ = some (.int .i64 p) := cell_of_row _ _ _ _ _ _ hX1
  have x1 : w1.cell? ⟨w.heap.size, 1, none⟩ = some (.int .i64 q) := cell_of_row _ _ _ _ _ _ hX1
  have x2 : w1.cell? ⟨w.heap.size, 2, none⟩ = some (.int .i64 t) := cell_of_row _ _ _ _ _ _ hX1
  have x3 : w1.cell? ⟨w.heap.size, 3, none⟩ = some (.int .i64 k) := cell_of_row _ _ _ _ _ _ hX1
  have hfz := fun (j : Nat) => frozen_of_row _ _ j _ _ hY1
  have n0 : w1.cell? ⟨w.heap.size + 1, 0, none⟩ = some (.int .i64 0) := cell_of_row _ _ _ _ _ _ hY1
  have n1 : w1.cell? ⟨w.heap.size + 1, 1, none⟩ = some (.int .i64 0) := cell_of_row _ _ _ _ _ _ hY1
  have n2 : w1.cell? ⟨w.heap.size + 1, 2, none⟩ = some (.int .u64 0) := cell_of_row _ _ _ _ _ _ hY1
  have n3 : w1.cell? ⟨w.heap.size + 1, 3, none⟩ = some (.string ⟨#[]⟩) := cell_of_row _ _ _ _ _ _ hY1
  have n4 : w1.cell? ⟨w.heap.size + 1, 4, none⟩ = some (.slice none 0 0) := cell_of_row _ _ _ _ _ _ hY1
  have n5 : w1.cell? ⟨w.heap.size + 1, 5, none⟩ = some (.slice none 0 0) := cell_of_row _ _ _ _ _ _ hY1
  clear hX1 hY1
  have hKd := fun W => Lib.hid (refkind_any p q t k hleg W)
  go_wp2_with (go_at_call 68; refine (hKd _).out.mono ?_; rintro e w2 ⟨rfl, hb2⟩; obtain ⟨hc2, hf2, hl2⟩ := bcell hb2; have hz2 := hb2.size; simp only [zsz] at hz2; (have gw : w1.heap.size < w2.heap.size := by omega))
  refine bodyPost_ret (v := .agg #[.int .i64 (kindD t), .int .i64 nn1, .int .u64 uu1, .string s1, .slice B1 m1' d1, .slice B2 m2' d2]) (by simp [results, Try.results33, go_sem, *]) rfl ?_
  refine npost_of (Y := w.heap.size + 1) hK hp htw ?_ (by omega) (by omega) hlw hbw
  (repeat' first | (with_reducible first | exact Tch.refl _ _ _ | refine tch_setY ?_ _ _ | refine Tch.alloc ?_ ?_ _ | refine Tch.drew ?_ | refine Tch.setCell ?_ ?_ _ | refine tch_below (by assumption) ?_ ?_) | omega | (simp only [zsz]; omega) | (simp <;> omega))
set_option maxHeartbeats 8000000 in
set_option maxRecDepth 100000 in
theorem dnode_signed_t (h : DSt 76 w lk b o n cap D dp fu a0 0) (p q t k lim d A : Int) (hfu0 : 1 ≤ fu) (hfu1 : fu ≤ 1073741824) (hfd : ¬ dp < d) (hm : mayE n p q t k = 0) (hin : inlineB t = false) (htb : tgtB D p q t k lim = true) (hA : A = p - loadV D p q) (hfn : drFn t = fnS 101) (his : drIs t = true) (r : DR (DT × Int))
    (hK : ∀ kd' nn' u' s' ks' l' f', r = .ok (.mk kd' nn' u' s' ks' l', f') → kd' = kindD t)
    (HR : ∀ W a', DSt 76 W lk b o n cap D dp (fu - 1) a' 0 → Calls Try.prog 101 #[.pointer (some ⟨lk, 0, none⟩), plcV p q t k A d] W (VPost 76 0 W lk b o n cap D dp r)) :
    Calls Try.prog 33 #[.pointer (some ⟨lk, 0, none⟩), .agg #[.int .i64 p, .int .i64 q, .int .i64 t, .int .i64 k], .int .i64 lim, .int .i64 d] w (NPost 76 w lk b o n cap D dp r) := by
  obtain ⟨m1, m2, m3, m4, m5, m6, m7, m8, m9⟩ := mayE_zero hm
  have hleg := m1
  obtain ⟨t0, t1⟩ := kindOf_in m1
  have HTB := Lib.hid htb
  clear htb
  have HRR := Lib.hid HR
  have HFN := Lib.hid hfn
  have HIS := Lib.hid his
  have HAA := Lib.hid hA
  have HIN := Lib.hid hin
  clear HR hfn his hA hin m1 m3
  have hlow := h.low
  have hD := h.doc
  obtain ⟨hn1, hn2⟩ := hD.bd
  have hbw := hlow.b
  have hlw := hlow.l
  have Hfu0 := Lib.hid hfu0
  have Hfu1 := Lib.hid hfu1
  clear hfu0 hfu1
  go_enter Try.func33, Try.ntmps33
  go_upto_region 1 with fail
  refine wp_named (fun wn => Touch [lk] w wn ∧ DSt 76 wn lk b o n cap D dp fu a0 0 ∧ w.heap.size + 1 < wn.heap.size ∧ wn.heap.size = w.heap.size + 2 ∧ wn.heap[w.heap.size]? = some (.cells #[.int .i64 p, .int .i64 q, .int .i64 t, .int .i64 k] 39 (0, 0)) ∧ wn.heap[w.heap.size + 1]? = some (.cells (nodeCells 0 0 0 [] (.slice none 0 0) (.slice none 0 0)) 44 (0, 0))) ⟨Touch.quiet zw, h.keep hlow zw (Nat.le_refl _), by simp, by simp, heap_made_1 _ _ _, heap_made_2 _ _ _⟩ ?_
  rintro wn ⟨htn, hKn, hY, hsz, hXb, hYb⟩
  have hX : w.heap.size < wn.heap.size := by omega
  have hnX : w.heap.size ∉ [lk] := by simp; omega
  have hnY : w.heap.size + 1 ∉ [lk] := by simp; omega
  have gln : lk < wn.heap.size := hKn.lkt
  have z0 : wn.cell? ⟨w.heap.size, 0, none⟩ = some (.int .i64 p) := cell_of_row _ _ _ _ _ _ hXb
  have q1 := hKn.c1
  have q2 := hKn.c2
  have hfu0 := Hfu0.out
  have hfu1 := Hfu1.out
  clear Hfu0 Hfu1
  have hin := HIN.out
  have hfe : (fu == 0) = false := by simp; omega
  have hwf : IntKind.i64.wrap (fu - 1) = fu - 1 := IntWalk.i64_in _ (by omega)
  have z1 : wn.cell? ⟨w.heap.size, 1, none⟩ = some (.int .i64 q) := cell_of_row _ _ _ _ _ _ hXb
  have z2 : wn.cell? ⟨w.heap.size, 2, none⟩ = some (.int .i64 t) := cell_of_row _ _ _ _ _ _ hXb
  have z3 : wn.cell? ⟨w.heap.size, 3, none⟩ = some (.int .i64 k) := cell_of_row _ _ _ _ _ _ hXb
  have f2 := hKn.fz 2

  go_upto_region 9 with fail
  have hset := (Touch.setCell wn lk 2 (.int .i64 (fu - 1)))
  have hKs : DSt 76 (wn.setCell ⟨lk, 2, none⟩ (.int .i64 (fu - 1))) lk b o n cap D dp (fu - 1) a0 0 := hKn.told hset (heap_setCell_same _ _ _ _ _ _ hKn.row)
  have hzr : ((wn.setCell ⟨lk, 2, none⟩ (.int .i64 (fu - 1))).alloc (.cells (plcCells p q t k p d) 112)).heap[w.heap.size + 2]? = some (.cells (plcCells p q t k p d) 112 (0, 0)) := by
    have := heap_alloc_new (wn.setCell ⟨lk, 2, none⟩ (.int .i64 (fu - 1))) (.cells (plcCells p q t k p d) 112)
    rwa [World.size_setCell, hsz] at this
  refine wp_named (fun wx => DSt 76 wx lk b o n cap D dp (fu - 1) a0 0 ∧ Touch [lk] wn wx ∧ w.heap.size + 2 < wx.heap.size ∧ wx.heap[w.heap.size + 2]? = some (.cells (plcCells p q t k p d) 112 (0, 0))) ⟨hKs.keep hKs.low zw (Nat.le_refl _), hset.trans (Touch.quiet zw), by simp [hsz], hzr⟩ ?_
  clear hset hKs hzr z0 z1 z2 z3 q1 q2 f2
  rintro wx ⟨hKx, htx, hZ, hZb⟩
  have hXx := (htx.block _ hX hnX).trans hXb
  have hYx := (htx.block _ hY hnY).trans hYb
  have z2 : wx.cell? ⟨w.heap.size, 2, none⟩ = some (.int .i64 t) := cell_of_row _ _ _ _ _ _ hXx
  have q4 := hKx.c4
  have glx : lk < wx.heap.size := hKx.lkt
  have htw := htn.trans htx
  have hnZ : w.heap.size + 2 ∉ [lk] := by simp; omega
  have gX : w.heap.size < wx.heap.size := by omega
  have hHI := fun W => Lib.hid (inline_any t W)
  rw [hin] at hHI
  clear htn htx hKn hXb hYb hX hY gln
  clear hin
  have z0 : wx.cell? ⟨w.heap.size, 0, none⟩ = some (.int .i64 p) := cell_of_row _ _ _ _ _ _ hXx
  have z1 : wx.cell? ⟨w.heap.size, 1, none⟩ = some (.int .i64 q) := cell_of_row _ _ _ _ _ _ hXx
  have z3 : wx.cell? ⟨w.heap.size, 3, none⟩ = some (.int .i64 k) := cell_of_row _ _ _ _ _ _ hXx
  go_upto_region 10 with (go_at_call 46; refine ((hHI _).out).mono ?_; rintro e w1 ⟨rfl, hb1⟩; obtain ⟨hc1, hf1, hl1⟩ := bcell hb1; (try simp only [zdz] at hc1 hf1 hl1); have hz1 := hb1.size; (try simp only [zsz] at hz1); (try have g0 : w.heap.size < w1.heap.size := by omega); (try have g1 : w.heap.size + 1 < w1.heap.size := by omega); (try have gl : lk < w1.heap.size := by omega))
  refine wp_named (fun wy => DSt 76 wy lk b o n cap D dp (fu - 1) a0 0 ∧ Touch [lk] wx wy) ⟨hKx.keep hKx.low zw (Nat.le_refl _), Touch.quiet zw⟩ ?_
  clear hb1 hc1 hf1 hl1 hz1 gl z0 z1 z2 z3 q4
  rintro wy ⟨hKy, hty⟩
  have hXy := (hty.block _ gX hnX).trans hXx
  have hYy := (hty.block _ (by omega) hnY).trans hYx
  have hZy := (hty.block _ hZ hnZ).trans hZb
  have hZs := Nat.lt_of_lt_of_le hZ hty.size
  have z0 : wy.cell? ⟨w.heap.size, 0, none⟩ = some (.int .i64 p) := cell_of_row _ _ _ _ _ _ hXy
  have z1 : wy.cell? ⟨w.heap.size, 1, none⟩ = some (.int .i64 q) := cell_of_row _ _ _ _ _ _ hXy
  have z2 : wy.cell? ⟨w.heap.size, 2, none⟩ = some (.int .i64 t) := cell_of_row _ _ _ _ _ _ hXy
  have z3 : wy.cell? ⟨w.heap.size, 3, none⟩ = some (.int .i64 k) := cell_of_row _ _ _ _ _ _ hXy
  have htw := htw.trans hty
  clear hty hXx hYx hZb hKx hZ
  go_wp2_with fail
  refine (dtarget hKy p q t k lim m2 m4 m9 (by omega) (by omega)).mono ?_
  rintro e w1 ⟨rfl, hv1, ht1⟩
  have hX1 := (ht1.block _ (by omega) hnX).trans hXy
  have hY1 := (ht1.block _ (by omega) hnY).trans hYy
  have hZ1 := (ht1.block _ hZs hnZ).trans hZy
  have hZs1 := Nat.lt_of_lt_of_le hZs ht1.size
  have f4 := frozen_of_row _ _ 4 _ _ hZ1
  have n4 : w1.cell? ⟨w.heap.size + 2, 4, none⟩ = some (.int .i64 p) := cell_of_row _ _ _ _ _ _ hZ1
  have htw := htw.trans ht1
  clear z0 z1 z2 z3 hXy hYy hZy hKy ht1
  have htb := HTB.out
  rw [show tgtE D p q t k lim 0 = 0 by simp [tgtE, htb], show tgtA D p q t k lim 0 a0 = a0 by simp [tgtA, htb]] at hv1
  have hXv : tgtX D p q t k lim = A := by rw [HAA.out]; simp [tgtX, htb]
  clear htb
  have q4 := hv1.c4
  go_upto_region 13 with fail
  have hs2 : Touch [w.heap.size + 2] w1 (w1.setCell ⟨w.heap.size + 2, 4, none⟩ (.int .i64 A)) := Touch.setCell _ _ _ _
  refine wp_named (fun wz => DSt 76 wz lk b o n cap D dp (fu - 1) a0 0 ∧ Touch [lk] w wz ∧ w.heap.size + 2 < wz.heap.size ∧ wz.heap[w.heap.size]? = some (.cells #[.int .i64 p, .int .i64 q, .int .i64 t, .int .i64 k] 39 (0, 0)) ∧ wz.heap[w.heap.size + 1]? = some (.cells (nodeCells 0 0 0 [] (.slice none 0 0) (.slice none 0 0)) 44 (0, 0)) ∧ wz.heap[w.heap.size + 2]? = some (.cells (plcCells p q t k A d) 112 (0, 0))) ⟨hv1.still hs2 (by simp; omega) (by simp; omega), Tch.touch ((htw.tch (Nat.le_refl _)).setCell (show w.heap.size ≤ w.heap.size + 2 by omega) _), by rw [World.size_setCell]; exact hZs1, (hs2.block _ (by omega) (by simp)).trans hX1, (hs2.block _ (by omega) (by simp)).trans hY1, (heap_setCell_same _ _ _ _ _ _ hZ1).trans rfl⟩ ?_
  clear hs2 hv1 hX1 hY1 hZ1 hZs1 f4 n4 htw q4 hZs
  rintro wz ⟨hKz, htz, hZ, hXz, hYz, hZz⟩
  have hfn := HFN.out
  have his := HIS.out
  have HR := HRR.out
  have hR := Lib.hid HR
  clear HR
  have gX : w.heap.size < wz.heap.size := by omega
  have gln : lk < wz.heap.size := hKz.lkt
  have z2 : wz.cell? ⟨w.heap.size, 2, none⟩ = some (.int .i64 t) := cell_of_row _ _ _ _ _ _ hXz
  go_region_held3 (fun w' => w'.cell? ⟨w.heap.size, 2, none⟩ = some (.int .i64 t)) (first | (with_reducible exact z2) | go_keep) ((go_at_call 66; refine (dreaders_any _).mono ?_; rintro e w1 ⟨rfl, hb1, hmap⟩; obtain ⟨hc1, hf1, hl1⟩ := bcell hb1; simp only [zdz] at hc1 hf1 hl1; have hz1 := hb1.size; simp only [zsz] at hz1; (have gX1 : w.heap.size < w1.heap.size := by omega); have hlk := look_dr t t0 t1 w1 wz.heap.size hmap; rw [hfn, his] at hlk; (try unfold fnS at hlk)))
  go_upto_region 16 with fail
  refine wp_named (fun wv => DSt 76 wv lk b o n cap D dp (fu - 1) a0 0 ∧ Touch [lk] wz wv) ⟨hKz.keep hKz.low zw (Nat.le_refl _), Touch.quiet zw⟩ ?_
  clear hb1 hc1 hf1 hl1 hz1 gX1 hlk hmap z2
  rintro wv ⟨hKv, htv⟩
  have hXv := (htv.block _ gX hnX).trans hXz
  have hYv := (htv.block _ (by omega) hnY).trans hYz
  have hZv := (htv.block _ hZ hnZ).trans hZz
  have hZs := Nat.lt_of_lt_of_le hZ htv.size
  have htw := htz.trans htv
  clear htv htz hXz hYz hZz hKz gX gln
  have z0 : wv.cell? ⟨w.heap.size + 2, 0, none⟩ = some (.int .i64 p) := cell_of_row _ _ _ _ _ _ hZv
  have z1 : wv.cell? ⟨w.heap.size + 2, 1, none⟩ = some (.int .i64 q) := cell_of_row _ _ _ _ _ _ hZv
  have z2 : wv.cell? ⟨w.heap.size + 2, 2, none⟩ = some (.int .i64 t) := cell_of_row _ _ _ _ _ _ hZv
  have z3 : wv.cell? ⟨w.heap.size + 2, 3, none⟩ = some (.int .i64 k) := cell_of_row _ _ _ _ _ _ hZv
  have z4 : wv.cell? ⟨w.heap.size + 2, 4, none⟩ = some (.int .i64 A) := cell_of_row _ _ _ _ _ _ hZv
  have z5 : wv.cell? ⟨w.heap.size + 2, 5, none⟩ = some (.int .i64 d) := cell_of_row _ _ _ _ _ _ hZv
  go_wp2_with fail
  refine (hR.out _ _ hKv).mono ?_
  intro e w1 hp
  obtain ⟨kd1, nn1, uu1, s1, B1, m1', d1, B2, m2', d2, rfl, ht1, hp⟩ := vpost_shape hp
  have hX1 := (ht1.block _ (by omega) hnX).trans hXv
  have hY1 := (ht1.block _ (by omega) hnY).trans hYv
  have hs1 := Nat.lt_of_lt_of_le hZs ht1.size
  have gX1 : w.heap.size < w1.heap.size := by omega
  have gY1 : w.heap.size + 1 < w1.heap.size := by omega
  clear z0 z1 z2 z3 z4 z5 hXv hYv hZv hR
  have x0 : w1.cell? ⟨w.heap.size, 0, none⟩ = some (.int .i64 p) := cell_of_row _ _ _ _ _ _ hX1
  have x1 : w1.cell? ⟨w.heap.size, 1, none⟩ = some (.int .i64 q) := cell_of_row _ _ _ _ _ _ hX1
  have x2 : w1.cell? ⟨w.heap.size, 2, none⟩ = some (.int .i64 t) := cell_of_row _ _ _ _ _ _ hX1
  have x3 : w1.cell? ⟨w.heap.size, 3, none⟩ = some (.int .i64 k) := cell_of_row _ _ _ _ _ _ hX1
  have hfz := fun (j : Nat) => frozen_of_row _ _ j _ _ hY1
  have n0 : w1.cell? ⟨w.heap.size + 1, 0, none⟩ = some (.int .i64 0) := cell_of_row _ _ _ _ _ _ hY1
  have n1 : w1.cell? ⟨w.heap.size + 1, 1, none⟩ = some (.int .i64 0) := cell_of_row _ _ _ _ _ _ hY1
  have n2 : w1.cell? ⟨w.heap.size + 1, 2, none⟩ = some (.int .u64 0) := cell_of_row _ _ _ _ _ _ hY1
  have n3 : w1.cell? ⟨w.heap.size + 1, 3, none⟩ = some (.string ⟨#[]⟩) := cell_of_row _ _ _ _ _ _ hY1
  have n4 : w1.cell? ⟨w.heap.size + 1, 4, none⟩ = some (.slice none 0 0) := cell_of_row _ _ _ _ _ _ hY1
  have n5 : w1.cell? ⟨w.heap.size + 1, 5, none⟩ = some (.slice none 0 0) := cell_of_row _ _ _ _ _ _ hY1
  clear hX1 hY1
  have hKd := fun W => Lib.hid (refkind_any p q t k hleg W)
  go_wp2_with (go_at_call 68; refine (hKd _).out.mono ?_; rintro e w2 ⟨rfl, hb2⟩; obtain ⟨hc2, hf2, hl2⟩ := bcell hb2; have hz2 := hb2.size; simp only [zsz] at hz2; (have gw : w1.heap.size < w2.heap.size := by omega))
  refine bodyPost_ret (v := .agg #[.int .i64 (kindD t), .int .i64 nn1, .int .u64 uu1, .string s1, .slice B1 m1' d1, .slice B2 m2' d2]) (by simp [results, Try.results33, go_sem, *]) rfl ?_
  refine npost_of (Y := w.heap.size + 1) hK hp htw ?_ (by omega) (by omega) hlw hbw
  (repeat' first | (with_reducible first | exact Tch.refl _ _ _ | refine tch_setY ?_ _ _ | refine Tch.alloc ?_ ?_ _ | refine Tch.drew ?_ | refine Tch.setCell ?_ ?_ _ | refine tch_below (by assumption) ?_ ?_) | omega | (simp only [zsz]; omega) | (simp <;> omega))
set_option maxHeartbeats 8000000 in
set_option maxRecDepth 100000 in
theorem dnode_unsigned_i (h : DSt 76 w lk b o n cap D dp fu a0 0) (p q t k lim d A : Int) (hfu0 : 1 ≤ fu) (hfu1 : fu ≤ 1073741824) (hfd : ¬ dp < d) (hm : mayE n p q t k = 0) (hin : inlineB t = true) (hA : A = p) (hfn : drFn t = fnS 102) (his : drIs t = true) (r : DR (DT × Int))
    (hK : ∀ kd' nn' u' s' ks' l' f', r = .ok (.mk kd' nn' u' s' ks' l', f') → kd' = kindD t)
    (HR : ∀ W a', DSt 76 W lk b o n cap D dp (fu - 1) a' 0 → Calls Try.prog 102 #[.pointer (some ⟨lk, 0, none⟩), plcV p q t k A d] W (VPost 76 0 W lk b o n cap D dp r)) :
    Calls Try.prog 33 #[.pointer (some ⟨lk, 0, none⟩), .agg #[.int .i64 p, .int .i64 q, .int .i64 t, .int .i64 k], .int .i64 lim, .int .i64 d] w (NPost 76 w lk b o n cap D dp r) := by
  obtain ⟨m1, m2, m3, m4, m5, m6, m7, m8, m9⟩ := mayE_zero hm
  have hleg := m1
  obtain ⟨t0, t1⟩ := kindOf_in m1
  have HTB := Lib.hid (show True from trivial)
  have HRR := Lib.hid HR
  have HFN := Lib.hid hfn
  have HIS := Lib.hid his
  have HAA := Lib.hid hA
  have HIN := Lib.hid hin
  clear HR hfn his hA hin m1 m3
  have hlow := h.low
  have hD := h.doc
  obtain ⟨hn1, hn2⟩ := hD.bd
  have hbw := hlow.b
  have hlw := hlow.l
  have Hfu0 := Lib.hid hfu0
  have Hfu1 := Lib.hid hfu1
  clear hfu0 hfu1
  go_enter Try.func33, Try.ntmps33
  go_upto_region 1 with fail
  refine wp_named (fun wn => Touch [lk] w wn ∧ DSt 76 wn lk b o n cap D dp fu a0 0 ∧ w.heap.size + 1 < wn.heap.size ∧ wn.heap.size = w.heap.size + 2 ∧ wn.heap[w.heap.size]? = some (.cells #[.int .i64 p, .int .i64 q, .int .i64 t, .int .i64 k] 39 (0, 0)) ∧ wn.heap[w.heap.size + 1]? = some (.cells (nodeCells 0 0 0 [] (.slice none 0 0) (.slice none 0 0)) 44 (0, 0))) ⟨Touch.quiet zw, h.keep hlow zw (Nat.le_refl _), by simp, by simp, heap_made_1 _ _ _, heap_made_2 _ _ _⟩ ?_
  rintro wn ⟨htn, hKn, hY, hsz, hXb, hYb⟩
  have hX : w.heap.size < wn.heap.size := by omega
  have hnX : w.heap.size ∉ [lk] := by simp; omega
  have hnY : w.heap.size + 1 ∉ [lk] := by simp; omega
  have gln : lk < wn.heap.size := hKn.lkt
  have z0 : wn.cell? ⟨w.heap.size, 0, none⟩ = some (.int .i64 p) := cell_of_row _ _ _ _ _ _ hXb
  have q1 := hKn.c1
  have q2 := hKn.c2
  have hfu0 := Hfu0.out
  have hfu1 := Hfu1.out
  clear Hfu0 Hfu1
  have hin := HIN.out
  have hA := HAA.out
  have hfe : (fu == 0) = false := by simp; omega
  have hwf : IntKind.i64.wrap (fu - 1) = fu - 1 := IntWalk.i64_in _ (by omega)
  have z1 : wn.cell? ⟨w.heap.size, 1, none⟩ = some (.int .i64 q) := cell_of_row _ _ _ _ _ _ hXb
  have z2 : wn.cell? ⟨w.heap.size, 2, none⟩ = some (.int .i64 t) := cell_of_row _ _ _ _ _ _ hXb
  have z3 : wn.cell? ⟨w.heap.size, 3, none⟩ = some (.int .i64 k) := cell_of_row _ _ _ _ _ _ hXb
  have f2 := hKn.fz 2

  go_upto_region 9 with fail
  have hset := (Touch.setCell wn lk 2 (.int .i64 (fu - 1)))
  have hKs : DSt 76 (wn.setCell ⟨lk, 2, none⟩ (.int .i64 (fu - 1))) lk b o n cap D dp (fu - 1) a0 0 := hKn.told hset (heap_setCell_same _ _ _ _ _ _ hKn.row)
  have hzr : ((wn.setCell ⟨lk, 2, none⟩ (.int .i64 (fu - 1))).alloc (.cells (plcCells p q t k p d) 112)).heap[w.heap.size + 2]? = some (.cells (plcCells p q t k p d) 112 (0, 0)) := by
    have := heap_alloc_new (wn.setCell ⟨lk, 2, none⟩ (.int .i64 (fu - 1))) (.cells (plcCells p q t k p d) 112)
    rwa [World.size_setCell, hsz] at this
  refine wp_named (fun wx => DSt 76 wx lk b o n cap D dp (fu - 1) a0 0 ∧ Touch [lk] wn wx ∧ w.heap.size + 2 < wx.heap.size ∧ wx.heap[w.heap.size + 2]? = some (.cells (plcCells p q t k p d) 112 (0, 0))) ⟨hKs.keep hKs.low zw (Nat.le_refl _), hset.trans (Touch.quiet zw), by simp [hsz], hzr⟩ ?_
  clear hset hKs hzr z0 z1 z2 z3 q1 q2 f2
  rintro wx ⟨hKx, htx, hZ, hZb⟩
  have hXx := (htx.block _ hX hnX).trans hXb
  have hYx := (htx.block _ hY hnY).trans hYb
  have z2 : wx.cell? ⟨w.heap.size, 2, none⟩ = some (.int .i64 t) := cell_of_row _ _ _ _ _ _ hXx
  have q4 := hKx.c4
  have glx : lk < wx.heap.size := hKx.lkt
  have htw := htn.trans htx
  have hnZ : w.heap.size + 2 ∉ [lk] := by simp; omega
  have gX : w.heap.size < wx.heap.size := by omega
  have hHI := fun W => Lib.hid (inline_any t W)
  rw [hin] at hHI
  clear htn htx hKn hXb hYb hX hY gln
  clear hin
  go_upto_region 13 with (go_at_call 46; refine ((hHI _).out).mono ?_; rintro e w1 ⟨rfl, hb1⟩; obtain ⟨hc1, hf1, hl1⟩ := bcell hb1; (try simp only [zdz] at hc1 hf1 hl1); have hz1 := hb1.size; (try simp only [zsz] at hz1); (try have g0 : w.heap.size < w1.heap.size := by omega); (try have g1 : w.heap.size + 1 < w1.heap.size := by omega); (try have gl : lk < w1.heap.size := by omega))
  refine wp_named (fun wz => DSt 76 wz lk b o n cap D dp (fu - 1) a0 0 ∧ Touch [lk] w wz ∧ w.heap.size + 2 < wz.heap.size ∧ wz.heap[w.heap.size]? = some (.cells #[.int .i64 p, .int .i64 q, .int .i64 t, .int .i64 k] 39 (0, 0)) ∧ wz.heap[w.heap.size + 1]? = some (.cells (nodeCells 0 0 0 [] (.slice none 0 0) (.slice none 0 0)) 44 (0, 0)) ∧ wz.heap[w.heap.size + 2]? = some (.cells (plcCells p q t k A d) 112 (0, 0))) ⟨hKx.keep hKx.low zw (Nat.le_refl _), htw.trans (Touch.quiet zw), by omega, (hb1.block _ (by omega)).trans hXx, (hb1.block _ (by omega)).trans hYx, (hb1.block _ hZ).trans (hA ▸ hZb)⟩ ?_
  clear hb1 hc1 hf1 hl1 hz1 gl hKx htw hXx hYx hZb z2 q4 hZ
  rintro wz ⟨hKz, htz, hZ, hXz, hYz, hZz⟩
  clear hA
  have hfn := HFN.out
  have his := HIS.out
  have HR := HRR.out
  have hR := Lib.hid HR
  clear HR
  have gX : w.heap.size < wz.heap.size := by omega
  have gln : lk < wz.heap.size := hKz.lkt
  have z2 : wz.cell? ⟨w.heap.size, 2, none⟩ = some (.int .i64 t) := cell_of_row _ _ _ _ _ _ hXz
  go_region_held3 (fun w' => w'.cell? ⟨w.heap.size, 2, none⟩ = some (.int .i64 t)) (first | (with_reducible exact z2) | go_keep) ((go_at_call 66; refine (dreaders_any _).mono ?_; rintro e w1 ⟨rfl, hb1, hmap⟩; obtain ⟨hc1, hf1, hl1⟩ := bcell hb1; simp only [zdz] at hc1 hf1 hl1; have hz1 := hb1.size; simp only [zsz] at hz1; (have gX1 : w.heap.size < w1.heap.size := by omega); have hlk := look_dr t t0 t1 w1 wz.heap.size hmap; rw [hfn, his] at hlk; (try unfold fnS at hlk)))
  go_upto_region 16 with fail
  refine wp_named (fun wv => DSt 76 wv lk b o n cap D dp (fu - 1) a0 0 ∧ Touch [lk] wz wv) ⟨hKz.keep hKz.low zw (Nat.le_refl _), Touch.quiet zw⟩ ?_
  clear hb1 hc1 hf1 hl1 hz1 gX1 hlk hmap z2
  rintro wv ⟨hKv, htv⟩
  have hXv := (htv.block _ gX hnX).trans hXz
  have hYv := (htv.block _ (by omega) hnY).trans hYz
  have hZv := (htv.block _ hZ hnZ).trans hZz
  have hZs := Nat.lt_of_lt_of_le hZ htv.size
  have htw := htz.trans htv
  clear htv htz hXz hYz hZz hKz gX gln
  have z0 : wv.cell? ⟨w.heap.size + 2, 0, none⟩ = some (.int .i64 p) := cell_of_row _ _ _ _ _ _ hZv
  have z1 : wv.cell? ⟨w.heap.size + 2, 1, none⟩ = some (.int .i64 q) := cell_of_row _ _ _ _ _ _ hZv
  have z2 : wv.cell? ⟨w.heap.size + 2, 2, none⟩ = some (.int .i64 t) := cell_of_row _ _ _ _ _ _ hZv
  have z3 : wv.cell? ⟨w.heap.size + 2, 3, none⟩ = some (.int .i64 k) := cell_of_row _ _ _ _ _ _ hZv
  have z4 : wv.cell? ⟨w.heap.size + 2, 4, none⟩ = some (.int .i64 A) := cell_of_row _ _ _ _ _ _ hZv
  have z5 : wv.cell? ⟨w.heap.size + 2, 5, none⟩ = some (.int .i64 d) := cell_of_row _ _ _ _ _ _ hZv
  go_wp2_with fail
  refine (hR.out _ _ hKv).mono ?_
  intro e w1 hp
  obtain ⟨kd1, nn1, uu1, s1, B1, m1', d1, B2, m2', d2, rfl, ht1, hp⟩ := vpost_shape hp
  have hX1 := (ht1.block _ (by omega) hnX).trans hXv
  have hY1 := (ht1.block _ (by omega) hnY).trans hYv
  have hs1 := Nat.lt_of_lt_of_le hZs ht1.size
  have gX1 : w.heap.size < w1.heap.size := by omega
  have gY1 : w.heap.size + 1 < w1.heap.size := by omega
  clear z0 z1 z2 z3 z4 z5 hXv hYv hZv hR
  have x0 : w1.cell? ⟨w.heap.size, 0, none⟩ = some (.int .i64 p) := cell_of_row _ _ _ _ _ _ hX1
  have x1 : w1.cell? ⟨w.heap.size, 1, none⟩ = some (.int .i64 q) := cell_of_row _ _ _ _ _ _ hX1
  have x2 : w1.cell? ⟨w.heap.size, 2, none⟩ = some (.int .i64 t) := cell_of_row _ _ _ _ _ _ hX1
  have x3 : w1.cell? ⟨w.heap.size, 3, none⟩ = some (.int .i64 k) := cell_of_row _ _ _ _ _ _ hX1
  have hfz := fun (j : Nat) => frozen_of_row _ _ j _ _ hY1
  have n0 : w1.cell? ⟨w.heap.size + 1, 0, none⟩ = some (.int .i64 0) := cell_of_row _ _ _ _ _ _ hY1
  have n1 : w1.cell? ⟨w.heap.size + 1, 1, none⟩ = some (.int .i64 0) := cell_of_row _ _ _ _ _ _ hY1
  have n2 : w1.cell? ⟨w.heap.size + 1, 2, none⟩ = some (.int .u64 0) := cell_of_row _ _ _ _ _ _ hY1
  have n3 : w1.cell? ⟨w.heap.size + 1, 3, none⟩ = some (.string ⟨#[]⟩) := cell_of_row _ _ _ _ _ _ hY1
  have n4 : w1.cell? ⟨w.heap.size + 1, 4, none⟩ = some (.slice none 0 0) := cell_of_row _ _ _ _ _ _ hY1
  have n5 : w1.cell? ⟨w.heap.size + 1, 5, none⟩ = some (.slice none 0 0) := cell_of_row _ _ _ _ _ _ hY1
  clear hX1 hY1
  have hKd := fun W => Lib.hid (refkind_any p q t k hleg W)
  go_wp2_with (go_at_call 68; refine (hKd _).out.mono ?_; rintro e w2 ⟨rfl, hb2⟩; obtain ⟨hc2, hf2, hl2⟩ := bcell hb2; have hz2 := hb2.size; simp only [zsz] at hz2; (have gw : w1.heap.size < w2.heap.size := by omega))
  refine bodyPost_ret (v := .agg #[.int .i64 (kindD t), .int .i64 nn1, .int .u64 uu1, .string s1, .slice B1 m1' d1, .slice B2 m2' d2]) (by simp [results, Try.results33, go_sem, *]) rfl ?_
  refine npost_of (Y := w.heap.size + 1) hK hp htw ?_ (by omega) (by omega) hlw hbw
  (repeat' first | (with_reducible first | exact Tch.refl _ _ _ | refine tch_setY ?_ _ _ | refine Tch.alloc ?_ ?_ _ | refine Tch.drew ?_ | refine Tch.setCell ?_ ?_ _ | refine tch_below (by assumption) ?_ ?_) | omega | (simp only [zsz]; omega) | (simp <;> omega))
end
end Go.Proofs.Ytmpflnlajakibaa
