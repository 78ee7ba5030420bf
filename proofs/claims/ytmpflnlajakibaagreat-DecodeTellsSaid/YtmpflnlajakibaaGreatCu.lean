/- The walk of the reference's Node: the leaves. -/
import Derived.Test.YtmpflnlajakibaaGreatCs
namespace Go.Proofs.YtmpflnlajakibaaGreat
set_option linter.unusedVariables false
set_option linter.unusedSimpArgs false
set_option linter.unusedSectionVars false
open Go.RowKit
section
variable {w : World} {lk b o n cap : Nat} {D : List UInt8} {dp fu a0 : Int}
set_option maxHeartbeats 8000000 in
set_option maxRecDepth 100000 in
theorem rnode_6 (h : DSt 49 w lk b o n cap D dp fu a0 0) (p q k lim d : Int) (A : Int) (hfu0 : 1 ≤ fu ∧ fu ≤ 1073741824) (hfu1 : ¬ dp < d) (hm : mayE n p q 6 k = 0) (htb : tgtB D p q 6 k lim = true) (hA : A = p - loadV D p q) (r : DR (DT × Int)) (hr : r = (if splaceE D p q 6 k ≠ 0 then .error (A, splaceE D p q 6 k) else .ok (.mk (kindD 6) (intV D p q 6 k) (0) [] [] [], fu - 1))) :
    Calls Tryz.prog 17 #[.pointer (some ⟨lk, 0, none⟩), .agg #[.int .i64 p, .int .i64 q, .int .i64 6, .int .i64 k], .int .i64 lim, .int .i64 d] w (NPost 49 w lk b o n cap D dp r) := by
  obtain ⟨m1, m2, m3, m4, m5, m6, m7, m8, m9⟩ := mayE_zero hm
  have H_in : Hid (inlineB 6 = false) := Lib.hid rfl
  have H_tb := Lib.hid htb
  have H_A := Lib.hid hA
  have H_r := Lib.hid hr
  clear htb hA hr
  have HKd := fun W => Lib.hid (rkind_any p q 6 k m1 W)
  generalize kindD 6 = kd at *
  have HR := Lib.hid (fun W (hW : Doc W b o n cap D) => rint_any b o n cap D W p q 6 k hW (by omega))
  generalize splaceE D p q 6 k = E at *; generalize intV D p q 6 k = v at *
  have hlow := h.low
  have hD := h.doc
  obtain ⟨hn1, hn2⟩ := hD.bd
  have hbw := hlow.b
  have hlw := hlow.l
  have Hfu0 := Lib.hid hfu0
  have Hfu1 := Lib.hid hfu1
  clear hfu0 hfu1
  go_enter Tryz.func17, Tryz.ntmps17
  go_upto_region 1 with fail
  refine wp_named (fun wn => Touch [lk] w wn ∧ DSt 49 wn lk b o n cap D dp fu a0 0 ∧ wn.heap.size = w.heap.size + 2 ∧ wn.heap[w.heap.size]? = some (.cells #[.int .i64 p, .int .i64 q, .int .i64 6, .int .i64 k] 24 (0, 0)) ∧ wn.heap[w.heap.size + 1]? = some (.cells #[.int .i64 0, .int .i64 0, .int .u64 0, .string ⟨#[]⟩, .slice none 0 0, .slice none 0 0] 31 (0, 0))) ⟨Touch.quiet zw, h.keep hlow zw (Nat.le_refl _), by simp, heap_made_1 _ _ _, heap_made_2 _ _ _⟩ ?_
  rintro wn ⟨htn, hKn, hsz, hXb, hYb⟩
  have hX : w.heap.size < wn.heap.size := by omega
  have hY : w.heap.size + 1 < wn.heap.size := by omega
  have hnX : w.heap.size ∉ [lk] := by simp; omega
  have hnY : w.heap.size + 1 ∉ [lk] := by simp; omega
  have gln : lk < wn.heap.size := hKn.lkt
  have z0 : wn.cell? ⟨w.heap.size, 0, none⟩ = some (.int .i64 p) := cell_of_row _ _ _ _ _ _ hXb
  have q1 := hKn.c1
  have q2 := hKn.c2
  have q4 := hKn.c4
  have hfu0 := Hfu0.out
  have hfu1 := Hfu1.out
  clear Hfu0 Hfu1
  have hfl : ¬ fu < 1 := by omega
  have hwf : IntKind.i64.wrap (fu - 1) = fu - 1 := IntWalk.i64_in _ (by omega)
  have f2 := hKn.fz 2
  have hset := Touch.setCell wn lk 2 (.int .i64 (fu - 1))
  have hK2 : DSt 49 (wn.setCell ⟨lk, 2, none⟩ (.int .i64 (fu - 1))) lk b o n cap D dp (fu - 1) a0 0 := hKn.told hset (heap_setCell_same _ _ _ _ _ _ hKn.row)
  go_upto_region 4 with fail
  refine wp_named (fun wx => DSt 49 wx lk b o n cap D dp (fu - 1) a0 0 ∧ Touch [lk] w wx ∧ wx.heap[w.heap.size]? = some (.cells #[.int .i64 p, .int .i64 q, .int .i64 6, .int .i64 k] 24 (0, 0)) ∧ wx.heap[w.heap.size + 1]? = some (.cells #[.int .i64 0, .int .i64 0, .int .u64 0, .string ⟨#[]⟩, .slice none 0 0, .slice none 0 0] 31 (0, 0))) ⟨hK2, htn.trans hset, touch_row hset hXb hnX, touch_row hset hYb hnY⟩ ?_
  clear hKn htn hXb hYb hX hY gln z0 q1 q2 q4 f2 hset hK2
  rintro wx ⟨hKx, htx, hXx, hYx⟩
  have x0 : wx.cell? ⟨w.heap.size, 0, none⟩ = some (.int .i64 p) := cell_of_row _ _ _ _ _ _ hXx
  have r1 := hKx.c1
  have r4 := hKx.c4
  have z1 : wx.cell? ⟨w.heap.size, 1, none⟩ = some (.int .i64 q) := cell_of_row _ _ _ _ _ _ hXx
  have z2 : wx.cell? ⟨w.heap.size, 2, none⟩ = some (.int .i64 6) := cell_of_row _ _ _ _ _ _ hXx
  have z3 : wx.cell? ⟨w.heap.size, 3, none⟩ = some (.int .i64 k) := cell_of_row _ _ _ _ _ _ hXx
  have gXx := (Array.getElem?_eq_some_iff.1 hXx).1
  have gYx := (Array.getElem?_eq_some_iff.1 hYx).1
  go_upto_region 9 with (go_at_call 40; refine ((HKd _).out).mono ?_; rintro e w1 ⟨rfl, hb1⟩; obtain ⟨hc1, hf1, hl1⟩ := bcell hb1; (try simp only [zdz] at hc1 hf1 hl1); have hz1 := hb1.size; (try simp only [zsz] at hz1); (try have g0 : w.heap.size < w1.heap.size := by omega); (try have g1 : w.heap.size + 1 < w1.heap.size := by omega); (try have gl : lk < w1.heap.size := by omega))
  refine wp_named (fun wy => DSt 49 wy lk b o n cap D dp (fu - 1) a0 0 ∧ Touch [lk] w wy ∧ w.heap.size + 1 < w1.heap.size ∧ wy.heap[w.heap.size]? = some (.cells #[.int .i64 p, .int .i64 q, .int .i64 6, .int .i64 k] 24 (0, 0)) ∧ wy.heap[w.heap.size + 1]? = some (.cells #[.int .i64 0, .int .i64 0, .int .u64 0, .string ⟨#[]⟩, .slice none 0 0, .slice none 0 0] 31 (0, 0)) ∧ wy.heap[w1.heap.size]? = some (.cells #[.int .i64 kd, .int .i64 0, .int .u64 0, .string ⟨#[]⟩, .slice none 0 0, .slice none 0 0] 31 (0, 0))) ⟨hKx.keep hKx.low zw (Nat.le_refl _), htx.trans (Touch.quiet zw), by omega, (((Below.refl w1.heap.size w1).alloc (Nat.le_refl _) _).block _ (by omega)).trans ((hb1.block _ gXx).trans hXx), (((Below.refl w1.heap.size w1).alloc (Nat.le_refl _) _).block _ (by omega)).trans ((hb1.block _ gYx).trans hYx), heap_alloc_new _ _⟩ ?_
  clear hb1 hc1 hf1 hl1 hz1 gl hKx htx hXx hYx x0 r1 r4 z1 z2 z3 gXx gYx
  generalize w1.heap.size = Z
  rintro wy ⟨hKy, hty, hZ0, hXy, hYy, hZy⟩
  have hnZ : Z ∉ [lk] := by simp; omega
  have x0 : wy.cell? ⟨w.heap.size, 0, none⟩ = some (.int .i64 p) := cell_of_row _ _ _ _ _ _ hXy
  have x1 : wy.cell? ⟨w.heap.size, 1, none⟩ = some (.int .i64 q) := cell_of_row _ _ _ _ _ _ hXy
  have x2 : wy.cell? ⟨w.heap.size, 2, none⟩ = some (.int .i64 6) := cell_of_row _ _ _ _ _ _ hXy
  have x3 : wy.cell? ⟨w.heap.size, 3, none⟩ = some (.int .i64 k) := cell_of_row _ _ _ _ _ _ hXy
  have r4 := hKy.c4
  have hin := H_in.out
  have HI := fun W => Lib.hid (rinline_any 6 W)
  rw [hin] at HI
  clear hin
  go_wp2_with (go_at_call 41; refine ((HI _).out).mono ?_; rintro e w1 ⟨rfl, rfl⟩)
  refine (rdtarget hKy p q 6 k lim m4 m9 m2 (refB_of m1 H_in.out) m7 m8).mono ?_
  rintro e w1 ⟨rfl, hv1, ht1⟩
  have hX1 := touch_row ht1 hXy hnX
  have hY1 := touch_row ht1 hYy hnY
  have hZ1 := touch_row ht1 hZy hnZ
  have htw := hty.trans ht1
  clear x0 x1 x2 x3 r4 hKy hty hXy hYy hZy ht1
  have htb := H_tb.out
  rw [show tgtE D p q 6 k lim 0 = 0 by simp [tgtE, htb], show tgtA D p q 6 k lim 0 a0 = a0 by simp [tgtA, htb]] at hv1
  have hXv : tgtX D p q 6 k lim = A := by rw [H_A.out]; simp [tgtX, htb]
  have r4 := hv1.c4
  clear htb
  go_upto_region 15 with fail
  refine wp_named (fun wv => DSt 49 wv lk b o n cap D dp (fu - 1) a0 0 ∧ Touch [lk] w wv ∧ wv.heap[w.heap.size]? = some (.cells #[.int .i64 p, .int .i64 q, .int .i64 6, .int .i64 k] 24 (0, 0)) ∧ wv.heap[w.heap.size + 1]? = some (.cells #[.int .i64 0, .int .i64 0, .int .u64 0, .string ⟨#[]⟩, .slice none 0 0, .slice none 0 0] 31 (0, 0)) ∧ wv.heap[Z]? = some (.cells #[.int .i64 kd, .int .i64 0, .int .u64 0, .string ⟨#[]⟩, .slice none 0 0, .slice none 0 0] 31 (0, 0))) ⟨hv1, htw, hX1, hY1, hZ1⟩ ?_
  clear hv1 htw hX1 hY1 hZ1 r4 hXv
  rintro wv ⟨hKv, htv, hXv, hYv, hZv⟩
  have x0 : wv.cell? ⟨w.heap.size, 0, none⟩ = some (.int .i64 p) := cell_of_row _ _ _ _ _ _ hXv
  have x1 : wv.cell? ⟨w.heap.size, 1, none⟩ = some (.int .i64 q) := cell_of_row _ _ _ _ _ _ hXv
  have x2 : wv.cell? ⟨w.heap.size, 2, none⟩ = some (.int .i64 6) := cell_of_row _ _ _ _ _ _ hXv
  have x3 : wv.cell? ⟨w.heap.size, 3, none⟩ = some (.int .i64 k) := cell_of_row _ _ _ _ _ _ hXv
  have x4 := hKv.c0
  have gln : lk < wv.heap.size := hKv.lkt
  have gX := (Array.getElem?_eq_some_iff.1 hXv).1
  have gY := (Array.getElem?_eq_some_iff.1 hYv).1
  have gZ := (Array.getElem?_eq_some_iff.1 hZv).1
  have hDv := hKv.doc
  go_upto_region 21 with fail
  have e0 : wv.cell? ⟨Z, 0, none⟩ = some (.int .i64 kd) := cell_of_row _ _ _ _ _ _ hZv
  have e1 : wv.cell? ⟨Z, 1, none⟩ = some (.int .i64 0) := cell_of_row _ _ _ _ _ _ hZv
  have e2 : wv.cell? ⟨Z, 2, none⟩ = some (.int .u64 0) := cell_of_row _ _ _ _ _ _ hZv
  have e3 : wv.cell? ⟨Z, 3, none⟩ = some (.string ⟨#[]⟩) := cell_of_row _ _ _ _ _ _ hZv
  have e4 : wv.cell? ⟨Z, 4, none⟩ = some (.slice none 0 0) := cell_of_row _ _ _ _ _ _ hZv
  have e5 : wv.cell? ⟨Z, 5, none⟩ = some (.slice none 0 0) := cell_of_row _ _ _ _ _ _ hZv
  have hfze := fun (j : Nat) => frozen_of_row _ _ j _ _ hZv
  go_region_held3 (fun w' => w'.cell? ⟨w.heap.size, 0, none⟩ = some (.int .i64 p) ∧ w'.cell? ⟨w.heap.size, 1, none⟩ = some (.int .i64 q) ∧ w'.cell? ⟨w.heap.size, 2, none⟩ = some (.int .i64 6) ∧ w'.cell? ⟨w.heap.size, 3, none⟩ = some (.int .i64 k) ∧ w'.cell? ⟨lk, 0, none⟩ = some (.slice (some ⟨b, o, none⟩) n cap)) (first | (with_reducible exact ⟨x0, x1, x2, x3, x4⟩) | (refine ⟨?_, ?_, ?_, ?_, ?_⟩ <;> go_simp)) (((go_at_call 43; refine (HR.out _ (hDv.below zw)).mono ?_; rintro e w1 ⟨rfl, hb1⟩; obtain ⟨hc1, hf1, hl1⟩ := bcell hb1; (try simp only [zdz] at hc1 hf1 hl1); have hz1 := hb1.size; (try simp only [zsz] at hz1); (try have g0 : w.heap.size < w1.heap.size := by omega); (try have g1 : w.heap.size + 1 < w1.heap.size := by omega); (try have gl : lk < w1.heap.size := by omega))))
  go_upto_region 31 with fail
  refine wp_named (fun wz => DSt 49 wz lk b o n cap D dp (fu - 1) a0 0 ∧ Touch [lk] w wz ∧ wz.heap[w.heap.size + 1]? = some (.cells #[.int .i64 0, .int .i64 0, .int .u64 0, .string ⟨#[]⟩, .slice none 0 0, .slice none 0 0] 31 (0, 0)) ∧ wz.heap[Z]? = some (.cells #[.int .i64 kd, .int .i64 v, .int .u64 0, .string ⟨#[]⟩, .slice none 0 0, .slice none 0 0] 31 (0, 0))) ⟨(hKv.keep (w' := w1) hKv.low zw (Nat.le_refl _)).still (Touch.setCell _ _ _ _) (by simp; omega) (by simp; omega), Tch.touch (((htv.trans (Touch.quiet (by exact zw : Below wv.heap.size wv w1))).tch (Nat.le_refl _)).setCell (show w.heap.size ≤ Z by omega) _), touch_row (Touch.setCell _ _ _ _) ((hb1.block _ gY).trans hYv) (by simp; omega), (heap_setCell_same _ _ _ _ _ _ ((hb1.block _ gZ).trans hZv)).trans rfl⟩ ?_
  clear hb1 hc1 hf1 hl1 hz1 gl x0 x1 x2 x3 x4 e0 e1 e2 e3 e4 e5 hfze hKv htv hXv hYv hZv gX gY gZ gln hDv HR
  rintro wz ⟨hKz, htz, hYz, hZz⟩
  by_cases hE : E = 0
  rotate_left
  · have hr := H_r.out
    rw [if_pos hE] at hr
    clear H_r
    subst hr
    have hE1 : (E != 0) = true := by simpa using hE
    have HE := Lib.hid hE
    clear hE
    go_wp2_with fail
    refine (rdtell0 hKz A E).mono ?_
    rintro e w1 ⟨rfl, hv1, ht1⟩
    have hY1 := touch_row ht1 hYz hnY
    have hZ1 := touch_row ht1 hZz hnZ
    have n0 : w1.cell? ⟨w.heap.size + 1, 0, none⟩ = some (.int .i64 0) := cell_of_row _ _ _ _ _ _ hY1
    have n1 : w1.cell? ⟨w.heap.size + 1, 1, none⟩ = some (.int .i64 0) := cell_of_row _ _ _ _ _ _ hY1
    have n2 : w1.cell? ⟨w.heap.size + 1, 2, none⟩ = some (.int .u64 0) := cell_of_row _ _ _ _ _ _ hY1
    have n3 : w1.cell? ⟨w.heap.size + 1, 3, none⟩ = some (.string ⟨#[]⟩) := cell_of_row _ _ _ _ _ _ hY1
    have n4 : w1.cell? ⟨w.heap.size + 1, 4, none⟩ = some (.slice none 0 0) := cell_of_row _ _ _ _ _ _ hY1
    have n5 : w1.cell? ⟨w.heap.size + 1, 5, none⟩ = some (.slice none 0 0) := cell_of_row _ _ _ _ _ _ hY1
    have hfz := fun (j : Nat) => frozen_of_row _ _ j _ _ hY1
    have e0 : w1.cell? ⟨Z, 0, none⟩ = some (.int .i64 kd) := cell_of_row _ _ _ _ _ _ hZ1
    have e1 : w1.cell? ⟨Z, 1, none⟩ = some (.int .i64 v) := cell_of_row _ _ _ _ _ _ hZ1
    have e2 : w1.cell? ⟨Z, 2, none⟩ = some (.int .u64 0) := cell_of_row _ _ _ _ _ _ hZ1
    have e3 : w1.cell? ⟨Z, 3, none⟩ = some (.string ⟨#[]⟩) := cell_of_row _ _ _ _ _ _ hZ1
    have e4 : w1.cell? ⟨Z, 4, none⟩ = some (.slice none 0 0) := cell_of_row _ _ _ _ _ _ hZ1
    have e5 : w1.cell? ⟨Z, 5, none⟩ = some (.slice none 0 0) := cell_of_row _ _ _ _ _ _ hZ1
    have hfze := fun (j : Nat) => frozen_of_row _ _ j _ _ hZ1
    have hYZ : Z ≠ w.heap.size + 1 := by omega
    clear hY1 hZ1
    go_wp2_with fail
    refine bodyPost_ret (v := .agg #[.int .i64 kd, .int .i64 v, .int .u64 0, .string ⟨#[]⟩, .slice none 0 0, .slice none 0 0]) (by simp [results, Tryz.results17, go_sem, *]) rfl ?_
    exact ⟨kd, _, _, _, none, 0, 0, none, 0, 0, _, rfl, HE.out, hv1.still (touch6 _ _ _ _ _ _) (by simp; omega) (by simp; omega), Tch.touch (tch_six ((htz.trans ht1).tch (Nat.le_refl _)) (by omega))⟩
  · have hr := H_r.out
    rw [if_neg (by simpa using hE)] at hr
    clear H_r
    subst hr
    subst hE
    have n0 : wz.cell? ⟨w.heap.size + 1, 0, none⟩ = some (.int .i64 0) := cell_of_row _ _ _ _ _ _ hYz
    have n1 : wz.cell? ⟨w.heap.size + 1, 1, none⟩ = some (.int .i64 0) := cell_of_row _ _ _ _ _ _ hYz
    have n2 : wz.cell? ⟨w.heap.size + 1, 2, none⟩ = some (.int .u64 0) := cell_of_row _ _ _ _ _ _ hYz
    have n3 : wz.cell? ⟨w.heap.size + 1, 3, none⟩ = some (.string ⟨#[]⟩) := cell_of_row _ _ _ _ _ _ hYz
    have n4 : wz.cell? ⟨w.heap.size + 1, 4, none⟩ = some (.slice none 0 0) := cell_of_row _ _ _ _ _ _ hYz
    have n5 : wz.cell? ⟨w.heap.size + 1, 5, none⟩ = some (.slice none 0 0) := cell_of_row _ _ _ _ _ _ hYz
    have hfz := fun (j : Nat) => frozen_of_row _ _ j _ _ hYz
    have e0 : wz.cell? ⟨Z, 0, none⟩ = some (.int .i64 kd) := cell_of_row _ _ _ _ _ _ hZz
    have e1 : wz.cell? ⟨Z, 1, none⟩ = some (.int .i64 v) := cell_of_row _ _ _ _ _ _ hZz
    have e2 : wz.cell? ⟨Z, 2, none⟩ = some (.int .u64 0) := cell_of_row _ _ _ _ _ _ hZz
    have e3 : wz.cell? ⟨Z, 3, none⟩ = some (.string ⟨#[]⟩) := cell_of_row _ _ _ _ _ _ hZz
    have e4 : wz.cell? ⟨Z, 4, none⟩ = some (.slice none 0 0) := cell_of_row _ _ _ _ _ _ hZz
    have e5 : wz.cell? ⟨Z, 5, none⟩ = some (.slice none 0 0) := cell_of_row _ _ _ _ _ _ hZz
    have hfze := fun (j : Nat) => frozen_of_row _ _ j _ _ hZz
    have hYZ : Z ≠ w.heap.size + 1 := by omega
    clear hYz hZz
    go_wp2_with fail
    refine bodyPost_ret (v := .agg #[.int .i64 kd, .int .i64 v, .int .u64 0, .string ⟨#[]⟩, .slice none 0 0, .slice none 0 0]) (by simp [results, Tryz.results17, go_sem, *]) rfl ?_
    exact ⟨.slice none 0 0, .slice none 0 0, [], [], a0, rfl, ⟨rfl, .inl ⟨rfl, rfl⟩⟩, ⟨rfl, .inl ⟨rfl, rfl⟩⟩, by rw [NReps]; exact ⟨rfl, rfl⟩, by simp [blkL, Value.ownBlock], by simp [blkL, Value.ownBlock], hKz.still (touch6 _ _ _ _ _ _) (by simp; omega) (by simp; omega), Tch.touch (tch_six (htz.tch (Nat.le_refl _)) (by omega))⟩
set_option maxHeartbeats 8000000 in
set_option maxRecDepth 100000 in
theorem rnode_7 (h : DSt 49 w lk b o n cap D dp fu a0 0) (p q k lim d : Int) (A : Int) (hfu0 : 1 ≤ fu ∧ fu ≤ 1073741824) (hfu1 : ¬ dp < d) (hm : mayE n p q 7 k = 0) (htb : tgtB D p q 7 k lim = true) (hA : A = p - loadV D p q) (r : DR (DT × Int)) (hr : r = (if splaceE D p q 7 k ≠ 0 then .error (A, splaceE D p q 7 k) else .ok (.mk (kindD 7) (0) (uintV D p q 7 k) [] [] [], fu - 1))) :
    Calls Tryz.prog 17 #[.pointer (some ⟨lk, 0, none⟩), .agg #[.int .i64 p, .int .i64 q, .int .i64 7, .int .i64 k], .int .i64 lim, .int .i64 d] w (NPost 49 w lk b o n cap D dp r) := by
  obtain ⟨m1, m2, m3, m4, m5, m6, m7, m8, m9⟩ := mayE_zero hm
  have H_in : Hid (inlineB 7 = false) := Lib.hid rfl
  have H_tb := Lib.hid htb
  have H_A := Lib.hid hA
  have H_r := Lib.hid hr
  clear htb hA hr
  have HKd := fun W => Lib.hid (rkind_any p q 7 k m1 W)
  generalize kindD 7 = kd at *
  have HR := Lib.hid (fun W (hW : Doc W b o n cap D) => ruint_any b o n cap D W p q 7 k hW (by omega))
  generalize splaceE D p q 7 k = E at *; generalize uintV D p q 7 k = v at *
  have hlow := h.low
  have hD := h.doc
  obtain ⟨hn1, hn2⟩ := hD.bd
  have hbw := hlow.b
  have hlw := hlow.l
  have Hfu0 := Lib.hid hfu0
  have Hfu1 := Lib.hid hfu1
  clear hfu0 hfu1
  go_enter Tryz.func17, Tryz.ntmps17
  go_upto_region 1 with fail
  refine wp_named (fun wn => Touch [lk] w wn ∧ DSt 49 wn lk b o n cap D dp fu a0 0 ∧ wn.heap.size = w.heap.size + 2 ∧ wn.heap[w.heap.size]? = some (.cells #[.int .i64 p, .int .i64 q, .int .i64 7, .int .i64 k] 24 (0, 0)) ∧ wn.heap[w.heap.size + 1]? = some (.cells #[.int .i64 0, .int .i64 0, .int .u64 0, .string ⟨#[]⟩, .slice none 0 0, .slice none 0 0] 31 (0, 0))) ⟨Touch.quiet zw, h.keep hlow zw (Nat.le_refl _), by simp, heap_made_1 _ _ _, heap_made_2 _ _ _⟩ ?_
  rintro wn ⟨htn, hKn, hsz, hXb, hYb⟩
  have hX : w.heap.size < wn.heap.size := by omega
  have hY : w.heap.size + 1 < wn.heap.size := by omega
  have hnX : w.heap.size ∉ [lk] := by simp; omega
  have hnY : w.heap.size + 1 ∉ [lk] := by simp; omega
  have gln : lk < wn.heap.size := hKn.lkt
  have z0 : wn.cell? ⟨w.heap.size, 0, none⟩ = some (.int .i64 p) := cell_of_row _ _ _ _ _ _ hXb
  have q1 := hKn.c1
  have q2 := hKn.c2
  have q4 := hKn.c4
  have hfu0 := Hfu0.out
  have hfu1 := Hfu1.out
  clear Hfu0 Hfu1
  have hfl : ¬ fu < 1 := by omega
  have hwf : IntKind.i64.wrap (fu - 1) = fu - 1 := IntWalk.i64_in _ (by omega)
  have f2 := hKn.fz 2
  have hset := Touch.setCell wn lk 2 (.int .i64 (fu - 1))
  have hK2 : DSt 49 (wn.setCell ⟨lk, 2, none⟩ (.int .i64 (fu - 1))) lk b o n cap D dp (fu - 1) a0 0 := hKn.told hset (heap_setCell_same _ _ _ _ _ _ hKn.row)
  go_upto_region 4 with fail
  refine wp_named (fun wx => DSt 49 wx lk b o n cap D dp (fu - 1) a0 0 ∧ Touch [lk] w wx ∧ wx.heap[w.heap.size]? = some (.cells #[.int .i64 p, .int .i64 q, .int .i64 7, .int .i64 k] 24 (0, 0)) ∧ wx.heap[w.heap.size + 1]? = some (.cells #[.int .i64 0, .int .i64 0, .int .u64 0, .string ⟨#[]⟩, .slice none 0 0, .slice none 0 0] 31 (0, 0))) ⟨hK2, htn.trans hset, touch_row hset hXb hnX, touch_row hset hYb hnY⟩ ?_
  clear hKn htn hXb hYb hX hY gln z0 q1 q2 q4 f2 hset hK2
  rintro wx ⟨hKx, htx, hXx, hYx⟩
  have x0 : wx.cell? ⟨w.heap.size, 0, none⟩ = some (.int .i64 p) := cell_of_row _ _ _ _ _ _ hXx
  have r1 := hKx.c1
  have r4 := hKx.c4
  have z1 : wx.cell? ⟨w.heap.size, 1, none⟩ = some (.int .i64 q) := cell_of_row _ _ _ _ _ _ hXx
  have z2 : wx.cell? ⟨w.heap.size, 2, none⟩ = some (.int .i64 7) := cell_of_row _ _ _ _ _ _ hXx
  have z3 : wx.cell? ⟨w.heap.size, 3, none⟩ = some (.int .i64 k) := cell_of_row _ _ _ _ _ _ hXx
  have gXx := (Array.getElem?_eq_some_iff.1 hXx).1
  have gYx := (Array.getElem?_eq_some_iff.1 hYx).1
  go_upto_region 9 with (go_at_call 40; refine ((HKd _).out).mono ?_; rintro e w1 ⟨rfl, hb1⟩; obtain ⟨hc1, hf1, hl1⟩ := bcell hb1; (try simp only [zdz] at hc1 hf1 hl1); have hz1 := hb1.size; (try simp only [zsz] at hz1); (try have g0 : w.heap.size < w1.heap.size := by omega); (try have g1 : w.heap.size + 1 < w1.heap.size := by omega); (try have gl : lk < w1.heap.size := by omega))
  refine wp_named (fun wy => DSt 49 wy lk b o n cap D dp (fu - 1) a0 0 ∧ Touch [lk] w wy ∧ w.heap.size + 1 < w1.heap.size ∧ wy.heap[w.heap.size]? = some (.cells #[.int .i64 p, .int .i64 q, .int .i64 7, .int .i64 k] 24 (0, 0)) ∧ wy.heap[w.heap.size + 1]? = some (.cells #[.int .i64 0, .int .i64 0, .int .u64 0, .string ⟨#[]⟩, .slice none 0 0, .slice none 0 0] 31 (0, 0)) ∧ wy.heap[w1.heap.size]? = some (.cells #[.int .i64 kd, .int .i64 0, .int .u64 0, .string ⟨#[]⟩, .slice none 0 0, .slice none 0 0] 31 (0, 0))) ⟨hKx.keep hKx.low zw (Nat.le_refl _), htx.trans (Touch.quiet zw), by omega, (((Below.refl w1.heap.size w1).alloc (Nat.le_refl _) _).block _ (by omega)).trans ((hb1.block _ gXx).trans hXx), (((Below.refl w1.heap.size w1).alloc (Nat.le_refl _) _).block _ (by omega)).trans ((hb1.block _ gYx).trans hYx), heap_alloc_new _ _⟩ ?_
  clear hb1 hc1 hf1 hl1 hz1 gl hKx htx hXx hYx x0 r1 r4 z1 z2 z3 gXx gYx
  generalize w1.heap.size = Z
  rintro wy ⟨hKy, hty, hZ0, hXy, hYy, hZy⟩
  have hnZ : Z ∉ [lk] := by simp; omega
  have x0 : wy.cell? ⟨w.heap.size, 0, none⟩ = some (.int .i64 p) := cell_of_row _ _ _ _ _ _ hXy
  have x1 : wy.cell? ⟨w.heap.size, 1, none⟩ = some (.int .i64 q) := cell_of_row _ _ _ _ _ _ hXy
  have x2 : wy.cell? ⟨w.heap.size, 2, none⟩ = some (.int .i64 7) := cell_of_row _ _ _ _ _ _ hXy
  have x3 : wy.cell? ⟨w.heap.size, 3, none⟩ = some (.int .i64 k) := cell_of_row _ _ _ _ _ _ hXy
  have r4 := hKy.c4
  have hin := H_in.out
  have HI := fun W => Lib.hid (rinline_any 7 W)
  rw [hin] at HI
  clear hin
  go_wp2_with (go_at_call 41; refine ((HI _).out).mono ?_; rintro e w1 ⟨rfl, rfl⟩)
  refine (rdtarget hKy p q 7 k lim m4 m9 m2 (refB_of m1 H_in.out) m7 m8).mono ?_
  rintro e w1 ⟨rfl, hv1, ht1⟩
  have hX1 := touch_row ht1 hXy hnX
  have hY1 := touch_row ht1 hYy hnY
  have hZ1 := touch_row ht1 hZy hnZ
  have htw := hty.trans ht1
  clear x0 x1 x2 x3 r4 hKy hty hXy hYy hZy ht1
  have htb := H_tb.out
  rw [show tgtE D p q 7 k lim 0 = 0 by simp [tgtE, htb], show tgtA D p q 7 k lim 0 a0 = a0 by simp [tgtA, htb]] at hv1
  have hXv : tgtX D p q 7 k lim = A := by rw [H_A.out]; simp [tgtX, htb]
  have r4 := hv1.c4
  clear htb
  go_upto_region 15 with fail
  refine wp_named (fun wv => DSt 49 wv lk b o n cap D dp (fu - 1) a0 0 ∧ Touch [lk] w wv ∧ wv.heap[w.heap.size]? = some (.cells #[.int .i64 p, .int .i64 q, .int .i64 7, .int .i64 k] 24 (0, 0)) ∧ wv.heap[w.heap.size + 1]? = some (.cells #[.int .i64 0, .int .i64 0, .int .u64 0, .string ⟨#[]⟩, .slice none 0 0, .slice none 0 0] 31 (0, 0)) ∧ wv.heap[Z]? = some (.cells #[.int .i64 kd, .int .i64 0, .int .u64 0, .string ⟨#[]⟩, .slice none 0 0, .slice none 0 0] 31 (0, 0))) ⟨hv1, htw, hX1, hY1, hZ1⟩ ?_
  clear hv1 htw hX1 hY1 hZ1 r4 hXv
  rintro wv ⟨hKv, htv, hXv, hYv, hZv⟩
  have x0 : wv.cell? ⟨w.heap.size, 0, none⟩ = some (.int .i64 p) := cell_of_row _ _ _ _ _ _ hXv
  have x1 : wv.cell? ⟨w.heap.size, 1, none⟩ = some (.int .i64 q) := cell_of_row _ _ _ _ _ _ hXv
  have x2 : wv.cell? ⟨w.heap.size, 2, none⟩ = some (.int .i64 7) := cell_of_row _ _ _ _ _ _ hXv
  have x3 : wv.cell? ⟨w.heap.size, 3, none⟩ = some (.int .i64 k) := cell_of_row _ _ _ _ _ _ hXv
  have x4 := hKv.c0
  have gln : lk < wv.heap.size := hKv.lkt
  have gX := (Array.getElem?_eq_some_iff.1 hXv).1
  have gY := (Array.getElem?_eq_some_iff.1 hYv).1
  have gZ := (Array.getElem?_eq_some_iff.1 hZv).1
  have hDv := hKv.doc
  go_upto_region 24 with fail
  have e0 : wv.cell? ⟨Z, 0, none⟩ = some (.int .i64 kd) := cell_of_row _ _ _ _ _ _ hZv
  have e1 : wv.cell? ⟨Z, 1, none⟩ = some (.int .i64 0) := cell_of_row _ _ _ _ _ _ hZv
  have e2 : wv.cell? ⟨Z, 2, none⟩ = some (.int .u64 0) := cell_of_row _ _ _ _ _ _ hZv
  have e3 : wv.cell? ⟨Z, 3, none⟩ = some (.string ⟨#[]⟩) := cell_of_row _ _ _ _ _ _ hZv
  have e4 : wv.cell? ⟨Z, 4, none⟩ = some (.slice none 0 0) := cell_of_row _ _ _ _ _ _ hZv
  have e5 : wv.cell? ⟨Z, 5, none⟩ = some (.slice none 0 0) := cell_of_row _ _ _ _ _ _ hZv
  have hfze := fun (j : Nat) => frozen_of_row _ _ j _ _ hZv
  go_region_held3 (fun w' => w'.cell? ⟨w.heap.size, 0, none⟩ = some (.int .i64 p) ∧ w'.cell? ⟨w.heap.size, 1, none⟩ = some (.int .i64 q) ∧ w'.cell? ⟨w.heap.size, 2, none⟩ = some (.int .i64 7) ∧ w'.cell? ⟨w.heap.size, 3, none⟩ = some (.int .i64 k) ∧ w'.cell? ⟨lk, 0, none⟩ = some (.slice (some ⟨b, o, none⟩) n cap)) (first | (with_reducible exact ⟨x0, x1, x2, x3, x4⟩) | (refine ⟨?_, ?_, ?_, ?_, ?_⟩ <;> go_simp)) (((go_at_call 44; refine (HR.out _ (hDv.below zw)).mono ?_; rintro e w1 ⟨rfl, hb1⟩; obtain ⟨hc1, hf1, hl1⟩ := bcell hb1; (try simp only [zdz] at hc1 hf1 hl1); have hz1 := hb1.size; (try simp only [zsz] at hz1); (try have g0 : w.heap.size < w1.heap.size := by omega); (try have g1 : w.heap.size + 1 < w1.heap.size := by omega); (try have gl : lk < w1.heap.size := by omega))))
  go_upto_region 31 with fail
  refine wp_named (fun wz => DSt 49 wz lk b o n cap D dp (fu - 1) a0 0 ∧ Touch [lk] w wz ∧ wz.heap[w.heap.size + 1]? = some (.cells #[.int .i64 0, .int .i64 0, .int .u64 0, .string ⟨#[]⟩, .slice none 0 0, .slice none 0 0] 31 (0, 0)) ∧ wz.heap[Z]? = some (.cells #[.int .i64 kd, .int .i64 0, .int .u64 v, .string ⟨#[]⟩, .slice none 0 0, .slice none 0 0] 31 (0, 0))) ⟨(hKv.keep (w' := w1) hKv.low zw (Nat.le_refl _)).still (Touch.setCell _ _ _ _) (by simp; omega) (by simp; omega), Tch.touch (((htv.trans (Touch.quiet (by exact zw : Below wv.heap.size wv w1))).tch (Nat.le_refl _)).setCell (show w.heap.size ≤ Z by omega) _), touch_row (Touch.setCell _ _ _ _) ((hb1.block _ gY).trans hYv) (by simp; omega), (heap_setCell_same _ _ _ _ _ _ ((hb1.block _ gZ).trans hZv)).trans rfl⟩ ?_
  clear hb1 hc1 hf1 hl1 hz1 gl x0 x1 x2 x3 x4 e0 e1 e2 e3 e4 e5 hfze hKv htv hXv hYv hZv gX gY gZ gln hDv HR
  rintro wz ⟨hKz, htz, hYz, hZz⟩
  by_cases hE : E = 0
  rotate_left
  · have hr := H_r.out
    rw [if_pos hE] at hr
    clear H_r
    subst hr
    have hE1 : (E != 0) = true := by simpa using hE
    have HE := Lib.hid hE
    clear hE
    go_wp2_with fail
    refine (rdtell0 hKz A E).mono ?_
    rintro e w1 ⟨rfl, hv1, ht1⟩
    have hY1 := touch_row ht1 hYz hnY
    have hZ1 := touch_row ht1 hZz hnZ
    have n0 : w1.cell? ⟨w.heap.size + 1, 0, none⟩ = some (.int .i64 0) := cell_of_row _ _ _ _ _ _ hY1
    have n1 : w1.cell? ⟨w.heap.size + 1, 1, none⟩ = some (.int .i64 0) := cell_of_row _ _ _ _ _ _ hY1
    have n2 : w1.cell? ⟨w.heap.size + 1, 2, none⟩ = some (.int .u64 0) := cell_of_row _ _ _ _ _ _ hY1
    have n3 : w1.cell? ⟨w.heap.size + 1, 3, none⟩ = some (.string ⟨#[]⟩) := cell_of_row _ _ _ _ _ _ hY1
    have n4 : w1.cell? ⟨w.heap.size + 1, 4, none⟩ = some (.slice none 0 0) := cell_of_row _ _ _ _ _ _ hY1
    have n5 : w1.cell? ⟨w.heap.size + 1, 5, none⟩ = some (.slice none 0 0) := cell_of_row _ _ _ _ _ _ hY1
    have hfz := fun (j : Nat) => frozen_of_row _ _ j _ _ hY1
    have e0 : w1.cell? ⟨Z, 0, none⟩ = some (.int .i64 kd) := cell_of_row _ _ _ _ _ _ hZ1
    have e1 : w1.cell? ⟨Z, 1, none⟩ = some (.int .i64 0) := cell_of_row _ _ _ _ _ _ hZ1
    have e2 : w1.cell? ⟨Z, 2, none⟩ = some (.int .u64 v) := cell_of_row _ _ _ _ _ _ hZ1
    have e3 : w1.cell? ⟨Z, 3, none⟩ = some (.string ⟨#[]⟩) := cell_of_row _ _ _ _ _ _ hZ1
    have e4 : w1.cell? ⟨Z, 4, none⟩ = some (.slice none 0 0) := cell_of_row _ _ _ _ _ _ hZ1
    have e5 : w1.cell? ⟨Z, 5, none⟩ = some (.slice none 0 0) := cell_of_row _ _ _ _ _ _ hZ1
    have hfze := fun (j : Nat) => frozen_of_row _ _ j _ _ hZ1
    have hYZ : Z ≠ w.heap.size + 1 := by omega
    clear hY1 hZ1
    go_wp2_with fail
    refine bodyPost_ret (v := .agg #[.int .i64 kd, .int .i64 0, .int .u64 v, .string ⟨#[]⟩, .slice none 0 0, .slice none 0 0]) (by simp [results, Tryz.results17, go_sem, *]) rfl ?_
    exact ⟨kd, _, _, _, none, 0, 0, none, 0, 0, _, rfl, HE.out, hv1.still (touch6 _ _ _ _ _ _) (by simp; omega) (by simp; omega), Tch.touch (tch_six ((htz.trans ht1).tch (Nat.le_refl _)) (by omega))⟩
  · have hr := H_r.out
    rw [if_neg (by simpa using hE)] at hr
    clear H_r
    subst hr
    subst hE
    have n0 : wz.cell? ⟨w.heap.size + 1, 0, none⟩ = some (.int .i64 0) := cell_of_row _ _ _ _ _ _ hYz
    have n1 : wz.cell? ⟨w.heap.size + 1, 1, none⟩ = some (.int .i64 0) := cell_of_row _ _ _ _ _ _ hYz
    have n2 : wz.cell? ⟨w.heap.size + 1, 2, none⟩ = some (.int .u64 0) := cell_of_row _ _ _ _ _ _ hYz
    have n3 : wz.cell? ⟨w.heap.size + 1, 3, none⟩ = some (.string ⟨#[]⟩) := cell_of_row _ _ _ _ _ _ hYz
    have n4 : wz.cell? ⟨w.heap.size + 1, 4, none⟩ = some (.slice none 0 0) := cell_of_row _ _ _ _ _ _ hYz
    have n5 : wz.cell? ⟨w.heap.size + 1, 5, none⟩ = some (.slice none 0 0) := cell_of_row _ _ _ _ _ _ hYz
    have hfz := fun (j : Nat) => frozen_of_row _ _ j _ _ hYz
    have e0 : wz.cell? ⟨Z, 0, none⟩ = some (.int .i64 kd) := cell_of_row _ _ _ _ _ _ hZz
    have e1 : wz.cell? ⟨Z, 1, none⟩ = some (.int .i64 0) := cell_of_row _ _ _ _ _ _ hZz
    have e2 : wz.cell? ⟨Z, 2, none⟩ = some (.int .u64 v) := cell_of_row _ _ _ _ _ _ hZz
    have e3 : wz.cell? ⟨Z, 3, none⟩ = some (.string ⟨#[]⟩) := cell_of_row _ _ _ _ _ _ hZz
    have e4 : wz.cell? ⟨Z, 4, none⟩ = some (.slice none 0 0) := cell_of_row _ _ _ _ _ _ hZz
    have e5 : wz.cell? ⟨Z, 5, none⟩ = some (.slice none 0 0) := cell_of_row _ _ _ _ _ _ hZz
    have hfze := fun (j : Nat) => frozen_of_row _ _ j _ _ hZz
    have hYZ : Z ≠ w.heap.size + 1 := by omega
    clear hYz hZz
    go_wp2_with fail
    refine bodyPost_ret (v := .agg #[.int .i64 kd, .int .i64 0, .int .u64 v, .string ⟨#[]⟩, .slice none 0 0, .slice none 0 0]) (by simp [results, Tryz.results17, go_sem, *]) rfl ?_
    exact ⟨.slice none 0 0, .slice none 0 0, [], [], a0, rfl, ⟨rfl, .inl ⟨rfl, rfl⟩⟩, ⟨rfl, .inl ⟨rfl, rfl⟩⟩, by rw [NReps]; exact ⟨rfl, rfl⟩, by simp [blkL, Value.ownBlock], by simp [blkL, Value.ownBlock], hKz.still (touch6 _ _ _ _ _ _) (by simp; omega) (by simp; omega), Tch.touch (tch_six (htz.tch (Nat.le_refl _)) (by omega))⟩
set_option maxHeartbeats 8000000 in
set_option maxRecDepth 100000 in
theorem rnode_4 (h : DSt 49 w lk b o n cap D dp fu a0 0) (p q k lim d : Int) (A : Int) (hfu0 : 1 ≤ fu ∧ fu ≤ 1073741824) (hfu1 : ¬ dp < d) (hm : mayE n p q 4 k = 0) (htb : tgtB D p q 4 k lim = true) (hA : A = p - loadV D p q) (r : DR (DT × Int)) (hr : r = (if findE D p q 4 k true ≠ 0 then .error (A, findE D p q 4 k true) else .ok (.mk (kindD 4) (0) (0) (findS D p q 4 k true) [] [], fu - 1))) :
    Calls Tryz.prog 17 #[.pointer (some ⟨lk, 0, none⟩), .agg #[.int .i64 p, .int .i64 q, .int .i64 4, .int .i64 k], .int .i64 lim, .int .i64 d] w (NPost 49 w lk b o n cap D dp r) := by
  obtain ⟨m1, m2, m3, m4, m5, m6, m7, m8, m9⟩ := mayE_zero hm
  have H_in : Hid (inlineB 4 = false) := Lib.hid rfl
  have H_tb := Lib.hid htb
  have H_A := Lib.hid hA
  have H_r := Lib.hid hr
  clear htb hA hr
  have HKd := fun W => Lib.hid (rkind_any p q 4 k m1 W)
  generalize kindD 4 = kd at *
  have HR := Lib.hid (fun W (hW : Doc W b o n cap D) => (show Calls Tryz.prog 45 #[.slice (some ⟨b, o, none⟩) n cap, .agg #[.int .i64 p, .int .i64 q, .int .i64 4, .int .i64 k]] W fun e w' => e = .returned (.tuple #[.string ⟨(findS D p q 4 k true).toArray⟩, .int .i64 (findE D p q 4 k true)]) ∧ Below W.heap.size W w' from rkey_any b o n cap D p q k W hW))
  generalize findE D p q 4 k true = E at *; generalize findS D p q 4 k true = v at *
  have hlow := h.low
  have hD := h.doc
  obtain ⟨hn1, hn2⟩ := hD.bd
  have hbw := hlow.b
  have hlw := hlow.l
  have Hfu0 := Lib.hid hfu0
  have Hfu1 := Lib.hid hfu1
  clear hfu0 hfu1
  go_enter Tryz.func17, Tryz.ntmps17
  go_upto_region 1 with fail
  refine wp_named (fun wn => Touch [lk] w wn ∧ DSt 49 wn lk b o n cap D dp fu a0 0 ∧ wn.heap.size = w.heap.size + 2 ∧ wn.heap[w.heap.size]? = some (.cells #[.int .i64 p, .int .i64 q, .int .i64 4, .int .i64 k] 24 (0, 0)) ∧ wn.heap[w.heap.size + 1]? = some (.cells #[.int .i64 0, .int .i64 0, .int .u64 0, .string ⟨#[]⟩, .slice none 0 0, .slice none 0 0] 31 (0, 0))) ⟨Touch.quiet zw, h.keep hlow zw (Nat.le_refl _), by simp, heap_made_1 _ _ _, heap_made_2 _ _ _⟩ ?_
  rintro wn ⟨htn, hKn, hsz, hXb, hYb⟩
  have hX : w.heap.size < wn.heap.size := by omega
  have hY : w.heap.size + 1 < wn.heap.size := by omega
  have hnX : w.heap.size ∉ [lk] := by simp; omega
  have hnY : w.heap.size + 1 ∉ [lk] := by simp; omega
  have gln : lk < wn.heap.size := hKn.lkt
  have z0 : wn.cell? ⟨w.heap.size, 0, none⟩ = some (.int .i64 p) := cell_of_row _ _ _ _ _ _ hXb
  have q1 := hKn.c1
  have q2 := hKn.c2
  have q4 := hKn.c4
  have hfu0 := Hfu0.out
  have hfu1 := Hfu1.out
  clear Hfu0 Hfu1
  have hfl : ¬ fu < 1 := by omega
  have hwf : IntKind.i64.wrap (fu - 1) = fu - 1 := IntWalk.i64_in _ (by omega)
  have f2 := hKn.fz 2
  have hset := Touch.setCell wn lk 2 (.int .i64 (fu - 1))
  have hK2 : DSt 49 (wn.setCell ⟨lk, 2, none⟩ (.int .i64 (fu - 1))) lk b o n cap D dp (fu - 1) a0 0 := hKn.told hset (heap_setCell_same _ _ _ _ _ _ hKn.row)
  go_upto_region 4 with fail
  refine wp_named (fun wx => DSt 49 wx lk b o n cap D dp (fu - 1) a0 0 ∧ Touch [lk] w wx ∧ wx.heap[w.heap.size]? = some (.cells #[.int .i64 p, .int .i64 q, .int .i64 4, .int .i64 k] 24 (0, 0)) ∧ wx.heap[w.heap.size + 1]? = some (.cells #[.int .i64 0, .int .i64 0, .int .u64 0, .string ⟨#[]⟩, .slice none 0 0, .slice none 0 0] 31 (0, 0))) ⟨hK2, htn.trans hset, touch_row hset hXb hnX, touch_row hset hYb hnY⟩ ?_
  clear hKn htn hXb hYb hX hY gln z0 q1 q2 q4 f2 hset hK2
  rintro wx ⟨hKx, htx, hXx, hYx⟩
  have x0 : wx.cell? ⟨w.heap.size, 0, none⟩ = some (.int .i64 p) := cell_of_row _ _ _ _ _ _ hXx
  have r1 := hKx.c1
  have r4 := hKx.c4
  have z1 : wx.cell? ⟨w.heap.size, 1, none⟩ = some (.int .i64 q) := cell_of_row _ _ _ _ _ _ hXx
  have z2 : wx.cell? ⟨w.heap.size, 2, none⟩ = some (.int .i64 4) := cell_of_row _ _ _ _ _ _ hXx
  have z3 : wx.cell? ⟨w.heap.size, 3, none⟩ = some (.int .i64 k) := cell_of_row _ _ _ _ _ _ hXx
  have gXx := (Array.getElem?_eq_some_iff.1 hXx).1
  have gYx := (Array.getElem?_eq_some_iff.1 hYx).1
  go_upto_region 9 with (go_at_call 40; refine ((HKd _).out).mono ?_; rintro e w1 ⟨rfl, hb1⟩; obtain ⟨hc1, hf1, hl1⟩ := bcell hb1; (try simp only [zdz] at hc1 hf1 hl1); have hz1 := hb1.size; (try simp only [zsz] at hz1); (try have g0 : w.heap.size < w1.heap.size := by omega); (try have g1 : w.heap.size + 1 < w1.heap.size := by omega); (try have gl : lk < w1.heap.size := by omega))
  refine wp_named (fun wy => DSt 49 wy lk b o n cap D dp (fu - 1) a0 0 ∧ Touch [lk] w wy ∧ w.heap.size + 1 < w1.heap.size ∧ wy.heap[w.heap.size]? = some (.cells #[.int .i64 p, .int .i64 q, .int .i64 4, .int .i64 k] 24 (0, 0)) ∧ wy.heap[w.heap.size + 1]? = some (.cells #[.int .i64 0, .int .i64 0, .int .u64 0, .string ⟨#[]⟩, .slice none 0 0, .slice none 0 0] 31 (0, 0)) ∧ wy.heap[w1.heap.size]? = some (.cells #[.int .i64 kd, .int .i64 0, .int .u64 0, .string ⟨#[]⟩, .slice none 0 0, .slice none 0 0] 31 (0, 0))) ⟨hKx.keep hKx.low zw (Nat.le_refl _), htx.trans (Touch.quiet zw), by omega, (((Below.refl w1.heap.size w1).alloc (Nat.le_refl _) _).block _ (by omega)).trans ((hb1.block _ gXx).trans hXx), (((Below.refl w1.heap.size w1).alloc (Nat.le_refl _) _).block _ (by omega)).trans ((hb1.block _ gYx).trans hYx), heap_alloc_new _ _⟩ ?_
  clear hb1 hc1 hf1 hl1 hz1 gl hKx htx hXx hYx x0 r1 r4 z1 z2 z3 gXx gYx
  generalize w1.heap.size = Z
  rintro wy ⟨hKy, hty, hZ0, hXy, hYy, hZy⟩
  have hnZ : Z ∉ [lk] := by simp; omega
  have x0 : wy.cell? ⟨w.heap.size, 0, none⟩ = some (.int .i64 p) := cell_of_row _ _ _ _ _ _ hXy
  have x1 : wy.cell? ⟨w.heap.size, 1, none⟩ = some (.int .i64 q) := cell_of_row _ _ _ _ _ _ hXy
  have x2 : wy.cell? ⟨w.heap.size, 2, none⟩ = some (.int .i64 4) := cell_of_row _ _ _ _ _ _ hXy
  have x3 : wy.cell? ⟨w.heap.size, 3, none⟩ = some (.int .i64 k) := cell_of_row _ _ _ _ _ _ hXy
  have r4 := hKy.c4
  have hin := H_in.out
  have HI := fun W => Lib.hid (rinline_any 4 W)
  rw [hin] at HI
  clear hin
  go_wp2_with (go_at_call 41; refine ((HI _).out).mono ?_; rintro e w1 ⟨rfl, rfl⟩)
  refine (rdtarget hKy p q 4 k lim m4 m9 m2 (refB_of m1 H_in.out) m7 m8).mono ?_
  rintro e w1 ⟨rfl, hv1, ht1⟩
  have hX1 := touch_row ht1 hXy hnX
  have hY1 := touch_row ht1 hYy hnY
  have hZ1 := touch_row ht1 hZy hnZ
  have htw := hty.trans ht1
  clear x0 x1 x2 x3 r4 hKy hty hXy hYy hZy ht1
  have htb := H_tb.out
  rw [show tgtE D p q 4 k lim 0 = 0 by simp [tgtE, htb], show tgtA D p q 4 k lim 0 a0 = a0 by simp [tgtA, htb]] at hv1
  have hXv : tgtX D p q 4 k lim = A := by rw [H_A.out]; simp [tgtX, htb]
  have r4 := hv1.c4
  clear htb
  go_upto_region 15 with fail
  refine wp_named (fun wv => DSt 49 wv lk b o n cap D dp (fu - 1) a0 0 ∧ Touch [lk] w wv ∧ wv.heap[w.heap.size]? = some (.cells #[.int .i64 p, .int .i64 q, .int .i64 4, .int .i64 k] 24 (0, 0)) ∧ wv.heap[w.heap.size + 1]? = some (.cells #[.int .i64 0, .int .i64 0, .int .u64 0, .string ⟨#[]⟩, .slice none 0 0, .slice none 0 0] 31 (0, 0)) ∧ wv.heap[Z]? = some (.cells #[.int .i64 kd, .int .i64 0, .int .u64 0, .string ⟨#[]⟩, .slice none 0 0, .slice none 0 0] 31 (0, 0))) ⟨hv1, htw, hX1, hY1, hZ1⟩ ?_
  clear hv1 htw hX1 hY1 hZ1 r4 hXv
  rintro wv ⟨hKv, htv, hXv, hYv, hZv⟩
  have x0 : wv.cell? ⟨w.heap.size, 0, none⟩ = some (.int .i64 p) := cell_of_row _ _ _ _ _ _ hXv
  have x1 : wv.cell? ⟨w.heap.size, 1, none⟩ = some (.int .i64 q) := cell_of_row _ _ _ _ _ _ hXv
  have x2 : wv.cell? ⟨w.heap.size, 2, none⟩ = some (.int .i64 4) := cell_of_row _ _ _ _ _ _ hXv
  have x3 : wv.cell? ⟨w.heap.size, 3, none⟩ = some (.int .i64 k) := cell_of_row _ _ _ _ _ _ hXv
  have x4 := hKv.c0
  have gln : lk < wv.heap.size := hKv.lkt
  have gX := (Array.getElem?_eq_some_iff.1 hXv).1
  have gY := (Array.getElem?_eq_some_iff.1 hYv).1
  have gZ := (Array.getElem?_eq_some_iff.1 hZv).1
  have hDv := hKv.doc
  go_upto_region 26 with fail
  have e0 : wv.cell? ⟨Z, 0, none⟩ = some (.int .i64 kd) := cell_of_row _ _ _ _ _ _ hZv
  have e1 : wv.cell? ⟨Z, 1, none⟩ = some (.int .i64 0) := cell_of_row _ _ _ _ _ _ hZv
  have e2 : wv.cell? ⟨Z, 2, none⟩ = some (.int .u64 0) := cell_of_row _ _ _ _ _ _ hZv
  have e3 : wv.cell? ⟨Z, 3, none⟩ = some (.string ⟨#[]⟩) := cell_of_row _ _ _ _ _ _ hZv
  have e4 : wv.cell? ⟨Z, 4, none⟩ = some (.slice none 0 0) := cell_of_row _ _ _ _ _ _ hZv
  have e5 : wv.cell? ⟨Z, 5, none⟩ = some (.slice none 0 0) := cell_of_row _ _ _ _ _ _ hZv
  have hfze := fun (j : Nat) => frozen_of_row _ _ j _ _ hZv
  go_region_held3 (fun w' => w'.cell? ⟨w.heap.size, 0, none⟩ = some (.int .i64 p) ∧ w'.cell? ⟨w.heap.size, 1, none⟩ = some (.int .i64 q) ∧ w'.cell? ⟨w.heap.size, 2, none⟩ = some (.int .i64 4) ∧ w'.cell? ⟨w.heap.size, 3, none⟩ = some (.int .i64 k) ∧ w'.cell? ⟨lk, 0, none⟩ = some (.slice (some ⟨b, o, none⟩) n cap)) (first | (with_reducible exact ⟨x0, x1, x2, x3, x4⟩) | (refine ⟨?_, ?_, ?_, ?_, ?_⟩ <;> go_simp)) (((go_at_call 45; refine (HR.out _ (hDv.below zw)).mono ?_; rintro e w1 ⟨rfl, hb1⟩; obtain ⟨hc1, hf1, hl1⟩ := bcell hb1; (try simp only [zdz] at hc1 hf1 hl1); have hz1 := hb1.size; (try simp only [zsz] at hz1); (try have g0 : w.heap.size < w1.heap.size := by omega); (try have g1 : w.heap.size + 1 < w1.heap.size := by omega); (try have gl : lk < w1.heap.size := by omega))))
  go_upto_region 31 with fail
  refine wp_named (fun wz => DSt 49 wz lk b o n cap D dp (fu - 1) a0 0 ∧ Touch [lk] w wz ∧ wz.heap[w.heap.size + 1]? = some (.cells #[.int .i64 0, .int .i64 0, .int .u64 0, .string ⟨#[]⟩, .slice none 0 0, .slice none 0 0] 31 (0, 0)) ∧ wz.heap[Z]? = some (.cells #[.int .i64 kd, .int .i64 0, .int .u64 0, .string ⟨v.toArray⟩, .slice none 0 0, .slice none 0 0] 31 (0, 0))) ⟨(hKv.keep (w' := w1) hKv.low zw (Nat.le_refl _)).still (Touch.setCell _ _ _ _) (by simp; omega) (by simp; omega), Tch.touch (((htv.trans (Touch.quiet (by exact zw : Below wv.heap.size wv w1))).tch (Nat.le_refl _)).setCell (show w.heap.size ≤ Z by omega) _), touch_row (Touch.setCell _ _ _ _) ((hb1.block _ gY).trans hYv) (by simp; omega), (heap_setCell_same _ _ _ _ _ _ ((hb1.block _ gZ).trans hZv)).trans rfl⟩ ?_
  clear hb1 hc1 hf1 hl1 hz1 gl x0 x1 x2 x3 x4 e0 e1 e2 e3 e4 e5 hfze hKv htv hXv hYv hZv gX gY gZ gln hDv HR
  rintro wz ⟨hKz, htz, hYz, hZz⟩
  by_cases hE : E = 0
  rotate_left
  · have hr := H_r.out
    rw [if_pos hE] at hr
    clear H_r
    subst hr
    have hE1 : (E != 0) = true := by simpa using hE
    have HE := Lib.hid hE
    clear hE
    go_wp2_with fail
    refine (rdtell0 hKz A E).mono ?_
    rintro e w1 ⟨rfl, hv1, ht1⟩
    have hY1 := touch_row ht1 hYz hnY
    have hZ1 := touch_row ht1 hZz hnZ
    have n0 : w1.cell? ⟨w.heap.size + 1, 0, none⟩ = some (.int .i64 0) := cell_of_row _ _ _ _ _ _ hY1
    have n1 : w1.cell? ⟨w.heap.size + 1, 1, none⟩ = some (.int .i64 0) := cell_of_row _ _ _ _ _ _ hY1
    have n2 : w1.cell? ⟨w.heap.size + 1, 2, none⟩ = some (.int .u64 0) := cell_of_row _ _ _ _ _ _ hY1
    have n3 : w1.cell? ⟨w.heap.size + 1, 3, none⟩ = some (.string ⟨#[]⟩) := cell_of_row _ _ _ _ _ _ hY1
    have n4 : w1.cell? ⟨w.heap.size + 1, 4, none⟩ = some (.slice none 0 0) := cell_of_row _ _ _ _ _ _ hY1
    have n5 : w1.cell? ⟨w.heap.size + 1, 5, none⟩ = some (.slice none 0 0) := cell_of_row _ _ _ _ _ _ hY1
    have hfz := fun (j : Nat) => frozen_of_row _ _ j _ _ hY1
    have e0 : w1.cell? ⟨Z, 0, none⟩ = some (.int .i64 kd) := cell_of_row _ _ _ _ _ _ hZ1
    have e1 : w1.cell? ⟨Z, 1, none⟩ = some (.int .i64 0) := cell_of_row _ _ _ _ _ _ hZ1
    have e2 : w1.cell? ⟨Z, 2, none⟩ = some (.int .u64 0) := cell_of_row _ _ _ _ _ _ hZ1
    have e3 : w1.cell? ⟨Z, 3, none⟩ = some (.string ⟨v.toArray⟩) := cell_of_row _ _ _ _ _ _ hZ1
    have e4 : w1.cell? ⟨Z, 4, none⟩ = some (.slice none 0 0) := cell_of_row _ _ _ _ _ _ hZ1
    have e5 : w1.cell? ⟨Z, 5, none⟩ = some (.slice none 0 0) := cell_of_row _ _ _ _ _ _ hZ1
    have hfze := fun (j : Nat) => frozen_of_row _ _ j _ _ hZ1
    have hYZ : Z ≠ w.heap.size + 1 := by omega
    clear hY1 hZ1
    go_wp2_with fail
    refine bodyPost_ret (v := .agg #[.int .i64 kd, .int .i64 0, .int .u64 0, .string ⟨v.toArray⟩, .slice none 0 0, .slice none 0 0]) (by simp [results, Tryz.results17, go_sem, *]) rfl ?_
    exact ⟨kd, _, _, _, none, 0, 0, none, 0, 0, _, rfl, HE.out, hv1.still (touch6 _ _ _ _ _ _) (by simp; omega) (by simp; omega), Tch.touch (tch_six ((htz.trans ht1).tch (Nat.le_refl _)) (by omega))⟩
  · have hr := H_r.out
    rw [if_neg (by simpa using hE)] at hr
    clear H_r
    subst hr
    subst hE
    have n0 : wz.cell? ⟨w.heap.size + 1, 0, none⟩ = some (.int .i64 0) := cell_of_row _ _ _ _ _ _ hYz
    have n1 : wz.cell? ⟨w.heap.size + 1, 1, none⟩ = some (.int .i64 0) := cell_of_row _ _ _ _ _ _ hYz
    have n2 : wz.cell? ⟨w.heap.size + 1, 2, none⟩ = some (.int .u64 0) := cell_of_row _ _ _ _ _ _ hYz
    have n3 : wz.cell? ⟨w.heap.size + 1, 3, none⟩ = some (.string ⟨#[]⟩) := cell_of_row _ _ _ _ _ _ hYz
    have n4 : wz.cell? ⟨w.heap.size + 1, 4, none⟩ = some (.slice none 0 0) := cell_of_row _ _ _ _ _ _ hYz
    have n5 : wz.cell? ⟨w.heap.size + 1, 5, none⟩ = some (.slice none 0 0) := cell_of_row _ _ _ _ _ _ hYz
    have hfz := fun (j : Nat) => frozen_of_row _ _ j _ _ hYz
    have e0 : wz.cell? ⟨Z, 0, none⟩ = some (.int .i64 kd) := cell_of_row _ _ _ _ _ _ hZz
    have e1 : wz.cell? ⟨Z, 1, none⟩ = some (.int .i64 0) := cell_of_row _ _ _ _ _ _ hZz
    have e2 : wz.cell? ⟨Z, 2, none⟩ = some (.int .u64 0) := cell_of_row _ _ _ _ _ _ hZz
    have e3 : wz.cell? ⟨Z, 3, none⟩ = some (.string ⟨v.toArray⟩) := cell_of_row _ _ _ _ _ _ hZz
    have e4 : wz.cell? ⟨Z, 4, none⟩ = some (.slice none 0 0) := cell_of_row _ _ _ _ _ _ hZz
    have e5 : wz.cell? ⟨Z, 5, none⟩ = some (.slice none 0 0) := cell_of_row _ _ _ _ _ _ hZz
    have hfze := fun (j : Nat) => frozen_of_row _ _ j _ _ hZz
    have hYZ : Z ≠ w.heap.size + 1 := by omega
    clear hYz hZz
    go_wp2_with fail
    refine bodyPost_ret (v := .agg #[.int .i64 kd, .int .i64 0, .int .u64 0, .string ⟨v.toArray⟩, .slice none 0 0, .slice none 0 0]) (by simp [results, Tryz.results17, go_sem, *]) rfl ?_
    exact ⟨.slice none 0 0, .slice none 0 0, [], [], a0, rfl, ⟨rfl, .inl ⟨rfl, rfl⟩⟩, ⟨rfl, .inl ⟨rfl, rfl⟩⟩, by rw [NReps]; exact ⟨rfl, rfl⟩, by simp [blkL, Value.ownBlock], by simp [blkL, Value.ownBlock], hKz.still (touch6 _ _ _ _ _ _) (by simp; omega) (by simp; omega), Tch.touch (tch_six (htz.tch (Nat.le_refl _)) (by omega))⟩
end
end Go.Proofs.YtmpflnlajakibaaGreat
