/- decode.walker's vector: no map. -/
import Derived.Test.YtmpflnlajakibaaCcd
namespace Go.Proofs.Ytmpflnlajakibaa
set_option linter.unusedVariables false
set_option linter.unusedSimpArgs false
set_option linter.unusedSectionVars false
open Go.RowKit
section
variable {w : World} {lk b o n cap : Nat} {D : List UInt8} {dp fu a0 : Int}
set_option maxHeartbeats 8000000 in
set_option maxRecDepth 100000 in
theorem dvec_n (F : Int) (dec : DecF) (hdg : DecGood F dec) (h : DSt 76 w lk b o n cap D dp fu a0 0) (hfu : InF F fu) (p q t k a d : Int) (ha0 : 0 ≤ a) (ha1 : a ≤ 1073741824) (hd0 : 0 ≤ d) (hd1 : d ≤ 2147483648)
    (HN : HypNode F 76 33 dec lk b o n cap D dp (lFrom D p q t k) (d + 1)) (he : lfindE D p q t k = 0) (t9 : t ≠ 9) (r : DR (DT × Int)) (hr : vecD dec D p q t k a d fu = r) :
    Calls Try.prog 67 #[.pointer (some ⟨lk, 0, none⟩), plcV p q t k a d] w (VPost 76 0 w lk b o n cap D dp r) := by
  have H_he := Lib.hid he
  have H_t9 := Lib.hid t9
  clear t9 he
  have hlow := h.low
  have hD := h.doc
  obtain ⟨hn1, hn2⟩ := hD.bd
  have hbw := hlow.b
  have hlw := hlow.l
  have hHR := Lib.hid hr
  have hHN := Lib.hid HN
  have HSp := Lib.hid (fun W (hW : Doc W b o n cap D) => span_any b o n cap D p q t k W hW)
  have HLe := Lib.hid (fun W (hW : Doc W b o n cap D) => len_any b o n cap D p q t k W hW)
  clear hr HN
  go_enter Try.func67, Try.ntmps67
  go_upto_region 1 with fail
  refine wp_named (fun wn => Touch [lk] w wn ∧ DSt 76 wn lk b o n cap D dp fu a0 0 ∧ w.heap.size + 1 < wn.heap.size ∧ wn.heap[w.heap.size]? = some (.cells (plcCells p q t k a d) 112 (0, 0)) ∧ wn.heap[w.heap.size + 1]? = some (.cells (nodeCells 0 0 0 [] (.slice none 0 0) (.slice none 0 0)) 44 (0, 0))) ⟨Touch.quiet zw, h.keep hlow zw (Nat.le_refl _), by simp, heap_made_1 _ _ _, heap_made_2 _ _ _⟩ ?_
  rintro wn ⟨htn, hKn, hY, hXb, hYb⟩
  have hX : w.heap.size < wn.heap.size := by omega
  have hnX : w.heap.size ∉ [lk] := by simp; omega
  have hnY : w.heap.size + 1 ∉ [lk] := by simp; omega
  have gln : lk < wn.heap.size := hKn.lkt
  have hDn := hKn.doc
  have z0 : wn.cell? ⟨w.heap.size, 0, none⟩ = some (.int .i64 p) := cell_of_row _ _ _ _ _ _ hXb
  have z1 : wn.cell? ⟨w.heap.size, 1, none⟩ = some (.int .i64 q) := cell_of_row _ _ _ _ _ _ hXb
  have z2 : wn.cell? ⟨w.heap.size, 2, none⟩ = some (.int .i64 t) := cell_of_row _ _ _ _ _ _ hXb
  have z3 : wn.cell? ⟨w.heap.size, 3, none⟩ = some (.int .i64 k) := cell_of_row _ _ _ _ _ _ hXb
  have z4 := hKn.c0
  go_region_held3 (fun w' => w'.cell? ⟨w.heap.size, 0, none⟩ = some (.int .i64 p) ∧ w'.cell? ⟨w.heap.size, 1, none⟩ = some (.int .i64 q) ∧ w'.cell? ⟨w.heap.size, 2, none⟩ = some (.int .i64 t) ∧ w'.cell? ⟨w.heap.size, 3, none⟩ = some (.int .i64 k) ∧ w'.cell? ⟨lk, 0, none⟩ = some (.slice (some ⟨b, o, none⟩) n cap)) (first | (with_reducible exact ⟨z0, z1, z2, z3, z4⟩) | (with_reducible exact ⟨k0, k1, k2, k3, k4⟩) | (refine ⟨?_, ?_, ?_, ?_, ?_⟩ <;> go_keep)) (((go_at_call 103; refine (HSp.out _ (hDn.below zw)).mono ?_; rintro e w1 ⟨rfl, hb1⟩; obtain ⟨hc1, hf1, hl1⟩ := bcell hb1; (try simp only [zdz] at hc1 hf1 hl1); have hz1 := hb1.size; (try simp only [zsz] at hz1); (try have g0 : w.heap.size < w1.heap.size := by omega); (try have g1 : w.heap.size + 1 < w1.heap.size := by omega); (try have gl : lk < w1.heap.size := by omega))))
  go_upto_region 2 with fail
  refine wp_named (fun wx => Touch [lk] wn wx ∧ DSt 76 wx lk b o n cap D dp fu a0 0) ⟨Touch.quiet zw, hKn.keep hKn.low zw (Nat.le_refl _)⟩ ?_
  clear hb1 hc1 hf1 hl1 hz1 gl z0 z1 z2 z3 z4 hDn
  rintro wx ⟨htx, hKx⟩
  have hXx := (htx.block _ hX hnX).trans hXb
  have hYx := (htx.block _ hY hnY).trans hYb
  have hX' : w.heap.size < wx.heap.size := Nat.lt_of_lt_of_le hX htx.size
  have hY' : w.heap.size + 1 < wx.heap.size := Nat.lt_of_lt_of_le hY htx.size
  have y4 : wx.cell? ⟨w.heap.size, 4, none⟩ = some (.int .i64 a) := cell_of_row _ _ _ _ _ _ hXx
  have htw := htn.trans htx
  clear htx htn hKn hXb hYb hX hY gln
  have he := H_he.out
  have hL := lfindE_zero he
  rw [hD.len] at hL
  have hlh := hHR.out
  unfold vecD at hlh
  rw [if_neg (by simpa using he)] at hlh
  have hHR := Lib.hid hlh
  clear hlh
  have hF0 := lFrom_nonneg D p q t k
  have hcm : 0 ≤ lCnt D p q t k ∧ lCnt D p q t k ≤ 1073741824 := ⟨hL.2.2.2.2.2.1, by have := hL; omega⟩
  obtain ⟨g0, -, g1, -, g2, g3, g4, g5, g6, -, g7⟩ := lfindE_zero he
  obtain ⟨-, -, hkw, -, -, -, k1, k8, -⟩ := mayE_zero (targetE_zero g0).1
  rw [hD.len] at g4
  have hF3 : t = 9 → lFrom D p q t k + 3 * k ≤ n := fun h9 => by
    subst h9
    have ha9 : aheadOf 9 = 3 := rfl
    have y2 : 0 ≤ lCnt D p q 9 k * (k + tagsOf 9) := Int.mul_nonneg g3 (by have := tagsOf_bd 9; omega)
    rw [ha9] at g7
    omega
  have Hfe := Lib.hid he
  rw [he] at HLe
  rw [he]
  clear hL g0 g1 g2 g3 g4 g5 g6 g7 he
  go_upto_region 4 with (go_at_call 64; refine (dtell_ok hKx a).mono ?_; rintro e w1 ⟨rfl, hv1, ht1⟩)
  refine wp_named (fun wy => Touch [lk] w wy ∧ DSt 76 wy lk b o n cap D dp fu a 0 ∧ w.heap.size + 1 < wy.heap.size ∧ wy.heap[w.heap.size]? = some (.cells (plcCells p q t k a d) 112 (0, 0)) ∧ wy.heap[w.heap.size + 1]? = some (.cells (nodeCells 0 0 0 [] (.slice none 0 0) (.slice none 0 0)) 44 (0, 0))) ⟨htw.trans ht1, hv1, Nat.lt_of_lt_of_le hY' ht1.size, (ht1.block _ hX' hnX).trans hXx, (ht1.block _ hY' hnY).trans hYx⟩ ?_
  clear hv1 ht1 htw hKx hXx hYx hX' hY' y4
  rintro wy ⟨hty, hKy, hY, hXb, hYb⟩
  have hX : w.heap.size < wy.heap.size := by omega
  have gln : lk < wy.heap.size := hKy.lkt
  have hDy := hKy.doc
  have z0 : wy.cell? ⟨w.heap.size, 0, none⟩ = some (.int .i64 p) := cell_of_row _ _ _ _ _ _ hXb
  have z1 : wy.cell? ⟨w.heap.size, 1, none⟩ = some (.int .i64 q) := cell_of_row _ _ _ _ _ _ hXb
  have z2 : wy.cell? ⟨w.heap.size, 2, none⟩ = some (.int .i64 t) := cell_of_row _ _ _ _ _ _ hXb
  have z3 : wy.cell? ⟨w.heap.size, 3, none⟩ = some (.int .i64 k) := cell_of_row _ _ _ _ _ _ hXb
  have z4 := hKy.c0
  go_region_held3 (fun w' => w'.cell? ⟨w.heap.size, 0, none⟩ = some (.int .i64 p) ∧ w'.cell? ⟨w.heap.size, 1, none⟩ = some (.int .i64 q) ∧ w'.cell? ⟨w.heap.size, 2, none⟩ = some (.int .i64 t) ∧ w'.cell? ⟨w.heap.size, 3, none⟩ = some (.int .i64 k) ∧ w'.cell? ⟨lk, 0, none⟩ = some (.slice (some ⟨b, o, none⟩) n cap)) (first | (with_reducible exact ⟨z0, z1, z2, z3, z4⟩) | (with_reducible exact ⟨k0, k1, k2, k3, k4⟩) | (refine ⟨?_, ?_, ?_, ?_, ?_⟩ <;> go_keep)) (((go_at_call 22; refine (HLe.out _ (hDy.below zw)).mono ?_; rintro e w1 ⟨rfl, hb1⟩; obtain ⟨hc1, hf1, hl1⟩ := bcell hb1; (try simp only [zdz] at hc1 hf1 hl1); have hz1 := hb1.size; (try simp only [zsz] at hz1); (try have g0 : w.heap.size < w1.heap.size := by omega); (try have g1 : w.heap.size + 1 < w1.heap.size := by omega); (try have gl : lk < w1.heap.size := by omega))))
  go_upto_region 5 with fail
  refine wp_named (fun wx => Touch [lk] wy wx ∧ DSt 76 wx lk b o n cap D dp fu a 0) ⟨Touch.quiet zw, hKy.keep hKy.low zw (Nat.le_refl _)⟩ ?_
  clear hb1 hc1 hf1 hl1 hz1 gl z0 z1 z2 z3 z4 hDy
  rintro wx ⟨htx, hKx⟩
  have hXx := (htx.block _ hX hnX).trans hXb
  have hYx := (htx.block _ hY hnY).trans hYb
  have hX' : w.heap.size < wx.heap.size := Nat.lt_of_lt_of_le hX htx.size
  have hY' : w.heap.size + 1 < wx.heap.size := Nat.lt_of_lt_of_le hY htx.size
  have htw := hty.trans htx
  clear htx hty hKy hXb hYb hX hY gln
  have z0 : wx.cell? ⟨w.heap.size, 0, none⟩ = some (.int .i64 p) := cell_of_row _ _ _ _ _ _ hXx
  have z1 : wx.cell? ⟨w.heap.size, 1, none⟩ = some (.int .i64 q) := cell_of_row _ _ _ _ _ _ hXx
  have z2 : wx.cell? ⟨w.heap.size, 2, none⟩ = some (.int .i64 t) := cell_of_row _ _ _ _ _ _ hXx
  have z3 : wx.cell? ⟨w.heap.size, 3, none⟩ = some (.int .i64 k) := cell_of_row _ _ _ _ _ _ hXx
  obtain ⟨hcm0, hcm1⟩ := hcm
  have t9 := H_t9.out
  have g9 : (t == 9) = false := by simpa using t9
  have hl := hHR.out
  rw [if_neg t9] at hl
  obtain ⟨rl, hrl⟩ : ∃ rl, vloopD dec D p q t k a d (lCnt D p q t k).toNat 0 [] fu = rl := ⟨_, rfl⟩
  have hrf : r = finV t [] rl := by rw [← hl, ← hrl]; rfl
  go_upto_region 8 with fail
  refine wp_named (fun wl => Touch [lk] w wl ∧ w.heap.size + 1 < wl.heap.size ∧ wl.heap[w.heap.size]? = some (.cells (plcCells p q t k a d) 112 (0, 0)) ∧ VSt F 76 (w.heap.size + 2) (w.heap.size + 1) 0 wl lk b o n cap D dp dec p q t k a d [] rl 0) ⟨htw, hY', hXx, .inl ⟨.slice none 0 0, .slice none 0 0, [], [], [], fu, a, hYx, ⟨⟨rfl, .inl ⟨rfl, rfl⟩⟩, ⟨rfl, .inl ⟨rfl, rfl⟩⟩, by rw [NReps]; exact ⟨rfl, rfl⟩, by simp [blkL, Value.ownBlock], by simp [blkL, Value.ownBlock]⟩, rfl, hKx, hfu, hrl⟩⟩ ?_
  clear hl hrl t9
  clear z0 z1 z2 z3 hKx hXx hYx hX' hY' htw hHR HLe HSp
  rintro wl ⟨htl, hYl, hXl, hst⟩
  have hst := Lib.hid hst
  go_loopw [11] (fun i wr => ∃ j : Nat, (j : Int) ≤ lCnt D p q t k ∧ i = .int .i64 j ∧ Touch [lk] w wr ∧ w.heap.size + 1 < wr.heap.size ∧ wr.heap[w.heap.size]? = some (.cells (plcCells p q t k a d) 112 (0, 0)) ∧
    VSt F 76 (w.heap.size + 2) (w.heap.size + 1) 0 wr lk b o n cap D dp dec p q t k a d [] rl j) (fun i _ => (lCnt D p q t k).toNat - (intOf i).toNat)
  case atStart => exact ⟨0, hcm0, rfl, htl, hYl, hXl, hst.out⟩
  case round =>
    obtain ⟨j, hj, rfl, htr, hYr, hXr, hs⟩ := hrel
    clear hst htl hYl hXl
    have hnX : w.heap.size ∉ [lk] := by simp; omega
    have hnY : w.heap.size + 1 ∉ [lk] := by simp; omega
    rcases hs with ⟨kv, lv, xs, bl, acc, fr, ar, hYb, hkids, hacc, hKr, hfr, hl⟩ | ⟨A1, m1, c1, A2, m2, c2, ae, ee, ff, hYb, rfl, he0, hKr⟩
    rotate_left
    · have q4 := hKr.c4
      have he1 : (ee == 0) = false := by simpa using he0
      obtain rfl : r = .error (ae, ee) := hrf
      have hfz := fun (j : Nat) => frozen_of_row _ _ j _ _ hYb
      have n0 : wr.cell? ⟨w.heap.size + 1, 0, none⟩ = some (.int .i64 0) := cell_of_row _ _ _ _ _ _ hYb
      have n1 : wr.cell? ⟨w.heap.size + 1, 1, none⟩ = some (.int .i64 0) := cell_of_row _ _ _ _ _ _ hYb
      have n2 : wr.cell? ⟨w.heap.size + 1, 2, none⟩ = some (.int .u64 0) := cell_of_row _ _ _ _ _ _ hYb
      have n3 : wr.cell? ⟨w.heap.size + 1, 3, none⟩ = some (.string ⟨#[]⟩) := cell_of_row _ _ _ _ _ _ hYb
      have n4 : wr.cell? ⟨w.heap.size + 1, 4, none⟩ = some (.slice A1 m1 c1) := cell_of_row _ _ _ _ _ _ hYb
      have n5 : wr.cell? ⟨w.heap.size + 1, 5, none⟩ = some (.slice A2 m2 c2) := cell_of_row _ _ _ _ _ _ hYb
      have hKY := hKr.still (touch6 (.int .i64 0) (.int .i64 0) (.int .u64 0) (.string ⟨#[]⟩) (.slice A1 m1 c1) (.slice A2 m2 c2)) (by simp; omega : lk ∉ [w.heap.size + 1]) (by simp; omega : b ∉ [w.heap.size + 1])
      have hBy : Tch w.heap.size [lk] w wr := htr.tch (Nat.le_refl _)
      have HE := Lib.hid he0
      clear hYb hXr htr he0 hHN hdg
      by_cases hlt : (j : Int) < lCnt D p q t k
      all_goals go_wp2
      all_goals refine bodyPost_ret (v := .agg #[.int .i64 0, .int .i64 0, .int .u64 0, .string ⟨#[]⟩, .slice A1 m1 c1, .slice A2 m2 c2]) (by simp [results, Try.results67, go_sem, *]) rfl ?_
      all_goals exact ⟨0, 0, 0, ⟨#[]⟩, A1, m1, c1, A2, m2, c2, ff, rfl, HE.out, hKY, Tch.touch (by (repeat' first | (with_reducible first | exact Tch.refl _ _ _ | assumption | refine Tch.alloc ?_ ?_ _ | refine Tch.drew ?_ | refine Tch.drewN ?_ _ | refine Tch.setCell ?_ ?_ _ | refine Tch.setBlock ?_ (by simp) _ | refine tch_call (by assumption) ?_ ?_ | refine tch_below (by assumption) ?_ ?_ | exact zb6 _) | omega | (simp only [zsz, size_setBlock]; omega) | (simp; omega)))⟩
    · obtain ⟨A1, c1, rfl⟩ := owns_ptr hkids.k
      obtain ⟨A2, c2, rfl⟩ := owns_ptr hkids.r
      have q4 := hKr.c4
      by_cases hlt : (j : Int) < lCnt D p q t k
      rotate_left
      · have hjc : (lCnt D p q t k).toNat - j = 0 := by omega
        rw [hjc, vloopD] at hl
        subst hl
        obtain rfl : r = .ok (.mk (kindD t) 0 0 [] [] acc, fr) := hrf
        have hfz := fun (j : Nat) => frozen_of_row _ _ j _ _ hYb
        have n0 : wr.cell? ⟨w.heap.size + 1, 0, none⟩ = some (.int .i64 0) := cell_of_row _ _ _ _ _ _ hYb
        have n1 : wr.cell? ⟨w.heap.size + 1, 1, none⟩ = some (.int .i64 0) := cell_of_row _ _ _ _ _ _ hYb
        have n2 : wr.cell? ⟨w.heap.size + 1, 2, none⟩ = some (.int .u64 0) := cell_of_row _ _ _ _ _ _ hYb
        have n3 : wr.cell? ⟨w.heap.size + 1, 3, none⟩ = some (.string ⟨#[]⟩) := cell_of_row _ _ _ _ _ _ hYb
        have n4 : wr.cell? ⟨w.heap.size + 1, 4, none⟩ = some (.slice A1 0 c1) := cell_of_row _ _ _ _ _ _ hYb
        have n5 : wr.cell? ⟨w.heap.size + 1, 5, none⟩ = some (.slice A2 acc.length c2) := cell_of_row _ _ _ _ _ _ hYb
        have ht6 := touch6 (w := wr) (Y := w.heap.size + 1) (.int .i64 0) (.int .i64 0) (.int .u64 0) (.string ⟨#[]⟩) (.slice A1 0 c1) (.slice A2 acc.length c2)
        have hKY := hKr.still ht6 (by simp; omega : lk ∉ [w.heap.size + 1]) (by simp; omega : b ∉ [w.heap.size + 1])
        have hkY := hkids.same fun i hi => ht6.block i (hkids.lt i hi) (by have := hkids.ge i hi; simp; omega)
        have hBy : Tch w.heap.size [lk] w wr := htr.tch (Nat.le_refl _)
        clear hYb hXr htr hHN hdg ht6 hkids hacc
        go_wp2
        refine bodyPost_ret (v := .agg #[.int .i64 0, .int .i64 0, .int .u64 0, .string ⟨#[]⟩, .slice A1 0 c1, .slice A2 acc.length c2]) (by simp [results, Try.results67, go_sem, *]) rfl ?_
        exact ⟨_, _, xs, bl, ar, rfl, hkY.k, hkY.r, hkY.n, hkY.nd, fun i hi => by have := hkY.ge i hi; omega, hKY, Tch.touch (by (repeat' first | (with_reducible first | exact Tch.refl _ _ _ | assumption | refine Tch.alloc ?_ ?_ _ | refine Tch.drew ?_ | refine Tch.drewN ?_ _ | refine Tch.setCell ?_ ?_ _ | refine Tch.setBlock ?_ (by simp) _ | refine tch_call (by assumption) ?_ ?_ | refine tch_below (by assumption) ?_ ?_ | exact zb6 _) | omega | (simp only [zsz, size_setBlock]; omega) | (simp; omega)))⟩
      · obtain ⟨r', hr'⟩ : ∃ r', (lCnt D p q t k).toNat - j = r' + 1 := ⟨(lCnt D p q t k).toNat - j - 1, by omega⟩
        have hr2 : (lCnt D p q t k).toNat - (j + 1) = r' := by omega
        have P0 : 0 ≤ lCnt D p q t k * k := Int.mul_nonneg hcm0 (by omega)
        have P1 : lCnt D p q t k * k ≤ 1073741824 * 8 := Int.mul_le_mul hcm1 k8 (by omega) (by omega)
        have HA := Lib.hid (fun W (hW : Doc W b o n cap D) => lat_any b o n cap D p q t k j W hW)
        unfold latV at HA
        have z0 : wr.cell? ⟨w.heap.size, 0, none⟩ = some (.int .i64 p) := cell_of_row _ _ _ _ _ _ hXr
        have z1 : wr.cell? ⟨w.heap.size, 1, none⟩ = some (.int .i64 q) := cell_of_row _ _ _ _ _ _ hXr
        have z2 : wr.cell? ⟨w.heap.size, 2, none⟩ = some (.int .i64 t) := cell_of_row _ _ _ _ _ _ hXr
        have z3 : wr.cell? ⟨w.heap.size, 3, none⟩ = some (.int .i64 k) := cell_of_row _ _ _ _ _ _ hXr
        have z4 := hKr.c0
        have hDr := hKr.doc
        have gr : lk < wr.heap.size := hKr.lkt
        have hXl : w.heap.size < wr.heap.size := by omega
        have m0 := World.new_ne _ _ z0
        have m4 := World.new_ne _ _ z4
        rw [hr', vloopD] at hl
        have hHl := Lib.hid hl
        have hHa := Lib.hid hacc
        clear hl hacc hr'
        go_wp2
        go_region_held3 (fun w' => w'.cell? ⟨w.heap.size, 0, none⟩ = some (.int .i64 p) ∧ w'.cell? ⟨w.heap.size, 1, none⟩ = some (.int .i64 q) ∧ w'.cell? ⟨w.heap.size, 2, none⟩ = some (.int .i64 t) ∧ w'.cell? ⟨w.heap.size, 3, none⟩ = some (.int .i64 k) ∧ w'.cell? ⟨lk, 0, none⟩ = some (.slice (some ⟨b, o, none⟩) n cap)) (first | (with_reducible exact ⟨z0, z1, z2, z3, z4⟩) | (with_reducible exact ⟨k0, k1, k2, k3, k4⟩) | (refine ⟨?_, ?_, ?_, ?_, ?_⟩ <;> go_keep)) (((go_at_call 23; refine (HA.out _ (hDr.below zw)).mono ?_; rintro e w1 ⟨rfl, hb1⟩; obtain ⟨hc1, hf1, hl1⟩ := bcell hb1; (try simp only [zdz] at hc1 hf1 hl1); have hz1 := hb1.size; (try simp only [zsz] at hz1); (try have g0 : w.heap.size < w1.heap.size := by omega); (try have g1 : w.heap.size + 1 < w1.heap.size := by omega); (try have gl : lk < w1.heap.size := by omega)); (try have gR : wr.heap.size < w1.heap.size := by omega); (have k0 : w1.cell? ⟨w.heap.size, 0, none⟩ = some (.int .i64 p) := by go_simp); (have k1 : w1.cell? ⟨w.heap.size, 1, none⟩ = some (.int .i64 q) := by go_simp); (have k2 : w1.cell? ⟨w.heap.size, 2, none⟩ = some (.int .i64 t) := by go_simp); (have k3 : w1.cell? ⟨w.heap.size, 3, none⟩ = some (.int .i64 k) := by go_simp); (have k4 : w1.cell? ⟨lk, 0, none⟩ = some (.slice (some ⟨b, o, none⟩) n cap) := by go_simp); have m0 := World.new_ne _ _ k0; have m4 := World.new_ne _ _ k4))
        · go_upto_region 11 with fail
          refine wp_named (fun wz => Touch [lk] wr wz ∧ DSt 76 wz lk b o n cap D dp fr ar 0 ∧ w.heap.size + 1 < w1.heap.size ∧ w1.heap.size < wz.heap.size ∧ wz.cell? ⟨w1.heap.size, 0, none⟩ = some (.int .i64 (latP D p q t k j)) ∧ wz.cell? ⟨w1.heap.size, 1, none⟩ = some (.int .i64 (latQ D p q t k j)) ∧ wz.cell? ⟨w1.heap.size, 2, none⟩ = some (.int .i64 (latT D p q t k j)) ∧ wz.cell? ⟨w1.heap.size, 3, none⟩ = some (.int .i64 (latW D p q t k j))) ⟨Touch.quiet zw, hKr.keep hKr.low zw (Nat.le_refl _), by omega, by (first | omega | (simp <;> omega)), by go_simp, by go_simp, by go_simp, by go_simp⟩ ?_
          clear hb1 hc1 hf1 hl1 hz1 gl z0 z1 z2 z3 z4 m0 m4 q4
          generalize w1.heap.size = G
          rintro wz ⟨htz, hKz, hG0, hG1, u0, u1, u2, u3⟩
          have hXz := (htz.block _ (Nat.lt_of_succ_lt hYr) hnX).trans hXr
          have hYz := (htz.block _ hYr hnY).trans hYb
          have hYs := Nat.lt_of_lt_of_le hYr htz.size
          have hXs := Nat.lt_of_succ_lt hYs
          have x3 : wz.cell? ⟨w.heap.size, 3, none⟩ = some (.int .i64 k) := cell_of_row _ _ _ _ _ _ hXz
          have x4 : wz.cell? ⟨w.heap.size, 4, none⟩ = some (.int .i64 a) := cell_of_row _ _ _ _ _ _ hXz
          have hl := hHl.out
          by_cases hE : latE D p q t k j = 0
          rotate_left
          · rw [if_pos hE] at hl
            subst hl
            have HE := Lib.hid hE
            clear hE hHN hdg
            go_wp2_with fail
            refine (dtell_no hKz (a + lCnt D p q t k * k + j) (latE D p q t k j) HE.out).mono ?_
            rintro e w1 ⟨rfl, hv1, ht1⟩
            go_wp2_with fail
            go_roundw
            case rel => exact ⟨j + 1, by omega, by go_num, htr.trans (htz.trans ht1), Nat.lt_of_lt_of_le hYs ht1.size, (ht1.block _ hXs hnX).trans hXz, .inr ⟨A1, _, c1, A2, _, c2, _, _, _, (ht1.block _ hYs hnY).trans hYz, rfl, HE.out, hv1⟩⟩
            case measure => simp only [intOf]; omega
          · rw [if_neg (by simpa using hE)] at hl
            have hmay := (dlat_may hE).1
            rw [hD.len] at hmay
            rw [hE]
            have hlm := Lib.hid hl
            clear hl hE
            go_wp2_with fail
            refine (dtell_ok hKz (a + lCnt D p q t k * k + j)).mono ?_
            rintro e w1 ⟨rfl, hv1, ht1⟩
            go_upto_region 12 with fail
            have hnG : G ∉ [lk] := by simp; omega
            refine wp_named (fun wv => Touch [lk] wr wv ∧ DSt 76 wv lk b o n cap D dp fr (a + lCnt D p q t k * k + j) 0 ∧ G < wv.heap.size ∧ wv.cell? ⟨G, 0, none⟩ = some (.int .i64 (latP D p q t k j)) ∧ wv.cell? ⟨G, 1, none⟩ = some (.int .i64 (latQ D p q t k j)) ∧ wv.cell? ⟨G, 2, none⟩ = some (.int .i64 (latT D p q t k j)) ∧ wv.cell? ⟨G, 3, none⟩ = some (.int .i64 (latW D p q t k j))) ⟨htz.trans ht1, hv1, Nat.lt_of_lt_of_le hG1 ht1.size, (touch_cell ht1 hG1 hnG 0).trans u0, (touch_cell ht1 hG1 hnG 1).trans u1, (touch_cell ht1 hG1 hnG 2).trans u2, (touch_cell ht1 hG1 hnG 3).trans u3⟩ ?_
            clear htz hKz hG1 u0 u1 u2 u3 hXz hYz hYs hXs x3 x4 hv1 ht1
            rintro wv ⟨htv, hKv, hGv, u0, u1, u2, u3⟩
            have hXv := (htv.block _ (Nat.lt_of_succ_lt hYr) hnX).trans hXr
            have hYv := (htv.block _ hYr hnY).trans hYb
            have hYs := Nat.lt_of_lt_of_le hYr htv.size
            have hXs := Nat.lt_of_succ_lt hYs
            have x5 : wv.cell? ⟨w.heap.size, 5, none⟩ = some (.int .i64 d) := cell_of_row _ _ _ _ _ _ hXv
            have y5 : wv.cell? ⟨w.heap.size + 1, 5, none⟩ = some (.slice A2 acc.length c2) := cell_of_row _ _ _ _ _ _ hYv
            have hkv := (hkids.touch htv (by omega)).same (w' := wv.drew) (fun _ _ => rfl)
            obtain ⟨i0, hi, hz0, hz1, hz2⟩ := info_parts nodeInfo
            have hKd : DSt 76 wv.drew lk b o n cap D dp fr (a + lCnt D p q t k * k + j) 0 := hKv.keep hKv.low zw (Nat.le_refl _)
            have HND := Lib.hid (fun W a' (hW : DSt 76 W lk b o n cap D dp fr a' 0) => hHN.out W fr a' _ _ _ _ hW hfr hmay)
            have hgd := fun T f (he : dec (latP D p q t k j) (latQ D p q t k j) (latT D p q t k j) (latW D p q t k j) (lFrom D p q t k) (d + 1) fr = .ok (T, f)) => hdg _ _ _ _ _ _ _ _ _ hfr he
            have hwd : IntKind.i64.wrap (d + 1) = d + 1 := IntWalk.i64_in _ (by omega)
            have H63 : Hid (acc.length + 1 ≤ maxLen) := Lib.hid (by have := hHa.out; unfold maxLen; omega)
            have HBY : Hid ((acc.length + 1) * 88 ≤ 140737488355328) := Lib.hid (by have := hHa.out; omega)
            have hkvH := Lib.hid hkv
            have hYvH := Lib.hid hYv
            have hXvH := Lib.hid hXv
            clear hmay hkids hkv hYb hXr hYv hXv
            generalize dec (latP D p q t k j) (latQ D p q t k j) (latT D p q t k j) (latW D p q t k j) (lFrom D p q t k) (d + 1) fr = res at *
            go_region_law ((first | (refine step_append_where rfl (.tmp 91) (.tmp 99) 42 rfl 44 i0 (.agg #[.int .i64 0, .int .i64 0, .int .u64 0, .string ⟨#[]⟩, .slice none 0 0, .slice none 0 0]) 6 88 Try.underlying42 hi hz0 hz1 hz2 rfl (by decide) (.slice A2 acc.length c2) acc.length xs rfl own1.out ⟨w1.heap.size, 0, none⟩ 1 1 [.int .i64 kd1, .int .i64 nn1, .int .u64 uu1, .string s1, .slice B1 m1 d1, .slice B2 m2 d2] rfl rfl (row_at (heap_alloc_new _ _)) six_one H63.out HBY.out ?_; intro v' w3 ho hg hwh; obtain ⟨A', n', c', rfl⟩ := owns_sl ho; have hfin := Kids.next hkvH.out (by omega) (by omega) (by show _ ≤ wv.heap.size; omega) hp hg ho (hwh.elim .inl (fun e => .inr e)) hlm.out hr2 hHa.out hgd; have hY3 := (hfin.1 (w.heap.size + 1) hYs (by omega) (fun e => by have := hkvH.out.ge (w.heap.size + 1) (by simp [mem_blk, e]); omega)).trans hYvH.out; have hX3 := (hfin.1 w.heap.size hXs (by omega) (fun e => by have := hkvH.out.ge w.heap.size (by simp [mem_blk, e]); omega)).trans hXvH.out; have k5 : w3.cell? ⟨w.heap.size + 1, 5, none⟩ = some (.slice A2 acc.length c2) := cell_of_row _ _ _ _ _ _ hY3; have k5f := frozen_of_row _ _ 5 _ _ hY3; have htw3 := touch_grown (((htr.trans (htv.trans (Touch.drew _ _))).trans ht1).trans (Touch.quiet ((Below.refl _ _).alloc (Nat.le_refl _) _))) hg (fun k hk => by have := hkvH.out.ge k (by simp [mem_blk, hk]); omega); have hs3 : w.heap.size + 1 < w3.heap.size := (by have h8 := hg.size; have h9 := ht1.size; simp only [zsz] at h8 h9; omega); have hend := Lib.hid (And.intro htw3 (And.intro hs3 (And.intro hX3 (And.intro hY3 hfin.2)))); clear hfin hY3 hX3 htw3 hs3 ho hg hwh) | (go_simp; go_at_call 33; refine (HND.out _ _ hKd).mono ?_; intro e w1 hp; obtain ⟨kd1, nn1, uu1, s1, B1, m1, d1, B2, m2, d2, rfl, ht1, -, hp⟩ := npost_shape hp; have hYs1 : w.heap.size + 1 < w1.heap.size := Nat.lt_of_lt_of_le hYs ht1.size; have hY1 := (ht1.block _ hYs hnY).trans hYvH.out; have own1 := Lib.hid ((hkvH.out.touch ht1 (by omega)).r.alloc (.cells #[.int .i64 kd1, .int .i64 nn1, .int .u64 uu1, .string s1, .slice B1 m1 d1, .slice B2 m2 d2] 44)); have y51 : w1.cell? ⟨w.heap.size + 1, 5, none⟩ = some (.slice A2 acc.length c2) := cell_of_row _ _ _ _ _ _ hY1; clear hY1; (try go_simp))))
            all_goals (go_wp2_with fail; go_roundw; (case rel => exact ⟨j + 1, by omega, by go_num, VSt.step (by omega) (by omega) hend.out⟩); (case measure => simp only [intOf]; omega))
        · go_upto_region 11 with fail
          refine wp_named (fun wz => Touch [lk] wr wz ∧ DSt 76 wz lk b o n cap D dp fr ar 0 ∧ w.heap.size + 1 < wr.heap.size ∧ wr.heap.size < wz.heap.size ∧ wz.cell? ⟨wr.heap.size, 0, none⟩ = some (.int .i64 (latP D p q t k j)) ∧ wz.cell? ⟨wr.heap.size, 1, none⟩ = some (.int .i64 (latQ D p q t k j)) ∧ wz.cell? ⟨wr.heap.size, 2, none⟩ = some (.int .i64 (latT D p q t k j)) ∧ wz.cell? ⟨wr.heap.size, 3, none⟩ = some (.int .i64 (latW D p q t k j))) ⟨Touch.quiet zw, hKr.keep hKr.low zw (Nat.le_refl _), hYr, by (first | omega | (simp <;> omega)), by go_simp, by go_simp, by go_simp, by go_simp⟩ ?_
          clear hb1 hc1 hf1 hl1 hz1 gl z0 z1 z2 z3 z4 m0 m4 q4
          generalize hGq : wr.heap.size = G
          clear hGq
          rintro wz ⟨htz, hKz, hG0, hG1, u0, u1, u2, u3⟩
          have hXz := (htz.block _ (Nat.lt_of_succ_lt hYr) hnX).trans hXr
          have hYz := (htz.block _ hYr hnY).trans hYb
          have hYs := Nat.lt_of_lt_of_le hYr htz.size
          have hXs := Nat.lt_of_succ_lt hYs
          have x3 : wz.cell? ⟨w.heap.size, 3, none⟩ = some (.int .i64 k) := cell_of_row _ _ _ _ _ _ hXz
          have x4 : wz.cell? ⟨w.heap.size, 4, none⟩ = some (.int .i64 a) := cell_of_row _ _ _ _ _ _ hXz
          have hl := hHl.out
          by_cases hE : latE D p q t k j = 0
          rotate_left
          · rw [if_pos hE] at hl
            subst hl
            have HE := Lib.hid hE
            clear hE hHN hdg
            go_wp2_with fail
            refine (dtell_no hKz (a + lCnt D p q t k * k + j) (latE D p q t k j) HE.out).mono ?_
            rintro e w1 ⟨rfl, hv1, ht1⟩
            go_wp2_with fail
            go_roundw
            case rel => exact ⟨j + 1, by omega, by go_num, htr.trans (htz.trans ht1), Nat.lt_of_lt_of_le hYs ht1.size, (ht1.block _ hXs hnX).trans hXz, .inr ⟨A1, _, c1, A2, _, c2, _, _, _, (ht1.block _ hYs hnY).trans hYz, rfl, HE.out, hv1⟩⟩
            case measure => simp only [intOf]; omega
          · rw [if_neg (by simpa using hE)] at hl
            have hmay := (dlat_may hE).1
            rw [hD.len] at hmay
            rw [hE]
            have hlm := Lib.hid hl
            clear hl hE
            go_wp2_with fail
            refine (dtell_ok hKz (a + lCnt D p q t k * k + j)).mono ?_
            rintro e w1 ⟨rfl, hv1, ht1⟩
            go_upto_region 12 with fail
            have hnG : G ∉ [lk] := by simp; omega
            refine wp_named (fun wv => Touch [lk] wr wv ∧ DSt 76 wv lk b o n cap D dp fr (a + lCnt D p q t k * k + j) 0 ∧ G < wv.heap.size ∧ wv.cell? ⟨G, 0, none⟩ = some (.int .i64 (latP D p q t k j)) ∧ wv.cell? ⟨G, 1, none⟩ = some (.int .i64 (latQ D p q t k j)) ∧ wv.cell? ⟨G, 2, none⟩ = some (.int .i64 (latT D p q t k j)) ∧ wv.cell? ⟨G, 3, none⟩ = some (.int .i64 (latW D p q t k j))) ⟨htz.trans ht1, hv1, Nat.lt_of_lt_of_le hG1 ht1.size, (touch_cell ht1 hG1 hnG 0).trans u0, (touch_cell ht1 hG1 hnG 1).trans u1, (touch_cell ht1 hG1 hnG 2).trans u2, (touch_cell ht1 hG1 hnG 3).trans u3⟩ ?_
            clear htz hKz hG1 u0 u1 u2 u3 hXz hYz hYs hXs x3 x4 hv1 ht1
            rintro wv ⟨htv, hKv, hGv, u0, u1, u2, u3⟩
            have hXv := (htv.block _ (Nat.lt_of_succ_lt hYr) hnX).trans hXr
            have hYv := (htv.block _ hYr hnY).trans hYb
            have hYs := Nat.lt_of_lt_of_le hYr htv.size
            have hXs := Nat.lt_of_succ_lt hYs
            have x5 : wv.cell? ⟨w.heap.size, 5, none⟩ = some (.int .i64 d) := cell_of_row _ _ _ _ _ _ hXv
            have y5 : wv.cell? ⟨w.heap.size + 1, 5, none⟩ = some (.slice A2 acc.length c2) := cell_of_row _ _ _ _ _ _ hYv
            have hkv := (hkids.touch htv (by omega)).same (w' := wv.drew) (fun _ _ => rfl)
            obtain ⟨i0, hi, hz0, hz1, hz2⟩ := info_parts nodeInfo
            have hKd : DSt 76 wv.drew lk b o n cap D dp fr (a + lCnt D p q t k * k + j) 0 := hKv.keep hKv.low zw (Nat.le_refl _)
            have HND := Lib.hid (fun W a' (hW : DSt 76 W lk b o n cap D dp fr a' 0) => hHN.out W fr a' _ _ _ _ hW hfr hmay)
            have hgd := fun T f (he : dec (latP D p q t k j) (latQ D p q t k j) (latT D p q t k j) (latW D p q t k j) (lFrom D p q t k) (d + 1) fr = .ok (T, f)) => hdg _ _ _ _ _ _ _ _ _ hfr he
            have hwd : IntKind.i64.wrap (d + 1) = d + 1 := IntWalk.i64_in _ (by omega)
            have H63 : Hid (acc.length + 1 ≤ maxLen) := Lib.hid (by have := hHa.out; unfold maxLen; omega)
            have HBY : Hid ((acc.length + 1) * 88 ≤ 140737488355328) := Lib.hid (by have := hHa.out; omega)
            have hkvH := Lib.hid hkv
            have hYvH := Lib.hid hYv
            have hXvH := Lib.hid hXv
            clear hmay hkids hkv hYb hXr hYv hXv
            generalize dec (latP D p q t k j) (latQ D p q t k j) (latT D p q t k j) (latW D p q t k j) (lFrom D p q t k) (d + 1) fr = res at *
            go_region_law ((first | (refine step_append_where rfl (.tmp 91) (.tmp 99) 42 rfl 44 i0 (.agg #[.int .i64 0, .int .i64 0, .int .u64 0, .string ⟨#[]⟩, .slice none 0 0, .slice none 0 0]) 6 88 Try.underlying42 hi hz0 hz1 hz2 rfl (by decide) (.slice A2 acc.length c2) acc.length xs rfl own1.out ⟨w1.heap.size, 0, none⟩ 1 1 [.int .i64 kd1, .int .i64 nn1, .int .u64 uu1, .string s1, .slice B1 m1 d1, .slice B2 m2 d2] rfl rfl (row_at (heap_alloc_new _ _)) six_one H63.out HBY.out ?_; intro v' w3 ho hg hwh; obtain ⟨A', n', c', rfl⟩ := owns_sl ho; have hfin := Kids.next hkvH.out (by omega) (by omega) (by show _ ≤ wv.heap.size; omega) hp hg ho (hwh.elim .inl (fun e => .inr e)) hlm.out hr2 hHa.out hgd; have hY3 := (hfin.1 (w.heap.size + 1) hYs (by omega) (fun e => by have := hkvH.out.ge (w.heap.size + 1) (by simp [mem_blk, e]); omega)).trans hYvH.out; have hX3 := (hfin.1 w.heap.size hXs (by omega) (fun e => by have := hkvH.out.ge w.heap.size (by simp [mem_blk, e]); omega)).trans hXvH.out; have k5 : w3.cell? ⟨w.heap.size + 1, 5, none⟩ = some (.slice A2 acc.length c2) := cell_of_row _ _ _ _ _ _ hY3; have k5f := frozen_of_row _ _ 5 _ _ hY3; have htw3 := touch_grown (((htr.trans (htv.trans (Touch.drew _ _))).trans ht1).trans (Touch.quiet ((Below.refl _ _).alloc (Nat.le_refl _) _))) hg (fun k hk => by have := hkvH.out.ge k (by simp [mem_blk, hk]); omega); have hs3 : w.heap.size + 1 < w3.heap.size := (by have h8 := hg.size; have h9 := ht1.size; simp only [zsz] at h8 h9; omega); have hend := Lib.hid (And.intro htw3 (And.intro hs3 (And.intro hX3 (And.intro hY3 hfin.2)))); clear hfin hY3 hX3 htw3 hs3 ho hg hwh) | (go_simp; go_at_call 33; refine (HND.out _ _ hKd).mono ?_; intro e w1 hp; obtain ⟨kd1, nn1, uu1, s1, B1, m1, d1, B2, m2, d2, rfl, ht1, -, hp⟩ := npost_shape hp; have hYs1 : w.heap.size + 1 < w1.heap.size := Nat.lt_of_lt_of_le hYs ht1.size; have hY1 := (ht1.block _ hYs hnY).trans hYvH.out; have own1 := Lib.hid ((hkvH.out.touch ht1 (by omega)).r.alloc (.cells #[.int .i64 kd1, .int .i64 nn1, .int .u64 uu1, .string s1, .slice B1 m1 d1, .slice B2 m2 d2] 44)); have y51 : w1.cell? ⟨w.heap.size + 1, 5, none⟩ = some (.slice A2 acc.length c2) := cell_of_row _ _ _ _ _ _ hY1; clear hY1; (try go_simp))))
            all_goals (go_wp2_with fail; go_roundw; (case rel => exact ⟨j + 1, by omega, by go_num, VSt.step (by omega) (by omega) hend.out⟩); (case measure => simp only [intOf]; omega))
end
end Go.Proofs.Ytmpflnlajakibaa
