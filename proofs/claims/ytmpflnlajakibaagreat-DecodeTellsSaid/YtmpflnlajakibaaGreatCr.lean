/- The reference's vector: no map. -/
import Derived.Test.YtmpflnlajakibaaGreatCno
namespace Go.Proofs.YtmpflnlajakibaaGreat
set_option linter.unusedVariables false
set_option linter.unusedSimpArgs false
set_option linter.unusedSectionVars false
open Go.RowKit
section
variable {w : World} {lk b o n cap : Nat} {D : List UInt8} {dp fu a0 : Int}
set_option maxHeartbeats 8000000 in
set_option maxRecDepth 100000 in
theorem rvec_n (F : Int) (dec : DecF) (hdg : DecGood F dec) (h : DSt 49 w lk b o n cap D dp fu a0 0) (hfu : InF F fu) (p q t k a d : Int) (ha0 : 0 ≤ a) (ha1 : a ≤ 1073741824) (hd0 : 0 ≤ d) (hd1 : d ≤ 2147483648) (hleg : legalB t = true)
    (HN : HypNode F 49 17 dec lk b o n cap D dp (lFrom D p q t k) (d + 1)) (he : lfindE D p q t k = 0) (t9 : t ≠ 9) (r : DR (DT × Int)) (hr : vecD dec D p q t k a d fu = r) :
    Calls Tryz.prog 48 #[.pointer (some ⟨lk, 0, none⟩), .agg #[.int .i64 p, .int .i64 q, .int .i64 t, .int .i64 k], .int .i64 a, .int .i64 d] w (VPost 49 (kindD t) w lk b o n cap D dp r) := by
  have H_he := Lib.hid he
  have H_t9 := Lib.hid t9
  clear he t9
  have hlow := h.low
  have hD := h.doc
  obtain ⟨hn1, hn2⟩ := hD.bd
  have hbw := hlow.b
  have hlw := hlow.l
  have hHR := Lib.hid hr
  have hHN := Lib.hid HN
  have HSp := Lib.hid (fun W (hW : Doc W b o n cap D) => rSpan_any b o n cap D p q t k W hW)
  have HLe := Lib.hid (fun W (hW : Doc W b o n cap D) => rLen_any b o n cap D p q t k W hW)
  have HKd := fun W => Lib.hid (rkind_any p q t k hleg W)
  generalize kindD t = kd at *
  clear hr HN hleg
  go_enter Tryz.func48, Tryz.ntmps48
  go_upto_region 2 with (go_at_call 40; refine ((HKd _).out).mono ?_; rintro e w1 ⟨rfl, hb1⟩; obtain ⟨hc1, hf1, hl1⟩ := bcell hb1; (try simp only [zdz] at hc1 hf1 hl1); have hz1 := hb1.size; (try simp only [zsz] at hz1); (try have g0 : w.heap.size < w1.heap.size := by omega); (try have g1 : w.heap.size + 1 < w1.heap.size := by omega); (try have gl : lk < w1.heap.size := by omega))
  refine wp_named (fun wn => Touch [lk] w wn ∧ DSt 49 wn lk b o n cap D dp fu a0 0 ∧ w.heap.size + 1 < w1.heap.size ∧ w1.heap.size < wn.heap.size ∧ wn.heap[w.heap.size]? = some (.cells #[.int .i64 p, .int .i64 q, .int .i64 t, .int .i64 k] 24 (0, 0)) ∧ wn.heap[w.heap.size + 1]? = some (.cells #[.int .i64 0, .int .i64 0, .int .u64 0, .string ⟨#[]⟩, .slice none 0 0, .slice none 0 0] 31 (0, 0)) ∧ wn.heap[w1.heap.size]? = some (.cells (nodeCells kd 0 0 [] (.slice none 0 0) (.slice none 0 0)) 31 (0, 0))) ⟨Touch.quiet zw, h.keep hlow zw (Nat.le_refl _), by omega, by simp, ((((Below.refl w1.heap.size w1).alloc (Nat.le_refl _) _).block _ (by omega)).trans (hb1.block _ (by simp; omega))).trans (heap_made_1 _ _ _), ((((Below.refl w1.heap.size w1).alloc (Nat.le_refl _) _).block _ (by omega)).trans (hb1.block _ (by simp))).trans (heap_made_2 _ _ _), heap_alloc_new _ _⟩ ?_
  clear hb1 hc1 hf1 hl1 hz1 HKd
  generalize w1.heap.size = Z
  rintro wn ⟨htn, hKn, hZ0, hZ1, hXb, hYb, hZb⟩
  have hnX : w.heap.size ∉ [lk] := by simp; omega
  have hnY : w.heap.size + 1 ∉ [lk] := by simp; omega
  have hnZ : Z ∉ [lk] := by simp; omega
  have gln : lk < wn.heap.size := hKn.lkt
  have hX : w.heap.size < wn.heap.size := by omega
  have hDn := hKn.doc
  have z0 : wn.cell? ⟨w.heap.size, 0, none⟩ = some (.int .i64 p) := cell_of_row _ _ _ _ _ _ hXb
  have z1 : wn.cell? ⟨w.heap.size, 1, none⟩ = some (.int .i64 q) := cell_of_row _ _ _ _ _ _ hXb
  have z2 : wn.cell? ⟨w.heap.size, 2, none⟩ = some (.int .i64 t) := cell_of_row _ _ _ _ _ _ hXb
  have z3 : wn.cell? ⟨w.heap.size, 3, none⟩ = some (.int .i64 k) := cell_of_row _ _ _ _ _ _ hXb
  have z4 := hKn.c0
  go_region_held3 (fun w' => w'.cell? ⟨w.heap.size, 0, none⟩ = some (.int .i64 p) ∧ w'.cell? ⟨w.heap.size, 1, none⟩ = some (.int .i64 q) ∧ w'.cell? ⟨w.heap.size, 2, none⟩ = some (.int .i64 t) ∧ w'.cell? ⟨w.heap.size, 3, none⟩ = some (.int .i64 k) ∧ w'.cell? ⟨lk, 0, none⟩ = some (.slice (some ⟨b, o, none⟩) n cap)) (first | (with_reducible exact ⟨z0, z1, z2, z3, z4⟩) | (with_reducible exact ⟨k0, k1, k2, k3, k4⟩) | (refine ⟨?_, ?_, ?_, ?_, ?_⟩ <;> go_keep)) (((go_at_call 69; refine (HSp.out _ (hDn.below zw)).mono ?_; rintro e w1 ⟨rfl, hb1⟩; obtain ⟨hc1, hf1, hl1⟩ := bcell hb1; (try simp only [zdz] at hc1 hf1 hl1); have hz1 := hb1.size; (try simp only [zsz] at hz1); (try have g0 : w.heap.size < w1.heap.size := by omega); (try have g1 : w.heap.size + 1 < w1.heap.size := by omega); (try have gl : lk < w1.heap.size := by omega))))
  go_upto_region 3 with fail
  refine wp_named (fun wx => Touch [lk] wn wx ∧ DSt 49 wx lk b o n cap D dp fu a0 0) ⟨Touch.quiet zw, hKn.keep hKn.low zw (Nat.le_refl _)⟩ ?_
  clear hb1 hc1 hf1 hl1 hz1 gl z0 z1 z2 z3 z4 hDn
  rintro wx ⟨htx, hKx⟩
  have hXx := touch_row htx hXb hnX
  have hYx := touch_row htx hYb hnY
  have hZx := touch_row htx hZb hnZ
  have htw := htn.trans htx
  have hs := htx.size
  clear htx htn hKn hXb hYb hZb gln hX
  have he := H_he.out
  have hL := lfindE_zero he
  rw [hD.len] at hL
  have hlh := hHR.out
  unfold vecD at hlh
  rw [if_neg (by simpa using he)] at hlh
  have hHR := Lib.hid hlh
  clear hlh
  have hF0 := lFrom_nonneg D p q t k
  have hcm : 0 ≤ lCnt D p q t k ∧ lCnt D p q t k ≤ 1073741824 := ⟨hL.2.2.2.2.2.1, by have := hL; omega⟩
  obtain ⟨g0, -, g1, -, g2, g3, g4, g5, g6, -, g7⟩ := lfindE_zero he
  obtain ⟨-, -, hkw, -, -, -, k1, k8, -⟩ := mayE_zero (targetE_zero g0).1
  rw [hD.len] at g4
  have hF3 : t = 9 → lFrom D p q t k + 3 * k ≤ n := fun h9 => by
    subst h9
    have ha9 : aheadOf 9 = 3 := rfl
    have y2 : 0 ≤ lCnt D p q 9 k * (k + tagsOf 9) := Int.mul_nonneg g3 (by have := tagsOf_bd 9; omega)
    rw [ha9] at g7
    omega
  have Hfe := Lib.hid he
  rw [he] at HLe
  rw [he]
  clear hL g0 g1 g2 g3 g4 g5 g6 g7 he
  go_upto_region 6 with fail
  have hX : w.heap.size < wx.heap.size := by omega
  have gln : lk < wx.heap.size := hKx.lkt
  have hDy := hKx.doc
  have z0 : wx.cell? ⟨w.heap.size, 0, none⟩ = some (.int .i64 p) := cell_of_row _ _ _ _ _ _ hXx
  have z1 : wx.cell? ⟨w.heap.size, 1, none⟩ = some (.int .i64 q) := cell_of_row _ _ _ _ _ _ hXx
  have z2 : wx.cell? ⟨w.heap.size, 2, none⟩ = some (.int .i64 t) := cell_of_row _ _ _ _ _ _ hXx
  have z3 : wx.cell? ⟨w.heap.size, 3, none⟩ = some (.int .i64 k) := cell_of_row _ _ _ _ _ _ hXx
  have z4 := hKx.c0
  go_region_held3 (fun w' => w'.cell? ⟨w.heap.size, 0, none⟩ = some (.int .i64 p) ∧ w'.cell? ⟨w.heap.size, 1, none⟩ = some (.int .i64 q) ∧ w'.cell? ⟨w.heap.size, 2, none⟩ = some (.int .i64 t) ∧ w'.cell? ⟨w.heap.size, 3, none⟩ = some (.int .i64 k) ∧ w'.cell? ⟨lk, 0, none⟩ = some (.slice (some ⟨b, o, none⟩) n cap)) (first | (with_reducible exact ⟨z0, z1, z2, z3, z4⟩) | (with_reducible exact ⟨k0, k1, k2, k3, k4⟩) | (refine ⟨?_, ?_, ?_, ?_, ?_⟩ <;> go_keep)) (((go_at_call 70; refine (HLe.out _ (hDy.below zw)).mono ?_; rintro e w1 ⟨rfl, hb1⟩; obtain ⟨hc1, hf1, hl1⟩ := bcell hb1; (try simp only [zdz] at hc1 hf1 hl1); have hz1 := hb1.size; (try simp only [zsz] at hz1); (try have g0 : w.heap.size < w1.heap.size := by omega); (try have g1 : w.heap.size + 1 < w1.heap.size := by omega); (try have gl : lk < w1.heap.size := by omega))))
  go_upto_region 7 with fail
  refine wp_named (fun wy => Touch [lk] wx wy ∧ DSt 49 wy lk b o n cap D dp fu a0 0) ⟨Touch.quiet zw, hKx.keep hKx.low zw (Nat.le_refl _)⟩ ?_
  clear hb1 hc1 hf1 hl1 hz1 gl z0 z1 z2 z3 z4 hDy
  rintro wy ⟨hty, hKy⟩
  have hXy := touch_row hty hXx hnX
  have hYy := touch_row hty hYx hnY
  have hZy := touch_row hty hZx hnZ
  have htw := htw.trans hty
  have hs2 := hty.size
  clear hty hKx hXx hYx hZx gln hX
  have z0 : wy.cell? ⟨w.heap.size, 0, none⟩ = some (.int .i64 p) := cell_of_row _ _ _ _ _ _ hXy
  have z1 : wy.cell? ⟨w.heap.size, 1, none⟩ = some (.int .i64 q) := cell_of_row _ _ _ _ _ _ hXy
  have z2 : wy.cell? ⟨w.heap.size, 2, none⟩ = some (.int .i64 t) := cell_of_row _ _ _ _ _ _ hXy
  have z3 : wy.cell? ⟨w.heap.size, 3, none⟩ = some (.int .i64 k) := cell_of_row _ _ _ _ _ _ hXy
  obtain ⟨hcm0, hcm1⟩ := hcm
  have t9 := H_t9.out
  have g9 : (t == 9) = false := by simpa using t9
  have hl := hHR.out
  rw [if_neg t9] at hl
  obtain ⟨rl, hrl⟩ : ∃ rl, vloopD dec D p q t k a d (lCnt D p q t k).toNat 0 [] fu = rl := ⟨_, rfl⟩
  have hrf : r = finV t [] rl := by rw [← hl, ← hrl]; rfl
  go_upto_region 11 with fail
  refine wp_named (fun wl => Touch [lk] w wl ∧ wl.heap[w.heap.size]? = some (.cells #[.int .i64 p, .int .i64 q, .int .i64 t, .int .i64 k] 24 (0, 0)) ∧ wl.heap[w.heap.size + 1]? = some (.cells #[.int .i64 0, .int .i64 0, .int .u64 0, .string ⟨#[]⟩, .slice none 0 0, .slice none 0 0] 31 (0, 0)) ∧ RSt6 F 49 Z kd (.slice none 0 0) wl lk b o n cap D dp dec p q t k a d [] rl 0) ⟨htw, hXy, hYy, .inl ⟨.slice none 0 0, [], [], [], fu, a0, hZy, ⟨⟨rfl, .inl ⟨rfl, rfl⟩⟩, ⟨rfl, .inl ⟨rfl, rfl⟩⟩, by rw [NReps]; exact ⟨rfl, rfl⟩, by simp [blkL, Value.ownBlock], by simp [blkL, Value.ownBlock]⟩, rfl, hKy, hfu, hrl⟩⟩ ?_
  clear hl hrl t9
  clear z0 z1 z2 z3 hKy hXy hYy hZy htw hHR HLe HSp
  rintro wl ⟨htl, hXl, hYl, hst⟩
  have hst := Lib.hid hst
  go_loopw [16, 17] (fun v i wr => ∃ j : Nat, (j : Int) ≤ lCnt D p q t k ∧ i = .int .i64 j ∧ Touch [lk] w wr ∧ wr.heap[w.heap.size]? = some (.cells #[.int .i64 p, .int .i64 q, .int .i64 t, .int .i64 k] 24 (0, 0)) ∧ wr.heap[w.heap.size + 1]? = some (.cells #[.int .i64 0, .int .i64 0, .int .u64 0, .string ⟨#[]⟩, .slice none 0 0, .slice none 0 0] 31 (0, 0)) ∧ RSt6 F 49 Z kd v wr lk b o n cap D dp dec p q t k a d [] rl j) (fun _ i _ => (lCnt D p q t k).toNat - (intOf i).toNat)
  case atStart => exact ⟨0, hcm0, rfl, htl, hXl, hYl, hst.out⟩
  case round =>
    obtain ⟨j, hj, rfl, htr, hXr, hYe, hs⟩ := hrel
    clear hst htl hYl hXl
    have hnX : w.heap.size ∉ [lk] := by simp; omega
    have hnY : w.heap.size + 1 ∉ [lk] := by simp; omega
    rcases hs with ⟨kv, xs, bl, acc, fr, ar, hZe, hkids, hacc, hKr, hfr, hl⟩ | ⟨A1, m1, c1, A2, m2, c2, ae, ee, ff, rfl, hZe, rfl, he0, hKr⟩
    rotate_left
    · have q4 := hKr.c4
      have he1 : (ee == 0) = false := by simpa using he0
      obtain rfl : r = .error (ae, ee) := hrf
      have n0 : wr.cell? ⟨w.heap.size + 1, 0, none⟩ = some (.int .i64 0) := cell_of_row _ _ _ _ _ _ hYe
      have n1 : wr.cell? ⟨w.heap.size + 1, 1, none⟩ = some (.int .i64 0) := cell_of_row _ _ _ _ _ _ hYe
      have n2 : wr.cell? ⟨w.heap.size + 1, 2, none⟩ = some (.int .u64 0) := cell_of_row _ _ _ _ _ _ hYe
      have n3 : wr.cell? ⟨w.heap.size + 1, 3, none⟩ = some (.string ⟨#[]⟩) := cell_of_row _ _ _ _ _ _ hYe
      have n4 : wr.cell? ⟨w.heap.size + 1, 4, none⟩ = some (.slice none 0 0) := cell_of_row _ _ _ _ _ _ hYe
      have n5 : wr.cell? ⟨w.heap.size + 1, 5, none⟩ = some (.slice none 0 0) := cell_of_row _ _ _ _ _ _ hYe
      have cz0 : wr.cell? ⟨Z, 0, none⟩ = some (.int .i64 kd) := cell_of_row _ _ _ _ _ _ hZe
      have cz1 : wr.cell? ⟨Z, 1, none⟩ = some (.int .i64 0) := cell_of_row _ _ _ _ _ _ hZe
      have cz2 : wr.cell? ⟨Z, 2, none⟩ = some (.int .u64 0) := cell_of_row _ _ _ _ _ _ hZe
      have cz3 : wr.cell? ⟨Z, 3, none⟩ = some (.string ⟨#[]⟩) := cell_of_row _ _ _ _ _ _ hZe
      have cz4 : wr.cell? ⟨Z, 4, none⟩ = some (.slice A1 m1 c1) := cell_of_row _ _ _ _ _ _ hZe
      have cz5 : wr.cell? ⟨Z, 5, none⟩ = some (.slice none 0 0) := cell_of_row _ _ _ _ _ _ hZe
      have hfz := fun (j : Nat) => frozen_of_row _ _ j _ _ hYe
      have gYe := (Array.getElem?_eq_some_iff.1 hYe).1
      have gZe := (Array.getElem?_eq_some_iff.1 hZe).1
      have hfm := fun (j : Nat) => frozen_of_row _ _ j _ _ hZe
      have hKY := (hKr.still (Touch.setCell _ Z 5 (.slice A2 m2 c2)) (by simp; omega : lk ∉ [Z]) (by simp; omega : b ∉ [Z])).still (touch6 (.int .i64 kd) (.int .i64 0) (.int .u64 0) (.string ⟨#[]⟩) (.slice A1 m1 c1) (.slice A2 m2 c2)) (by simp; omega : lk ∉ [w.heap.size + 1]) (by simp; omega : b ∉ [w.heap.size + 1])
      have hBy : Tch w.heap.size [lk] w wr := htr.tch (Nat.le_refl _)
      have HE := Lib.hid he0
      have hYZ : Z ≠ w.heap.size + 1 := by omega
      clear hYe hZe hXr htr he0 hHN hdg
      by_cases hlt : (j : Int) < lCnt D p q t k
      all_goals go_wp2
      all_goals refine bodyPost_ret (v := .agg #[.int .i64 kd, .int .i64 0, .int .u64 0, .string ⟨#[]⟩, .slice A1 m1 c1, .slice A2 m2 c2]) (by simp [results, Tryz.results48, go_sem, *]) rfl ?_
      all_goals exact ⟨kd, 0, 0, ⟨#[]⟩, A1, m1, c1, A2, m2, c2, ff, rfl, HE.out, hKY, Tch.touch (by (repeat' first | (with_reducible first | exact Tch.refl _ _ _ | assumption | refine Tch.alloc ?_ ?_ _ | refine Tch.drew ?_ | refine Tch.drewN ?_ _ | refine Tch.setCell ?_ ?_ _ | refine Tch.setBlock ?_ (by simp) _ | refine tch_call (by assumption) ?_ ?_ | refine tch_below (by assumption) ?_ ?_ | exact zb6 _) | omega | (simp only [zsz, size_setBlock]; omega) | (simp; omega)))⟩
    · obtain ⟨A1, c1, rfl⟩ := owns_ptr hkids.k
      obtain ⟨A2, c2, rfl⟩ := owns_ptr hkids.r
      have q4 := hKr.c4
      by_cases hlt : (j : Int) < lCnt D p q t k
      rotate_left
      · have hjc : (lCnt D p q t k).toNat - j = 0 := by omega
        rw [hjc, vloopD] at hl
        subst hl
        have hrf2 : r = .ok (.mk (kindD t) 0 0 [] [] acc, fr) := hrf
        have n0 : wr.cell? ⟨w.heap.size + 1, 0, none⟩ = some (.int .i64 0) := cell_of_row _ _ _ _ _ _ hYe
        have n1 : wr.cell? ⟨w.heap.size + 1, 1, none⟩ = some (.int .i64 0) := cell_of_row _ _ _ _ _ _ hYe
        have n2 : wr.cell? ⟨w.heap.size + 1, 2, none⟩ = some (.int .u64 0) := cell_of_row _ _ _ _ _ _ hYe
        have n3 : wr.cell? ⟨w.heap.size + 1, 3, none⟩ = some (.string ⟨#[]⟩) := cell_of_row _ _ _ _ _ _ hYe
        have n4 : wr.cell? ⟨w.heap.size + 1, 4, none⟩ = some (.slice none 0 0) := cell_of_row _ _ _ _ _ _ hYe
        have n5 : wr.cell? ⟨w.heap.size + 1, 5, none⟩ = some (.slice none 0 0) := cell_of_row _ _ _ _ _ _ hYe
        have cz0 : wr.cell? ⟨Z, 0, none⟩ = some (.int .i64 kd) := cell_of_row _ _ _ _ _ _ hZe
        have cz1 : wr.cell? ⟨Z, 1, none⟩ = some (.int .i64 0) := cell_of_row _ _ _ _ _ _ hZe
        have cz2 : wr.cell? ⟨Z, 2, none⟩ = some (.int .u64 0) := cell_of_row _ _ _ _ _ _ hZe
        have cz3 : wr.cell? ⟨Z, 3, none⟩ = some (.string ⟨#[]⟩) := cell_of_row _ _ _ _ _ _ hZe
        have cz4 : wr.cell? ⟨Z, 4, none⟩ = some (.slice A1 0 c1) := cell_of_row _ _ _ _ _ _ hZe
        have cz5 : wr.cell? ⟨Z, 5, none⟩ = some (.slice none 0 0) := cell_of_row _ _ _ _ _ _ hZe
        have hfz := fun (j : Nat) => frozen_of_row _ _ j _ _ hYe
        have gYe := (Array.getElem?_eq_some_iff.1 hYe).1
        have gZe := (Array.getElem?_eq_some_iff.1 hZe).1
        have hfm := fun (j : Nat) => frozen_of_row _ _ j _ _ hZe
        have htZ := Touch.setCell wr Z 5 (.slice A2 acc.length c2)
        have ht6 := touch6 (w := wr.setCell ⟨Z, 5, none⟩ (.slice A2 acc.length c2)) (Y := w.heap.size + 1) (.int .i64 kd) (.int .i64 0) (.int .u64 0) (.string ⟨#[]⟩) (.slice A1 0 c1) (.slice A2 acc.length c2)
        have hKY := (hKr.still htZ (by simp; omega : lk ∉ [Z]) (by simp; omega : b ∉ [Z])).still ht6 (by simp; omega : lk ∉ [w.heap.size + 1]) (by simp; omega : b ∉ [w.heap.size + 1])
        have hkY0 := hkids.same fun i hi => htZ.block i (hkids.lt i hi) (by have := hkids.ge i hi; simp; omega)
        have hkY := hkY0.same fun i hi => ht6.block i (hkY0.lt i hi) (by have := hkY0.ge i hi; simp; omega)
        have hBy : Tch w.heap.size [lk] w wr := htr.tch (Nat.le_refl _)
        have hYZ : Z ≠ w.heap.size + 1 := by omega
        clear hYe hZe hXr htr hHN hdg htZ ht6 hkids hkY0 hacc hKr
        go_wp2
        refine bodyPost_ret (v := .agg #[.int .i64 kd, .int .i64 0, .int .u64 0, .string ⟨#[]⟩, .slice A1 0 c1, .slice A2 acc.length c2]) (by simp [results, Tryz.results48, go_sem, *]) rfl ?_
        subst hrf2
        exact ⟨_, _, xs, bl, ar, rfl, hkY.k, hkY.r, hkY.n, hkY.nd, fun i hi => by have := hkY.ge i hi; omega, hKY, Tch.touch (by (repeat' first | (with_reducible first | exact Tch.refl _ _ _ | assumption | refine Tch.alloc ?_ ?_ _ | refine Tch.drew ?_ | refine Tch.drewN ?_ _ | refine Tch.setCell ?_ ?_ _ | refine Tch.setBlock ?_ (by simp) _ | refine tch_call (by assumption) ?_ ?_ | refine tch_below (by assumption) ?_ ?_ | exact zb6 _) | omega | (simp only [zsz, size_setBlock]; omega) | (simp; omega)))⟩
      · obtain ⟨r', hr'⟩ : ∃ r', (lCnt D p q t k).toNat - j = r' + 1 := ⟨(lCnt D p q t k).toNat - j - 1, by omega⟩
        have hr2 : (lCnt D p q t k).toNat - (j + 1) = r' := by omega
        have P0 : 0 ≤ lCnt D p q t k * k := Int.mul_nonneg hcm0 (by omega)
        have P1 : lCnt D p q t k * k ≤ 1073741824 * 8 := Int.mul_le_mul hcm1 k8 (by omega) (by omega)
        have HA := Lib.hid (fun W (hW : Doc W b o n cap D) => rAt_any b o n cap D p q t k j W hW)
        unfold latV at HA
        have z0 : wr.cell? ⟨w.heap.size, 0, none⟩ = some (.int .i64 p) := cell_of_row _ _ _ _ _ _ hXr
        have z1 : wr.cell? ⟨w.heap.size, 1, none⟩ = some (.int .i64 q) := cell_of_row _ _ _ _ _ _ hXr
        have z2 : wr.cell? ⟨w.heap.size, 2, none⟩ = some (.int .i64 t) := cell_of_row _ _ _ _ _ _ hXr
        have z3 : wr.cell? ⟨w.heap.size, 3, none⟩ = some (.int .i64 k) := cell_of_row _ _ _ _ _ _ hXr
        have z4 := hKr.c0
        have hDr := hKr.doc
        have gr : lk < wr.heap.size := hKr.lkt
        have hXl : w.heap.size < wr.heap.size := (Array.getElem?_eq_some_iff.1 hXr).1
        have hZl : Z < wr.heap.size := (Array.getElem?_eq_some_iff.1 hZe).1
        have m0 := World.new_ne _ _ z0
        have m4 := World.new_ne _ _ z4
        rw [hr', vloopD] at hl
        have hHl := Lib.hid hl
        have hHa := Lib.hid hacc
        clear hl hacc hr'
        go_wp2
        go_region_held3 (fun w' => w'.cell? ⟨w.heap.size, 0, none⟩ = some (.int .i64 p) ∧ w'.cell? ⟨w.heap.size, 1, none⟩ = some (.int .i64 q) ∧ w'.cell? ⟨w.heap.size, 2, none⟩ = some (.int .i64 t) ∧ w'.cell? ⟨w.heap.size, 3, none⟩ = some (.int .i64 k) ∧ w'.cell? ⟨lk, 0, none⟩ = some (.slice (some ⟨b, o, none⟩) n cap)) (first | (with_reducible exact ⟨z0, z1, z2, z3, z4⟩) | (with_reducible exact ⟨k0, k1, k2, k3, k4⟩) | (refine ⟨?_, ?_, ?_, ?_, ?_⟩ <;> go_keep)) (((go_at_call 72; refine (HA.out _ (hDr.below zw)).mono ?_; rintro e w1 ⟨rfl, hb1⟩; obtain ⟨hc1, hf1, hl1⟩ := bcell hb1; (try simp only [zdz] at hc1 hf1 hl1); have hz1 := hb1.size; (try simp only [zsz] at hz1); (try have g0 : w.heap.size < w1.heap.size := by omega); (try have g1 : w.heap.size + 1 < w1.heap.size := by omega); (try have gl : lk < w1.heap.size := by omega)); (try have gR : wr.heap.size < w1.heap.size := by omega); (have k0 : w1.cell? ⟨w.heap.size, 0, none⟩ = some (.int .i64 p) := by go_simp); (have k1 : w1.cell? ⟨w.heap.size, 1, none⟩ = some (.int .i64 q) := by go_simp); (have k2 : w1.cell? ⟨w.heap.size, 2, none⟩ = some (.int .i64 t) := by go_simp); (have k3 : w1.cell? ⟨w.heap.size, 3, none⟩ = some (.int .i64 k) := by go_simp); (have k4 : w1.cell? ⟨lk, 0, none⟩ = some (.slice (some ⟨b, o, none⟩) n cap) := by go_simp); have m0 := World.new_ne _ _ k0; have m4 := World.new_ne _ _ k4))
        · go_upto_region 14 with fail
          refine wp_named (fun wz => Touch [lk] wr wz ∧ DSt 49 wz lk b o n cap D dp fr ar 0 ∧ Z < w1.heap.size ∧ w1.heap.size < wz.heap.size ∧ wz.cell? ⟨w1.heap.size, 0, none⟩ = some (.int .i64 (latP D p q t k j)) ∧ wz.cell? ⟨w1.heap.size, 1, none⟩ = some (.int .i64 (latQ D p q t k j)) ∧ wz.cell? ⟨w1.heap.size, 2, none⟩ = some (.int .i64 (latT D p q t k j)) ∧ wz.cell? ⟨w1.heap.size, 3, none⟩ = some (.int .i64 (latW D p q t k j))) ⟨Touch.quiet zw, hKr.keep hKr.low zw (Nat.le_refl _), by omega, by (first | omega | (simp <;> omega)), by go_simp, by go_simp, by go_simp, by go_simp⟩ ?_
          clear hb1 hc1 hf1 hl1 hz1 gl z0 z1 z2 z3 z4 m0 m4 q4
          generalize w1.heap.size = G
          rintro wz ⟨htz, hKz, hG0, hG1, u0, u1, u2, u3⟩
          have hXz := touch_row htz hXr hnX
          have hYz := touch_row htz hYe hnY
          have hZz := touch_row htz hZe hnZ
          have hl := hHl.out
          have hkz := hkids.touch htz (by omega)
          have htw := htr.trans htz
          have gZz := (Array.getElem?_eq_some_iff.1 hZz).1
          have gXz := (Array.getElem?_eq_some_iff.1 hXz).1
          have gYz := (Array.getElem?_eq_some_iff.1 hYz).1
          have x3 : wz.cell? ⟨w.heap.size, 3, none⟩ = some (.int .i64 k) := cell_of_row _ _ _ _ _ _ hXz
          by_cases hE : latE D p q t k j = 0
          rotate_left
          · rw [if_pos hE] at hl
            subst hl
            have hE1 : (latE D p q t k j != 0) = true := by simpa using hE
            have HE := Lib.hid hE
            have hrf2 : r = .error (a + lCnt D p q t k * k + j, latE D p q t k j) := hrf
            clear hE hHN hdg
            go_wp2_with fail
            refine (rdtell0 hKz (a + lCnt D p q t k * k + j) (latE D p q t k j)).mono ?_
            rintro e w1 ⟨rfl, hv1, ht1⟩
            have hYe := touch_row ht1 hYz hnY
            have hZe := touch_row ht1 hZz hnZ
            have n0 : w1.cell? ⟨w.heap.size + 1, 0, none⟩ = some (.int .i64 0) := cell_of_row _ _ _ _ _ _ hYe
            have n1 : w1.cell? ⟨w.heap.size + 1, 1, none⟩ = some (.int .i64 0) := cell_of_row _ _ _ _ _ _ hYe
            have n2 : w1.cell? ⟨w.heap.size + 1, 2, none⟩ = some (.int .u64 0) := cell_of_row _ _ _ _ _ _ hYe
            have n3 : w1.cell? ⟨w.heap.size + 1, 3, none⟩ = some (.string ⟨#[]⟩) := cell_of_row _ _ _ _ _ _ hYe
            have n4 : w1.cell? ⟨w.heap.size + 1, 4, none⟩ = some (.slice none 0 0) := cell_of_row _ _ _ _ _ _ hYe
            have n5 : w1.cell? ⟨w.heap.size + 1, 5, none⟩ = some (.slice none 0 0) := cell_of_row _ _ _ _ _ _ hYe
            have cz0 : w1.cell? ⟨Z, 0, none⟩ = some (.int .i64 kd) := cell_of_row _ _ _ _ _ _ hZe
            have cz1 : w1.cell? ⟨Z, 1, none⟩ = some (.int .i64 0) := cell_of_row _ _ _ _ _ _ hZe
            have cz2 : w1.cell? ⟨Z, 2, none⟩ = some (.int .u64 0) := cell_of_row _ _ _ _ _ _ hZe
            have cz3 : w1.cell? ⟨Z, 3, none⟩ = some (.string ⟨#[]⟩) := cell_of_row _ _ _ _ _ _ hZe
            have cz4 : w1.cell? ⟨Z, 4, none⟩ = some (.slice A1 0 c1) := cell_of_row _ _ _ _ _ _ hZe
            have cz5 : w1.cell? ⟨Z, 5, none⟩ = some (.slice none 0 0) := cell_of_row _ _ _ _ _ _ hZe
            have hfz := fun (j : Nat) => frozen_of_row _ _ j _ _ hYe
            have gYe := (Array.getElem?_eq_some_iff.1 hYe).1
            have gZe := (Array.getElem?_eq_some_iff.1 hZe).1
            have hKY := hv1.still (touch6 (.int .i64 kd) (.int .i64 0) (.int .u64 0) (.string ⟨#[]⟩) (.slice A1 0 c1) (.slice none 0 0)) (by simp; omega : lk ∉ [w.heap.size + 1]) (by simp; omega : b ∉ [w.heap.size + 1])
            have hBy : Tch w.heap.size [lk] w w1 := (htw.trans ht1).tch (Nat.le_refl _)
            clear hYe hZe hXr hXz hYz hZz hkids hkz htr htz htw ht1 hKz
            go_wp2_with fail
            refine bodyPost_ret (v := .agg #[.int .i64 kd, .int .i64 0, .int .u64 0, .string ⟨#[]⟩, .slice A1 0 c1, .slice none 0 0]) (by simp [results, Tryz.results48, go_sem, *]) rfl ?_
            subst hrf2
            exact ⟨kd, 0, 0, ⟨#[]⟩, A1, _, c1, none, 0, 0, _, rfl, HE.out, hKY, Tch.touch (by (repeat' first | (with_reducible first | exact Tch.refl _ _ _ | assumption | refine Tch.alloc ?_ ?_ _ | refine Tch.drew ?_ | refine Tch.drewN ?_ _ | refine Tch.setCell ?_ ?_ _ | refine Tch.setBlock ?_ (by simp) _ | refine tch_call (by assumption) ?_ ?_ | refine tch_below (by assumption) ?_ ?_ | exact zb6 _) | omega | (simp only [zsz, size_setBlock]; omega) | (simp; omega)))⟩
          · rw [if_neg (by simpa using hE)] at hl
            have hmay := (dlat_may hE).1
            rw [hD.len] at hmay
            rw [hE]
            have hlm := Lib.hid hl
            clear hl hE
            obtain ⟨i0, hi, hz0, hz1, hz2⟩ := info_parts nodeInfo
            have HND := Lib.hid (fun W a' (hW : DSt 49 W lk b o n cap D dp fr a' 0) => hHN.out W fr a' _ _ _ _ hW hfr hmay)
            have hgd := fun T f (he : dec (latP D p q t k j) (latQ D p q t k j) (latT D p q t k j) (latW D p q t k j) (lFrom D p q t k) (d + 1) fr = .ok (T, f)) => hdg _ _ _ _ _ _ _ _ _ hfr he
            have hwd : IntKind.i64.wrap (d + 1) = d + 1 := IntWalk.i64_in _ (by omega)
            have H63 : Hid (acc.length + 1 ≤ maxLen) := Lib.hid (by have := hHa.out; unfold maxLen; omega)
            have HBY : Hid ((acc.length + 1) * 88 ≤ 140737488355328) := Lib.hid (by have := hHa.out; omega)
            have hkvH := Lib.hid hkz
            clear hmay hkids hkz hXr hYe hZe
            generalize dec (latP D p q t k j) (latQ D p q t k j) (latT D p q t k j) (latW D p q t k j) (lFrom D p q t k) (d + 1) fr = res at *
            go_wp2_with fail
            refine (HND.out _ _ hKz).mono ?_
            intro e w1 hp
            obtain ⟨kd1, nn1, uu1, s1, B1, m1, d1, B2, m2, d2, rfl, ht1, -, hp⟩ := npost_shape hp
            have own1 := Lib.hid ((hkvH.out.touch ht1 (by omega)).r.alloc (.cells #[.int .i64 kd1, .int .i64 nn1, .int .u64 uu1, .string s1, .slice B1 m1 d1, .slice B2 m2 d2] 31))
            go_wp2_with (at_builtin; refine wpList_append_where _ rfl _ _ 29 rfl 31 i0 (.agg #[.int .i64 0, .int .i64 0, .int .u64 0, .string ⟨#[]⟩, .slice none 0 0, .slice none 0 0]) 6 88 Tryz.underlying29 hi hz0 hz1 hz2 rfl (by decide) (.slice A2 acc.length c2) acc.length xs rfl own1.out ⟨_, 0, none⟩ 1 1 [.int .i64 kd1, .int .i64 nn1, .int .u64 uu1, .string s1, .slice B1 m1 d1, .slice B2 m2 d2] rfl rfl ?c2 six_one H63.out HBY.out ?_)
            case c2 => exact row_at (heap_alloc_new _ _)
            intro v3 w3 ho hg hwh
            have hfin := Kids.next hkvH.out (by omega) (by omega) (by omega) hp hg ho (by rw [World.size_alloc]; exact hwh) hlm.out hr2 hHa.out hgd
            have hno : ∀ x, x < Z + 1 → (Value.slice A2 acc.length c2).ownBlock ≠ some x := fun x hx e => by
              have := hkvH.out.ge x (by simp [mem_blk, e]); omega
            have hX3 := (hfin.1 w.heap.size gXz (by omega) (hno _ (by omega))).trans hXz
            have hY3 := (hfin.1 (w.heap.size + 1) gYz (by omega) (hno _ (by omega))).trans hYz
            have hZ3 := (hfin.1 Z gZz (by omega) (hno _ (by omega))).trans hZz
            have htw3 := touch_grown ((htw.trans ht1).trans (Touch.quiet ((Below.refl _ _).alloc (Nat.le_refl _) _))) hg (fun k hk => by have := hkvH.out.ge k (by simp [mem_blk, hk]); omega)
            obtain ⟨A3, c3, hv3⟩ := owns_ptr ho
            have hend : RSt6 F 49 Z kd v3 w3 lk b o n cap D dp dec p q t k a d [] rl (j + 1) := by
              rcases hfin.2 with ⟨xs', bl', acc', fu', a', hk, hlen, hd, hf, hm⟩ | ⟨ae, ee, f, hrl, he, hd⟩
              · exact .inl ⟨_, xs', bl', acc', fu', a', hZ3, hk, hlen, hd, hf, hm⟩
              · exact .inr ⟨A1, 0, c1, A3, _, c3, ae, ee, f, hv3, hZ3, hrl, he, hd⟩
            have HEND := Lib.hid hend
            have HT3 := Lib.hid htw3
            clear hend htw3 hfin ho hg hwh hp ht1 own1 hkvH HND
            go_wp2_with fail
            go_roundw
            case rel => exact ⟨j + 1, by omega, by go_num, HT3.out, hX3, hY3, HEND.out⟩
            case measure => simp only [intOf]; omega
        · go_upto_region 14 with fail
          refine wp_named (fun wz => Touch [lk] wr wz ∧ DSt 49 wz lk b o n cap D dp fr ar 0 ∧ Z < wr.heap.size ∧ wr.heap.size < wz.heap.size ∧ wz.cell? ⟨wr.heap.size, 0, none⟩ = some (.int .i64 (latP D p q t k j)) ∧ wz.cell? ⟨wr.heap.size, 1, none⟩ = some (.int .i64 (latQ D p q t k j)) ∧ wz.cell? ⟨wr.heap.size, 2, none⟩ = some (.int .i64 (latT D p q t k j)) ∧ wz.cell? ⟨wr.heap.size, 3, none⟩ = some (.int .i64 (latW D p q t k j))) ⟨Touch.quiet zw, hKr.keep hKr.low zw (Nat.le_refl _), hZl, by (first | omega | (simp <;> omega)), by go_simp, by go_simp, by go_simp, by go_simp⟩ ?_
          clear hb1 hc1 hf1 hl1 hz1 gl z0 z1 z2 z3 z4 m0 m4 q4
          generalize hGq : wr.heap.size = G
          clear hGq
          rintro wz ⟨htz, hKz, hG0, hG1, u0, u1, u2, u3⟩
          have hXz := touch_row htz hXr hnX
          have hYz := touch_row htz hYe hnY
          have hZz := touch_row htz hZe hnZ
          have hl := hHl.out
          have hkz := hkids.touch htz (by omega)
          have htw := htr.trans htz
          have gZz := (Array.getElem?_eq_some_iff.1 hZz).1
          have gXz := (Array.getElem?_eq_some_iff.1 hXz).1
          have gYz := (Array.getElem?_eq_some_iff.1 hYz).1
          have x3 : wz.cell? ⟨w.heap.size, 3, none⟩ = some (.int .i64 k) := cell_of_row _ _ _ _ _ _ hXz
          by_cases hE : latE D p q t k j = 0
          rotate_left
          · rw [if_pos hE] at hl
            subst hl
            have hE1 : (latE D p q t k j != 0) = true := by simpa using hE
            have HE := Lib.hid hE
            have hrf2 : r = .error (a + lCnt D p q t k * k + j, latE D p q t k j) := hrf
            clear hE hHN hdg
            go_wp2_with fail
            refine (rdtell0 hKz (a + lCnt D p q t k * k + j) (latE D p q t k j)).mono ?_
            rintro e w1 ⟨rfl, hv1, ht1⟩
            have hYe := touch_row ht1 hYz hnY
            have hZe := touch_row ht1 hZz hnZ
            have n0 : w1.cell? ⟨w.heap.size + 1, 0, none⟩ = some (.int .i64 0) := cell_of_row _ _ _ _ _ _ hYe
            have n1 : w1.cell? ⟨w.heap.size + 1, 1, none⟩ = some (.int .i64 0) := cell_of_row _ _ _ _ _ _ hYe
            have n2 : w1.cell? ⟨w.heap.size + 1, 2, none⟩ = some (.int .u64 0) := cell_of_row _ _ _ _ _ _ hYe
            have n3 : w1.cell? ⟨w.heap.size + 1, 3, none⟩ = some (.string ⟨#[]⟩) := cell_of_row _ _ _ _ _ _ hYe
            have n4 : w1.cell? ⟨w.heap.size + 1, 4, none⟩ = some (.slice none 0 0) := cell_of_row _ _ _ _ _ _ hYe
            have n5 : w1.cell? ⟨w.heap.size + 1, 5, none⟩ = some (.slice none 0 0) := cell_of_row _ _ _ _ _ _ hYe
            have cz0 : w1.cell? ⟨Z, 0, none⟩ = some (.int .i64 kd) := cell_of_row _ _ _ _ _ _ hZe
            have cz1 : w1.cell? ⟨Z, 1, none⟩ = some (.int .i64 0) := cell_of_row _ _ _ _ _ _ hZe
            have cz2 : w1.cell? ⟨Z, 2, none⟩ = some (.int .u64 0) := cell_of_row _ _ _ _ _ _ hZe
            have cz3 : w1.cell? ⟨Z, 3, none⟩ = some (.string ⟨#[]⟩) := cell_of_row _ _ _ _ _ _ hZe
            have cz4 : w1.cell? ⟨Z, 4, none⟩ = some (.slice A1 0 c1) := cell_of_row _ _ _ _ _ _ hZe
            have cz5 : w1.cell? ⟨Z, 5, none⟩ = some (.slice none 0 0) := cell_of_row _ _ _ _ _ _ hZe
            have hfz := fun (j : Nat) => frozen_of_row _ _ j _ _ hYe
            have gYe := (Array.getElem?_eq_some_iff.1 hYe).1
            have gZe := (Array.getElem?_eq_some_iff.1 hZe).1
            have hKY := hv1.still (touch6 (.int .i64 kd) (.int .i64 0) (.int .u64 0) (.string ⟨#[]⟩) (.slice A1 0 c1) (.slice none 0 0)) (by simp; omega : lk ∉ [w.heap.size + 1]) (by simp; omega : b ∉ [w.heap.size + 1])
            have hBy : Tch w.heap.size [lk] w w1 := (htw.trans ht1).tch (Nat.le_refl _)
            clear hYe hZe hXr hXz hYz hZz hkids hkz htr htz htw ht1 hKz
            go_wp2_with fail
            refine bodyPost_ret (v := .agg #[.int .i64 kd, .int .i64 0, .int .u64 0, .string ⟨#[]⟩, .slice A1 0 c1, .slice none 0 0]) (by simp [results, Tryz.results48, go_sem, *]) rfl ?_
            subst hrf2
            exact ⟨kd, 0, 0, ⟨#[]⟩, A1, _, c1, none, 0, 0, _, rfl, HE.out, hKY, Tch.touch (by (repeat' first | (with_reducible first | exact Tch.refl _ _ _ | assumption | refine Tch.alloc ?_ ?_ _ | refine Tch.drew ?_ | refine Tch.drewN ?_ _ | refine Tch.setCell ?_ ?_ _ | refine Tch.setBlock ?_ (by simp) _ | refine tch_call (by assumption) ?_ ?_ | refine tch_below (by assumption) ?_ ?_ | exact zb6 _) | omega | (simp only [zsz, size_setBlock]; omega) | (simp; omega)))⟩
          · rw [if_neg (by simpa using hE)] at hl
            have hmay := (dlat_may hE).1
            rw [hD.len] at hmay
            rw [hE]
            have hlm := Lib.hid hl
            clear hl hE
            obtain ⟨i0, hi, hz0, hz1, hz2⟩ := info_parts nodeInfo
            have HND := Lib.hid (fun W a' (hW : DSt 49 W lk b o n cap D dp fr a' 0) => hHN.out W fr a' _ _ _ _ hW hfr hmay)
            have hgd := fun T f (he : dec (latP D p q t k j) (latQ D p q t k j) (latT D p q t k j) (latW D p q t k j) (lFrom D p q t k) (d + 1) fr = .ok (T, f)) => hdg _ _ _ _ _ _ _ _ _ hfr he
            have hwd : IntKind.i64.wrap (d + 1) = d + 1 := IntWalk.i64_in _ (by omega)
            have H63 : Hid (acc.length + 1 ≤ maxLen) := Lib.hid (by have := hHa.out; unfold maxLen; omega)
            have HBY : Hid ((acc.length + 1) * 88 ≤ 140737488355328) := Lib.hid (by have := hHa.out; omega)
            have hkvH := Lib.hid hkz
            clear hmay hkids hkz hXr hYe hZe
            generalize dec (latP D p q t k j) (latQ D p q t k j) (latT D p q t k j) (latW D p q t k j) (lFrom D p q t k) (d + 1) fr = res at *
            go_wp2_with fail
            refine (HND.out _ _ hKz).mono ?_
            intro e w1 hp
            obtain ⟨kd1, nn1, uu1, s1, B1, m1, d1, B2, m2, d2, rfl, ht1, -, hp⟩ := npost_shape hp
            have own1 := Lib.hid ((hkvH.out.touch ht1 (by omega)).r.alloc (.cells #[.int .i64 kd1, .int .i64 nn1, .int .u64 uu1, .string s1, .slice B1 m1 d1, .slice B2 m2 d2] 31))
            go_wp2_with (at_builtin; refine wpList_append_where _ rfl _ _ 29 rfl 31 i0 (.agg #[.int .i64 0, .int .i64 0, .int .u64 0, .string ⟨#[]⟩, .slice none 0 0, .slice none 0 0]) 6 88 Tryz.underlying29 hi hz0 hz1 hz2 rfl (by decide) (.slice A2 acc.length c2) acc.length xs rfl own1.out ⟨_, 0, none⟩ 1 1 [.int .i64 kd1, .int .i64 nn1, .int .u64 uu1, .string s1, .slice B1 m1 d1, .slice B2 m2 d2] rfl rfl ?c2 six_one H63.out HBY.out ?_)
            case c2 => exact row_at (heap_alloc_new _ _)
            intro v3 w3 ho hg hwh
            have hfin := Kids.next hkvH.out (by omega) (by omega) (by omega) hp hg ho (by rw [World.size_alloc]; exact hwh) hlm.out hr2 hHa.out hgd
            have hno : ∀ x, x < Z + 1 → (Value.slice A2 acc.length c2).ownBlock ≠ some x := fun x hx e => by
              have := hkvH.out.ge x (by simp [mem_blk, e]); omega
            have hX3 := (hfin.1 w.heap.size gXz (by omega) (hno _ (by omega))).trans hXz
            have hY3 := (hfin.1 (w.heap.size + 1) gYz (by omega) (hno _ (by omega))).trans hYz
            have hZ3 := (hfin.1 Z gZz (by omega) (hno _ (by omega))).trans hZz
            have htw3 := touch_grown ((htw.trans ht1).trans (Touch.quiet ((Below.refl _ _).alloc (Nat.le_refl _) _))) hg (fun k hk => by have := hkvH.out.ge k (by simp [mem_blk, hk]); omega)
            obtain ⟨A3, c3, hv3⟩ := owns_ptr ho
            have hend : RSt6 F 49 Z kd v3 w3 lk b o n cap D dp dec p q t k a d [] rl (j + 1) := by
              rcases hfin.2 with ⟨xs', bl', acc', fu', a', hk, hlen, hd, hf, hm⟩ | ⟨ae, ee, f, hrl, he, hd⟩
              · exact .inl ⟨_, xs', bl', acc', fu', a', hZ3, hk, hlen, hd, hf, hm⟩
              · exact .inr ⟨A1, 0, c1, A3, _, c3, ae, ee, f, hv3, hZ3, hrl, he, hd⟩
            have HEND := Lib.hid hend
            have HT3 := Lib.hid htw3
            clear hend htw3 hfin ho hg hwh hp ht1 own1 hkvH HND
            go_wp2_with fail
            go_roundw
            case rel => exact ⟨j + 1, by omega, by go_num, HT3.out, hX3, hY3, HEND.out⟩
            case measure => simp only [intOf]; omega
end
end Go.Proofs.YtmpflnlajakibaaGreat
