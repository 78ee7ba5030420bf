/- The walk of verify.looker's look. The walk of verify.looker's look, where the data has been checked already. -/
import Derived.Test.YtmpflnlajakibaaVer6
import Derived.Deep.RegionHeld3
import Derived.Test.YtmpflnlajakibaaIn
namespace Go.Proofs.Ytmpflnlajakibaa
set_option linter.unusedVariables false
set_option linter.unusedSimpArgs false
set_option linter.unusedSectionVars false
section
open Go.RowKit
section
variable {w : World} {lk hm cm b o n cap : Nat} {D : List UInt8} {dp bud : Int} {S : VS} {O : List Lead}
set_option maxHeartbeats 4000000 in
theorem vlook_a (h : VOk w lk hm cm b o n cap D dp bud S O) (p q t k lim deep : Int) (hs : ¬ S.s + 1 ≤ bud) :
    Calls Try.prog 29 #[.pointer (some ⟨lk, 0, none⟩), .agg #[.int .i64 p, .int .i64 q, .int .i64 t, .int .i64 k], .int .i64 lim, .int .i64 deep] w (LPost w lk hm cm b o n cap D dp bud O (.error (S.s, p, 290))) := by
  have hlow := h.low
  have hlw := hlow.l
  have Hs := Lib.hid hs
  clear hs
  go_enter Try.func29, Try.ntmps29
  go_wp2_with (go_at_call 44; refine (vstep_no (h.keep hlow (by (repeat' first | (with_reducible first | exact zb0 _ _ | assumption | refine zb1 ?_ ?_ _ | refine zb2 ?_ | refine zb3 ?_ _ | refine zb4 ?_ ?_ _ | refine zb5 (by assumption) ?_ ?_ | exact zb6 _) | omega | (simp only [zsz]; omega) | (simp <;> omega))) (Nat.le_refl _)) 1 p Hs.out).mono ?_; rintro e w1 ⟨rfl, hv1, ht1⟩; obtain ⟨hc1, hf1, hl1⟩ := tcell ht1 hlow; (try simp only [zdz] at hc1 hf1 hl1); have hz1 := ht1.size; (try simp only [zsz] at hz1); (try have g0 : w.heap.size < w1.heap.size := by omega); (try have g1 : w.heap.size + 1 < w1.heap.size := by omega); (try have g2 : w.heap.size + 2 < w1.heap.size := by omega); (try have g3 : w.heap.size + 3 < w1.heap.size := by omega); (try have g4 : w.heap.size + 4 < w1.heap.size := by omega); (try have hB1 : w.heap.size ≤ w1.heap.size := by omega); (try have gl : lk < w1.heap.size := hv1.low.l); (try have q0 := hv1.c0); (try have q1 := hv1.c1); (try have q4 := hv1.c4); (try have q5 := hv1.c5))
  go_returns
  exact ⟨⟨_, rfl⟩, hv1, Tch.touch (by (repeat' first | (with_reducible first | exact Tch.refl _ _ _ | assumption | refine Tch.alloc ?_ ?_ _ | refine Tch.drew ?_ | refine Tch.drewN ?_ _ | refine Tch.setCell ?_ ?_ _ | refine Tch.setBlock ?_ (by simp) _ | refine tch_call (by assumption) ?_ ?_ | refine tch_below (by assumption) ?_ ?_ | exact zb6 _) | omega | (simp only [zsz, size_setBlock]; omega) | (simp; omega)))⟩
set_option maxHeartbeats 4000000 in
theorem vlook_b (h : VOk w lk hm cm b o n cap D dp bud S O) (p q t k lim deep : Int) (hs : S.s + 1 ≤ bud) (hd : dp < deep) :
    Calls Try.prog 29 #[.pointer (some ⟨lk, 0, none⟩), .agg #[.int .i64 p, .int .i64 q, .int .i64 t, .int .i64 k], .int .i64 lim, .int .i64 deep] w (LPost w lk hm cm b o n cap D dp bud O (.error (S.s + 1, p, 61))) := by
  have hlow := h.low
  have hlw := hlow.l
  have Hs := Lib.hid hs
  clear hs
  go_enter Try.func29, Try.ntmps29
  go_wp2_with (first | (go_at_call 44; refine (vstep_ok (h.keep hlow (by (repeat' first | (with_reducible first | exact zb0 _ _ | assumption | refine zb1 ?_ ?_ _ | refine zb2 ?_ | refine zb3 ?_ _ | refine zb4 ?_ ?_ _ | refine zb5 (by assumption) ?_ ?_ | exact zb6 _) | omega | (simp only [zsz]; omega) | (simp <;> omega))) (Nat.le_refl _)) 1 p (by omega) Hs.out).mono ?_; rintro e w1 ⟨rfl, hv1, ht1⟩; obtain ⟨hc1, hf1, hl1⟩ := tcell ht1 hlow; (try simp only [zdz] at hc1 hf1 hl1); have hz1 := ht1.size; (try simp only [zsz] at hz1); (try have g0 : w.heap.size < w1.heap.size := by omega); (try have g1 : w.heap.size + 1 < w1.heap.size := by omega); (try have g2 : w.heap.size + 2 < w1.heap.size := by omega); (try have g3 : w.heap.size + 3 < w1.heap.size := by omega); (try have g4 : w.heap.size + 4 < w1.heap.size := by omega); (try have hB1 : w.heap.size ≤ w1.heap.size := by omega); (try have gl : lk < w1.heap.size := hv1.low.l); (try have q0 := hv1.c0); (try have q1 := hv1.c1); (try have q4 := hv1.c4); (try have q5 := hv1.c5)) | (go_at_call 45; refine (vtell_no (hv1.keep hlow (by (repeat' first | (with_reducible first | exact zb0 _ _ | assumption | refine zb1 ?_ ?_ _ | refine zb2 ?_ | refine zb3 ?_ _ | refine zb4 ?_ ?_ _ | refine zb5 (by assumption) ?_ ?_ | exact zb6 _) | omega | (simp only [zsz]; omega) | (simp <;> omega))) (by omega)) p 61 (by omega)).mono ?_; rintro e w1 ⟨rfl, hv1, ht1⟩; obtain ⟨hc1, hf1, hl1⟩ := tcell ht1 hlow; (try simp only [zdz] at hc1 hf1 hl1); have hz1 := ht1.size; (try simp only [zsz] at hz1); (try have g0 : w.heap.size < w1.heap.size := by omega); (try have g1 : w.heap.size + 1 < w1.heap.size := by omega); (try have g2 : w.heap.size + 2 < w1.heap.size := by omega); (try have g3 : w.heap.size + 3 < w1.heap.size := by omega); (try have g4 : w.heap.size + 4 < w1.heap.size := by omega); (try have hB1 : w.heap.size ≤ w1.heap.size := by omega); (try have gl : lk < w1.heap.size := hv1.low.l); (try have q0 := hv1.c0); (try have q1 := hv1.c1); (try have q4 := hv1.c4); (try have q5 := hv1.c5)))
  go_returns
  exact ⟨⟨_, rfl⟩, hv1, Tch.touch (by (repeat' first | (with_reducible first | exact Tch.refl _ _ _ | assumption | refine Tch.alloc ?_ ?_ _ | refine Tch.drew ?_ | refine Tch.drewN ?_ _ | refine Tch.setCell ?_ ?_ _ | refine Tch.setBlock ?_ (by simp) _ | refine tch_call (by assumption) ?_ ?_ | refine tch_below (by assumption) ?_ ?_ | exact zb6 _) | omega | (simp only [zsz, size_setBlock]; omega) | (simp; omega)))⟩
set_option maxHeartbeats 4000000 in
theorem vlook_c (h : VOk w lk hm cm b o n cap D dp bud S O) (p q t k lim deep : Int) (hs : S.s + 1 ≤ bud) (hd : ¬ dp < deep) (hi : inlineB t = true) :
    Calls Try.prog 29 #[.pointer (some ⟨lk, 0, none⟩), .agg #[.int .i64 p, .int .i64 q, .int .i64 t, .int .i64 k], .int .i64 lim, .int .i64 deep] w (LPost w lk hm cm b o n cap D dp bud O (.ok ({ S with s := S.s + 1 }, 1))) := by
  have hlow := h.low
  have hlw := hlow.l
  have Hs := Lib.hid hs
  clear hs
  go_enter Try.func29, Try.ntmps29
  go_wp2_with (first | (go_at_call 44; refine (vstep_ok (h.keep hlow (by (repeat' first | (with_reducible first | exact zb0 _ _ | assumption | refine zb1 ?_ ?_ _ | refine zb2 ?_ | refine zb3 ?_ _ | refine zb4 ?_ ?_ _ | refine zb5 (by assumption) ?_ ?_ | exact zb6 _) | omega | (simp only [zsz]; omega) | (simp <;> omega))) (Nat.le_refl _)) 1 p (by omega) Hs.out).mono ?_; rintro e w1 ⟨rfl, hv1, ht1⟩; obtain ⟨hc1, hf1, hl1⟩ := tcell ht1 hlow; (try simp only [zdz] at hc1 hf1 hl1); have hz1 := ht1.size; (try simp only [zsz] at hz1); (try have g0 : w.heap.size < w1.heap.size := by omega); (try have g1 : w.heap.size + 1 < w1.heap.size := by omega); (try have g2 : w.heap.size + 2 < w1.heap.size := by omega); (try have g3 : w.heap.size + 3 < w1.heap.size := by omega); (try have g4 : w.heap.size + 4 < w1.heap.size := by omega); (try have hB1 : w.heap.size ≤ w1.heap.size := by omega); (try have gl : lk < w1.heap.size := hv1.low.l); (try have q0 := hv1.c0); (try have q1 := hv1.c1); (try have q4 := hv1.c4); (try have q5 := hv1.c5)) | (go_at_call 46; refine (inline_any _ _).mono ?_; rintro e w1 ⟨rfl, hb1⟩; obtain ⟨hc1, hf1, hl1⟩ := bcell hb1; (try simp only [zdz] at hc1 hf1 hl1); have hz1 := hb1.size; (try simp only [zsz] at hz1); (try have g0 : w.heap.size < w1.heap.size := by omega); (try have g1 : w.heap.size + 1 < w1.heap.size := by omega); (try have gl : lk < w1.heap.size := by omega)))
  go_returns
  exact ⟨rfl, hv1.keep hlow (by (repeat' first | (with_reducible first | exact zb0 _ _ | assumption | refine zb1 ?_ ?_ _ | refine zb2 ?_ | refine zb3 ?_ _ | refine zb4 ?_ ?_ _ | refine zb5 (by assumption) ?_ ?_ | exact zb6 _) | omega | (simp only [zsz]; omega) | (simp <;> omega))) (by omega), Tch.touch (by (repeat' first | (with_reducible first | exact Tch.refl _ _ _ | assumption | refine Tch.alloc ?_ ?_ _ | refine Tch.drew ?_ | refine Tch.drewN ?_ _ | refine Tch.setCell ?_ ?_ _ | refine Tch.setBlock ?_ (by simp) _ | refine tch_call (by assumption) ?_ ?_ | refine tch_below (by assumption) ?_ ?_ | exact zb6 _) | omega | (simp only [zsz, size_setBlock]; omega) | (simp; omega)))⟩
set_option maxHeartbeats 4000000 in
theorem vlook_d (h : VOk w lk hm cm b o n cap D dp bud S O) (p q t k lim deep : Int) (hm' : mayE n p q t k = 0) (hs : S.s + 1 ≤ bud) (hd : ¬ dp < deep) (hi : inlineB t = false) (ht : ¬ tgtB D p q t k lim = true) :
    Calls Try.prog 29 #[.pointer (some ⟨lk, 0, none⟩), .agg #[.int .i64 p, .int .i64 q, .int .i64 t, .int .i64 k], .int .i64 lim, .int .i64 deep] w (LPost w lk hm cm b o n cap D dp bud O (.error (S.s + 1, p, 211))) := by
  have hlow := h.low
  have hlw := hlow.l
  have Hs := Lib.hid hs
  have HT := Lib.hid ht
  obtain ⟨h1, h2, h3, h4, h5, h6, h7, h8, h9⟩ := mayE_zero hm'
  have H2 := Lib.hid h2
  clear hs ht hm' h1 h2 h3
  go_enter Try.func29, Try.ntmps29
  go_wp2_with (first | (go_at_call 44; refine (vstep_ok (h.keep hlow (by (repeat' first | (with_reducible first | exact zb0 _ _ | assumption | refine zb1 ?_ ?_ _ | refine zb2 ?_ | refine zb3 ?_ _ | refine zb4 ?_ ?_ _ | refine zb5 (by assumption) ?_ ?_ | exact zb6 _) | omega | (simp only [zsz]; omega) | (simp <;> omega))) (Nat.le_refl _)) 1 p (by omega) Hs.out).mono ?_; rintro e w1 ⟨rfl, hv1, ht1⟩; obtain ⟨hc1, hf1, hl1⟩ := tcell ht1 hlow; (try simp only [zdz] at hc1 hf1 hl1); have hz1 := ht1.size; (try simp only [zsz] at hz1); (try have g0 : w.heap.size < w1.heap.size := by omega); (try have g1 : w.heap.size + 1 < w1.heap.size := by omega); (try have g2 : w.heap.size + 2 < w1.heap.size := by omega); (try have g3 : w.heap.size + 3 < w1.heap.size := by omega); (try have g4 : w.heap.size + 4 < w1.heap.size := by omega); (try have hB1 : w.heap.size ≤ w1.heap.size := by omega); (try have gl : lk < w1.heap.size := hv1.low.l); (try have q0 := hv1.c0); (try have q1 := hv1.c1); (try have q4 := hv1.c4); (try have q5 := hv1.c5)) | (go_at_call 46; refine (inline_any _ _).mono ?_; rintro e w1 ⟨rfl, hb1⟩; obtain ⟨hc1, hf1, hl1⟩ := bcell hb1; (try simp only [zdz] at hc1 hf1 hl1); have hz1 := hb1.size; (try simp only [zsz] at hz1); (try have g0 : w.heap.size < w1.heap.size := by omega); (try have g1 : w.heap.size + 1 < w1.heap.size := by omega); (try have gl : lk < w1.heap.size := by omega)) | (go_at_call 47; refine (vtgt_no (hv1.keep hlow (by (repeat' first | (with_reducible first | exact zb0 _ _ | assumption | refine zb1 ?_ ?_ _ | refine zb2 ?_ | refine zb3 ?_ _ | refine zb4 ?_ ?_ _ | refine zb5 (by assumption) ?_ ?_ | exact zb6 _) | omega | (simp only [zsz]; omega) | (simp <;> omega))) (by omega)) p q t k lim H2.out h4 h9 h7 h8 HT.out).mono ?_; rintro e w1 ⟨rfl, hv1, ht1⟩; obtain ⟨hc1, hf1, hl1⟩ := tcell ht1 hlow; (try simp only [zdz] at hc1 hf1 hl1); have hz1 := ht1.size; (try simp only [zsz] at hz1); (try have g0 : w.heap.size < w1.heap.size := by omega); (try have g1 : w.heap.size + 1 < w1.heap.size := by omega); (try have g2 : w.heap.size + 2 < w1.heap.size := by omega); (try have g3 : w.heap.size + 3 < w1.heap.size := by omega); (try have g4 : w.heap.size + 4 < w1.heap.size := by omega); (try have hB1 : w.heap.size ≤ w1.heap.size := by omega); (try have gl : lk < w1.heap.size := hv1.low.l); (try have q0 := hv1.c0); (try have q1 := hv1.c1); (try have q4 := hv1.c4); (try have q5 := hv1.c5)))
  go_returns
  exact ⟨⟨_, rfl⟩, hv1, Tch.touch (by (repeat' first | (with_reducible first | exact Tch.refl _ _ _ | assumption | refine Tch.alloc ?_ ?_ _ | refine Tch.drew ?_ | refine Tch.drewN ?_ _ | refine Tch.setCell ?_ ?_ _ | refine Tch.setBlock ?_ (by simp) _ | refine tch_call (by assumption) ?_ ?_ | refine tch_below (by assumption) ?_ ?_ | exact zb6 _) | omega | (simp only [zsz, size_setBlock]; omega) | (simp; omega)))⟩
end
end
section
open Go.RowKit
section
variable {w : World} {lk hm cm b o n cap : Nat} {D : List UInt8} {dp bud : Int} {S : VS} {O : List Lead}
set_option maxHeartbeats 4000000 in
set_option maxRecDepth 100000 in
theorem vlook_e (h : VOk w lk hm cm b o n cap D dp bud S O) (p q t k lim deep hh : Int) (hm' : mayE n p q t k = 0) (hs : S.s + 1 ≤ bud) (hd : ¬ dp < deep) (hi : inlineB t = false) (ht : tgtB D p q t k lim = true) (hn4 : t ≠ 4)
    (hk : vknown S.L (t, p - loadV D p q, k) = some hh) (hO : (t, p - loadV D p q, k) ∉ O) (hd0 : 0 ≤ deep) (hd1 : deep ≤ 2147483648) (hh0 : 1 ≤ hh) (hh1 : hh ≤ 2147483648) (hle : deep + hh - 1 ≤ dp) :
    Calls Try.prog 29 #[.pointer (some ⟨lk, 0, none⟩), .agg #[.int .i64 p, .int .i64 q, .int .i64 t, .int .i64 k], .int .i64 lim, .int .i64 deep] w (LPost w lk hm cm b o n cap D dp bud O (.ok ({ S with s := S.s + 1 }, hh))) := by
  have hlow := h.low
  have hlw := hlow.l
  have Hs := Lib.hid hs
  have HT := Lib.hid ht
  obtain ⟨h1, h2, h3, h4, h5, h6, h7, h8, h9⟩ := mayE_zero hm'
  obtain ⟨t0, t37⟩ := kindOf_in h1
  have H2 := Lib.hid h2
  have hD := h.doc
  obtain ⟨hn1, hn2⟩ := hD.bd
  have v0 := loadV_nonneg D p q
  have v1 := (tgtB_le ht).1
  have HK := Lib.hid hk
  have HO := Lib.hid hO
  have hn4' : (t == 4) = false := by simpa using hn4
  clear hs ht hm' h1 h2 h3 hk hO hn4
  go_enter Try.func29, Try.ntmps29
  go_upto_region 11 with (first | (go_at_call 44; refine (vstep_ok (h.keep hlow (by (repeat' first | (with_reducible first | exact zb0 _ _ | assumption | refine zb1 ?_ ?_ _ | refine zb2 ?_ | refine zb3 ?_ _ | refine zb4 ?_ ?_ _ | refine zb5 (by assumption) ?_ ?_ | exact zb6 _) | omega | (simp only [zsz]; omega) | (simp <;> omega))) (Nat.le_refl _)) 1 p (by omega) Hs.out).mono ?_; rintro e w1 ⟨rfl, hv1, ht1⟩; obtain ⟨hc1, hf1, hl1⟩ := tcell ht1 hlow; (try simp only [zdz] at hc1 hf1 hl1); have hz1 := ht1.size; (try simp only [zsz] at hz1); (try have g0 : w.heap.size < w1.heap.size := by omega); (try have g1 : w.heap.size + 1 < w1.heap.size := by omega); (try have g2 : w.heap.size + 2 < w1.heap.size := by omega); (try have g3 : w.heap.size + 3 < w1.heap.size := by omega); (try have g4 : w.heap.size + 4 < w1.heap.size := by omega); (try have hB1 : w.heap.size ≤ w1.heap.size := by omega); (try have gl : lk < w1.heap.size := hv1.low.l); (try have q0 := hv1.c0); (try have q1 := hv1.c1); (try have q4 := hv1.c4); (try have q5 := hv1.c5)) | (go_at_call 46; refine (inline_any _ _).mono ?_; rintro e w1 ⟨rfl, hb1⟩; obtain ⟨hc1, hf1, hl1⟩ := bcell hb1; (try simp only [zdz] at hc1 hf1 hl1); have hz1 := hb1.size; (try simp only [zsz] at hz1); (try have g0 : w.heap.size < w1.heap.size := by omega); (try have g1 : w.heap.size + 1 < w1.heap.size := by omega); (try have gl : lk < w1.heap.size := by omega)) | (go_at_call 47; refine (vtgt_ok (hv1.keep hlow (by (repeat' first | (with_reducible first | exact zb0 _ _ | assumption | refine zb1 ?_ ?_ _ | refine zb2 ?_ | refine zb3 ?_ _ | refine zb4 ?_ ?_ _ | refine zb5 (by assumption) ?_ ?_ | exact zb6 _) | omega | (simp only [zsz]; omega) | (simp <;> omega))) (by omega)) p q t k lim H2.out h4 h9 h7 h8 HT.out).mono ?_; rintro e w1 ⟨rfl, hv1, ht1⟩; obtain ⟨hc1, hf1, hl1⟩ := tcell ht1 hlow; (try simp only [zdz] at hc1 hf1 hl1); have hz1 := ht1.size; (try simp only [zsz] at hz1); (try have g0 : w.heap.size < w1.heap.size := by omega); (try have g1 : w.heap.size + 1 < w1.heap.size := by omega); (try have g2 : w.heap.size + 2 < w1.heap.size := by omega); (try have g3 : w.heap.size + 3 < w1.heap.size := by omega); (try have g4 : w.heap.size + 4 < w1.heap.size := by omega); (try have hB1 : w.heap.size ≤ w1.heap.size := by omega); (try have gl : lk < w1.heap.size := hv1.low.l); (try have q0 := hv1.c0); (try have q1 := hv1.c1); (try have q4 := hv1.c4); (try have q5 := hv1.c5)))
  refine wp_named (fun wn => VOk wn lk hm cm b o n cap D dp bud { S with s := S.s + 1 } O ∧ Tch w.heap.size [lk, hm, cm] w wn ∧ w1.heap.size < wn.heap.size ∧ wn.cell? ⟨w.heap.size, 0, none⟩ = some (.int .i64 p) ∧
    wn.cell? ⟨w1.heap.size, 0, none⟩ = some (.int .i64 t) ∧ wn.cell? ⟨w1.heap.size, 1, none⟩ = some (.int .i64 (p - loadV D p q)) ∧ wn.cell? ⟨w1.heap.size, 2, none⟩ = some (.int .i64 k)) ⟨hv1.keep hlow (by (repeat' first | (with_reducible first | exact zb0 _ _ | assumption | refine zb1 ?_ ?_ _ | refine zb2 ?_ | refine zb3 ?_ _ | refine zb4 ?_ ?_ _ | refine zb5 (by assumption) ?_ ?_ | exact zb6 _) | omega | (simp only [zsz]; omega) | (simp <;> omega))) (by omega), by (repeat' first | (with_reducible first | exact Tch.refl _ _ _ | assumption | refine Tch.alloc ?_ ?_ _ | refine Tch.drew ?_ | refine Tch.drewN ?_ _ | refine Tch.setCell ?_ ?_ _ | refine Tch.setBlock ?_ (by simp) _ | refine tch_call (by assumption) ?_ ?_ | refine tch_below (by assumption) ?_ ?_ | exact zb6 _) | omega | (simp only [zsz, size_setBlock]; omega) | (simp; omega)), by (first | omega | (simp; omega) | simp), by go_simp, by go_simp, by go_simp, by go_simp⟩ ?_
  rintro wn ⟨hvn, htn, hzn, z0, z1, z2, z3⟩
  have hBn : w.heap.size ≤ wn.heap.size := htn.size
  have gln : lk < wn.heap.size := hvn.low.l
  have q1 := hvn.c1
  have q4 := hvn.c4
  have hvd : VOk wn.drew lk hm cm b o n cap D dp bud { S with s := S.s + 1 } O := hvn.keep hlow ((Below.refl _ _).drew) hBn
  have hlk : (Instr.lookup 61 (.map (some hm)) (.agg #[.int .i64 t, .int .i64 (p - loadV D p q), .int .i64 k]) true).run Try.prog wn.drew = .ok (.tuple #[.int .i64 hh, .bool true]) wn.drew := by
    have hx := hvd.lookH (t := t) (a := p - loadV D p q) (k := k) (wf64 (by omega) (by omega)) (wf64 (by omega) (by omega)) (wf64 (by omega) (by omega)) HO.out
    rw [show vknown _ _ = some hh from HK.out] at hx
    exact hx
  go_region
  all_goals go_wp2
  all_goals go_returns
  all_goals exact ⟨rfl, hvn.keep hlow (by (repeat' first | (with_reducible first | exact zb0 _ _ | assumption | refine zb1 ?_ ?_ _ | refine zb2 ?_ | refine zb3 ?_ _ | refine zb4 ?_ ?_ _ | refine zb5 (by assumption) ?_ ?_ | exact zb6 _) | omega | (simp only [zsz]; omega) | (simp <;> omega))) hBn, Tch.touch (by (repeat' first | (with_reducible first | exact Tch.refl _ _ _ | assumption | refine Tch.alloc ?_ ?_ _ | refine Tch.drew ?_ | refine Tch.drewN ?_ _ | refine Tch.setCell ?_ ?_ _ | refine Tch.setBlock ?_ (by simp) _ | refine tch_call (by assumption) ?_ ?_ | refine tch_below (by assumption) ?_ ?_ | exact zb6 _) | omega | (simp only [zsz, size_setBlock]; omega) | (simp; omega)))⟩
set_option maxHeartbeats 4000000 in
set_option maxRecDepth 100000 in
theorem vlook_en (h : VOk w lk hm cm b o n cap D dp bud S O) (p q t k lim deep hh : Int) (hm' : mayE n p q t k = 0) (hs : S.s + 1 ≤ bud) (hd : ¬ dp < deep) (hi : inlineB t = false) (ht : tgtB D p q t k lim = true) (hn4 : t ≠ 4)
    (hk : vknown S.L (t, p - loadV D p q, k) = some hh) (hO : (t, p - loadV D p q, k) ∉ O) (hd0 : 0 ≤ deep) (hd1 : deep ≤ 2147483648) (hh0 : 1 ≤ hh) (hh1 : hh ≤ 2147483648) (hle : dp < deep + hh - 1) :
    Calls Try.prog 29 #[.pointer (some ⟨lk, 0, none⟩), .agg #[.int .i64 p, .int .i64 q, .int .i64 t, .int .i64 k], .int .i64 lim, .int .i64 deep] w (LPost w lk hm cm b o n cap D dp bud O (.error (S.s + 1, p, 61))) := by
  have hlow := h.low
  have hdec : decide (deep + hh - 1 ≤ dp) = false := by simp; omega
  have hlw := hlow.l
  have Hs := Lib.hid hs
  have HT := Lib.hid ht
  obtain ⟨h1, h2, h3, h4, h5, h6, h7, h8, h9⟩ := mayE_zero hm'
  obtain ⟨t0, t37⟩ := kindOf_in h1
  have H2 := Lib.hid h2
  have hD := h.doc
  obtain ⟨hn1, hn2⟩ := hD.bd
  have v0 := loadV_nonneg D p q
  have v1 := (tgtB_le ht).1
  have HK := Lib.hid hk
  have HO := Lib.hid hO
  have hn4' : (t == 4) = false := by simpa using hn4
  clear hs ht hm' h1 h2 h3 hk hO hn4
  go_enter Try.func29, Try.ntmps29
  go_upto_region 11 with (first | (go_at_call 44; refine (vstep_ok (h.keep hlow (by (repeat' first | (with_reducible first | exact zb0 _ _ | assumption | refine zb1 ?_ ?_ _ | refine zb2 ?_ | refine zb3 ?_ _ | refine zb4 ?_ ?_ _ | refine zb5 (by assumption) ?_ ?_ | exact zb6 _) | omega | (simp only [zsz]; omega) | (simp <;> omega))) (Nat.le_refl _)) 1 p (by omega) Hs.out).mono ?_; rintro e w1 ⟨rfl, hv1, ht1⟩; obtain ⟨hc1, hf1, hl1⟩ := tcell ht1 hlow; (try simp only [zdz] at hc1 hf1 hl1); have hz1 := ht1.size; (try simp only [zsz] at hz1); (try have g0 : w.heap.size < w1.heap.size := by omega); (try have g1 : w.heap.size + 1 < w1.heap.size := by omega); (try have g2 : w.heap.size + 2 < w1.heap.size := by omega); (try have g3 : w.heap.size + 3 < w1.heap.size := by omega); (try have g4 : w.heap.size + 4 < w1.heap.size := by omega); (try have hB1 : w.heap.size ≤ w1.heap.size := by omega); (try have gl : lk < w1.heap.size := hv1.low.l); (try have q0 := hv1.c0); (try have q1 := hv1.c1); (try have q4 := hv1.c4); (try have q5 := hv1.c5)) | (go_at_call 46; refine (inline_any _ _).mono ?_; rintro e w1 ⟨rfl, hb1⟩; obtain ⟨hc1, hf1, hl1⟩ := bcell hb1; (try simp only [zdz] at hc1 hf1 hl1); have hz1 := hb1.size; (try simp only [zsz] at hz1); (try have g0 : w.heap.size < w1.heap.size := by omega); (try have g1 : w.heap.size + 1 < w1.heap.size := by omega); (try have gl : lk < w1.heap.size := by omega)) | (go_at_call 47; refine (vtgt_ok (hv1.keep hlow (by (repeat' first | (with_reducible first | exact zb0 _ _ | assumption | refine zb1 ?_ ?_ _ | refine zb2 ?_ | refine zb3 ?_ _ | refine zb4 ?_ ?_ _ | refine zb5 (by assumption) ?_ ?_ | exact zb6 _) | omega | (simp only [zsz]; omega) | (simp <;> omega))) (by omega)) p q t k lim H2.out h4 h9 h7 h8 HT.out).mono ?_; rintro e w1 ⟨rfl, hv1, ht1⟩; obtain ⟨hc1, hf1, hl1⟩ := tcell ht1 hlow; (try simp only [zdz] at hc1 hf1 hl1); have hz1 := ht1.size; (try simp only [zsz] at hz1); (try have g0 : w.heap.size < w1.heap.size := by omega); (try have g1 : w.heap.size + 1 < w1.heap.size := by omega); (try have g2 : w.heap.size + 2 < w1.heap.size := by omega); (try have g3 : w.heap.size + 3 < w1.heap.size := by omega); (try have g4 : w.heap.size + 4 < w1.heap.size := by omega); (try have hB1 : w.heap.size ≤ w1.heap.size := by omega); (try have gl : lk < w1.heap.size := hv1.low.l); (try have q0 := hv1.c0); (try have q1 := hv1.c1); (try have q4 := hv1.c4); (try have q5 := hv1.c5)))
  refine wp_named (fun wn => VOk wn lk hm cm b o n cap D dp bud { S with s := S.s + 1 } O ∧ Tch w.heap.size [lk, hm, cm] w wn ∧ w1.heap.size < wn.heap.size ∧ wn.cell? ⟨w.heap.size, 0, none⟩ = some (.int .i64 p) ∧
    wn.cell? ⟨w1.heap.size, 0, none⟩ = some (.int .i64 t) ∧ wn.cell? ⟨w1.heap.size, 1, none⟩ = some (.int .i64 (p - loadV D p q)) ∧ wn.cell? ⟨w1.heap.size, 2, none⟩ = some (.int .i64 k)) ⟨hv1.keep hlow (by (repeat' first | (with_reducible first | exact zb0 _ _ | assumption | refine zb1 ?_ ?_ _ | refine zb2 ?_ | refine zb3 ?_ _ | refine zb4 ?_ ?_ _ | refine zb5 (by assumption) ?_ ?_ | exact zb6 _) | omega | (simp only [zsz]; omega) | (simp <;> omega))) (by omega), by (repeat' first | (with_reducible first | exact Tch.refl _ _ _ | assumption | refine Tch.alloc ?_ ?_ _ | refine Tch.drew ?_ | refine Tch.drewN ?_ _ | refine Tch.setCell ?_ ?_ _ | refine Tch.setBlock ?_ (by simp) _ | refine tch_call (by assumption) ?_ ?_ | refine tch_below (by assumption) ?_ ?_ | exact zb6 _) | omega | (simp only [zsz, size_setBlock]; omega) | (simp; omega)), by (first | omega | (simp; omega) | simp), by go_simp, by go_simp, by go_simp, by go_simp⟩ ?_
  rintro wn ⟨hvn, htn, hzn, z0, z1, z2, z3⟩
  have hBn : w.heap.size ≤ wn.heap.size := htn.size
  have gln : lk < wn.heap.size := hvn.low.l
  have q1 := hvn.c1
  have q4 := hvn.c4
  have hvd : VOk wn.drew lk hm cm b o n cap D dp bud { S with s := S.s + 1 } O := hvn.keep hlow ((Below.refl _ _).drew) hBn
  have hlk : (Instr.lookup 61 (.map (some hm)) (.agg #[.int .i64 t, .int .i64 (p - loadV D p q), .int .i64 k]) true).run Try.prog wn.drew = .ok (.tuple #[.int .i64 hh, .bool true]) wn.drew := by
    have hx := hvd.lookH (t := t) (a := p - loadV D p q) (k := k) (wf64 (by omega) (by omega)) (wf64 (by omega) (by omega)) (wf64 (by omega) (by omega)) HO.out
    rw [show vknown _ _ = some hh from HK.out] at hx
    exact hx
  go_region
  all_goals go_wp2_with (go_at_call 45; refine (vtell_no (hvn.keep hlow (by (repeat' first | (with_reducible first | exact zb0 _ _ | assumption | refine zb1 ?_ ?_ _ | refine zb2 ?_ | refine zb3 ?_ _ | refine zb4 ?_ ?_ _ | refine zb5 (by assumption) ?_ ?_ | exact zb6 _) | omega | (simp only [zsz]; omega) | (simp <;> omega))) hBn) p 61 (by omega)).mono ?_; rintro e w1 ⟨rfl, hv1, ht1⟩; obtain ⟨hc1, hf1, hl1⟩ := tcell ht1 hlow; (try simp only [zdz] at hc1 hf1 hl1); have hz1 := ht1.size; (try simp only [zsz] at hz1); (try have g0 : w.heap.size < w1.heap.size := by omega); (try have g1 : w.heap.size + 1 < w1.heap.size := by omega); (try have g2 : w.heap.size + 2 < w1.heap.size := by omega); (try have g3 : w.heap.size + 3 < w1.heap.size := by omega); (try have g4 : w.heap.size + 4 < w1.heap.size := by omega); (try have hB1 : w.heap.size ≤ w1.heap.size := by omega); (try have gl : lk < w1.heap.size := hv1.low.l); (try have q0 := hv1.c0); (try have q1 := hv1.c1); (try have q4 := hv1.c4); (try have q5 := hv1.c5))
  all_goals go_returns
  all_goals exact ⟨⟨_, rfl⟩, hv1, Tch.touch (by (repeat' first | (with_reducible first | exact Tch.refl _ _ _ | assumption | refine Tch.alloc ?_ ?_ _ | refine Tch.drew ?_ | refine Tch.drewN ?_ _ | refine Tch.setCell ?_ ?_ _ | refine Tch.setBlock ?_ (by simp) _ | refine tch_call (by assumption) ?_ ?_ | refine tch_below (by assumption) ?_ ?_ | exact zb6 _) | omega | (simp only [zsz, size_setBlock]; omega) | (simp; omega)))⟩
set_option maxHeartbeats 4000000 in
set_option maxRecDepth 100000 in
theorem vlook_e4 (h : VOk w lk hm cm b o n cap D dp bud S O) (p q k lim deep hh : Int) (hm' : mayE n p q 4 k = 0) (hs : S.s + 1 ≤ bud) (hd : ¬ dp < deep) (hi : inlineB 4 = false) (ht : tgtB D p q 4 k lim = true)
    (hk : vknown S.L (4, p - loadV D p q, 0) = some hh) (hO : (4, p - loadV D p q, 0) ∉ O) (hd0 : 0 ≤ deep) (hd1 : deep ≤ 2147483648) (hh0 : 1 ≤ hh) (hh1 : hh ≤ 2147483648) (hle : deep + hh - 1 ≤ dp) :
    Calls Try.prog 29 #[.pointer (some ⟨lk, 0, none⟩), .agg #[.int .i64 p, .int .i64 q, .int .i64 4, .int .i64 k], .int .i64 lim, .int .i64 deep] w (LPost w lk hm cm b o n cap D dp bud O (.ok ({ S with s := S.s + 1 }, hh))) := by
  have hlow := h.low
  have hlw := hlow.l
  have Hs := Lib.hid hs
  have HT := Lib.hid ht
  obtain ⟨h1, h2, h3, h4, h5, h6, h7, h8, h9⟩ := mayE_zero hm'
  obtain ⟨t0, t37⟩ := kindOf_in h1
  have H2 := Lib.hid h2
  have hD := h.doc
  obtain ⟨hn1, hn2⟩ := hD.bd
  have v0 := loadV_nonneg D p q
  have v1 := (tgtB_le ht).1
  have HK := Lib.hid hk
  have HO := Lib.hid hO
  clear hs ht hm' h1 h2 h3 hk hO
  go_enter Try.func29, Try.ntmps29
  go_upto_region 11 with (first | (go_at_call 44; refine (vstep_ok (h.keep hlow (by (repeat' first | (with_reducible first | exact zb0 _ _ | assumption | refine zb1 ?_ ?_ _ | refine zb2 ?_ | refine zb3 ?_ _ | refine zb4 ?_ ?_ _ | refine zb5 (by assumption) ?_ ?_ | exact zb6 _) | omega | (simp only [zsz]; omega) | (simp <;> omega))) (Nat.le_refl _)) 1 p (by omega) Hs.out).mono ?_; rintro e w1 ⟨rfl, hv1, ht1⟩; obtain ⟨hc1, hf1, hl1⟩ := tcell ht1 hlow; (try simp only [zdz] at hc1 hf1 hl1); have hz1 := ht1.size; (try simp only [zsz] at hz1); (try have g0 : w.heap.size < w1.heap.size := by omega); (try have g1 : w.heap.size + 1 < w1.heap.size := by omega); (try have g2 : w.heap.size + 2 < w1.heap.size := by omega); (try have g3 : w.heap.size + 3 < w1.heap.size := by omega); (try have g4 : w.heap.size + 4 < w1.heap.size := by omega); (try have hB1 : w.heap.size ≤ w1.heap.size := by omega); (try have gl : lk < w1.heap.size := hv1.low.l); (try have q0 := hv1.c0); (try have q1 := hv1.c1); (try have q4 := hv1.c4); (try have q5 := hv1.c5)) | (go_at_call 46; refine (inline_any _ _).mono ?_; rintro e w1 ⟨rfl, hb1⟩; obtain ⟨hc1, hf1, hl1⟩ := bcell hb1; (try simp only [zdz] at hc1 hf1 hl1); have hz1 := hb1.size; (try simp only [zsz] at hz1); (try have g0 : w.heap.size < w1.heap.size := by omega); (try have g1 : w.heap.size + 1 < w1.heap.size := by omega); (try have gl : lk < w1.heap.size := by omega)) | (go_at_call 47; refine (vtgt_ok (hv1.keep hlow (by (repeat' first | (with_reducible first | exact zb0 _ _ | assumption | refine zb1 ?_ ?_ _ | refine zb2 ?_ | refine zb3 ?_ _ | refine zb4 ?_ ?_ _ | refine zb5 (by assumption) ?_ ?_ | exact zb6 _) | omega | (simp only [zsz]; omega) | (simp <;> omega))) (by omega)) p q 4 k lim H2.out h4 h9 h7 h8 HT.out).mono ?_; rintro e w1 ⟨rfl, hv1, ht1⟩; obtain ⟨hc1, hf1, hl1⟩ := tcell ht1 hlow; (try simp only [zdz] at hc1 hf1 hl1); have hz1 := ht1.size; (try simp only [zsz] at hz1); (try have g0 : w.heap.size < w1.heap.size := by omega); (try have g1 : w.heap.size + 1 < w1.heap.size := by omega); (try have g2 : w.heap.size + 2 < w1.heap.size := by omega); (try have g3 : w.heap.size + 3 < w1.heap.size := by omega); (try have g4 : w.heap.size + 4 < w1.heap.size := by omega); (try have hB1 : w.heap.size ≤ w1.heap.size := by omega); (try have gl : lk < w1.heap.size := hv1.low.l); (try have q0 := hv1.c0); (try have q1 := hv1.c1); (try have q4 := hv1.c4); (try have q5 := hv1.c5)))
  refine wp_named (fun wn => VOk wn lk hm cm b o n cap D dp bud { S with s := S.s + 1 } O ∧ Tch w.heap.size [lk, hm, cm] w wn ∧ w1.heap.size < wn.heap.size ∧ wn.cell? ⟨w.heap.size, 0, none⟩ = some (.int .i64 p) ∧
    wn.cell? ⟨w1.heap.size, 0, none⟩ = some (.int .i64 4) ∧ wn.cell? ⟨w1.heap.size, 1, none⟩ = some (.int .i64 (p - loadV D p q)) ∧ wn.cell? ⟨w1.heap.size, 2, none⟩ = some (.int .i64 0)) ⟨hv1.keep hlow (by (repeat' first | (with_reducible first | exact zb0 _ _ | assumption | refine zb1 ?_ ?_ _ | refine zb2 ?_ | refine zb3 ?_ _ | refine zb4 ?_ ?_ _ | refine zb5 (by assumption) ?_ ?_ | exact zb6 _) | omega | (simp only [zsz]; omega) | (simp <;> omega))) (by omega), by (repeat' first | (with_reducible first | exact Tch.refl _ _ _ | assumption | refine Tch.alloc ?_ ?_ _ | refine Tch.drew ?_ | refine Tch.drewN ?_ _ | refine Tch.setCell ?_ ?_ _ | refine Tch.setBlock ?_ (by simp) _ | refine tch_call (by assumption) ?_ ?_ | refine tch_below (by assumption) ?_ ?_ | exact zb6 _) | omega | (simp only [zsz, size_setBlock]; omega) | (simp; omega)), by (first | omega | (simp; omega) | simp), by go_simp, by go_simp, by go_simp, by go_simp⟩ ?_
  rintro wn ⟨hvn, htn, hzn, z0, z1, z2, z3⟩
  have hBn : w.heap.size ≤ wn.heap.size := htn.size
  have gln : lk < wn.heap.size := hvn.low.l
  have q1 := hvn.c1
  have q4 := hvn.c4
  have hvd : VOk wn.drew lk hm cm b o n cap D dp bud { S with s := S.s + 1 } O := hvn.keep hlow ((Below.refl _ _).drew) hBn
  have hlk : (Instr.lookup 61 (.map (some hm)) (.agg #[.int .i64 4, .int .i64 (p - loadV D p q), .int .i64 0]) true).run Try.prog wn.drew = .ok (.tuple #[.int .i64 hh, .bool true]) wn.drew := by
    have hx := hvd.lookH (t := 4) (a := p - loadV D p q) (k := 0) (wf64 (by omega) (by omega)) (wf64 (by omega) (by omega)) (wf64 (by omega) (by omega)) HO.out
    rw [show vknown _ _ = some hh from HK.out] at hx
    exact hx
  go_region
  all_goals go_wp2
  all_goals go_returns
  all_goals exact ⟨rfl, hvn.keep hlow (by (repeat' first | (with_reducible first | exact zb0 _ _ | assumption | refine zb1 ?_ ?_ _ | refine zb2 ?_ | refine zb3 ?_ _ | refine zb4 ?_ ?_ _ | refine zb5 (by assumption) ?_ ?_ | exact zb6 _) | omega | (simp only [zsz]; omega) | (simp <;> omega))) hBn, Tch.touch (by (repeat' first | (with_reducible first | exact Tch.refl _ _ _ | assumption | refine Tch.alloc ?_ ?_ _ | refine Tch.drew ?_ | refine Tch.drewN ?_ _ | refine Tch.setCell ?_ ?_ _ | refine Tch.setBlock ?_ (by simp) _ | refine tch_call (by assumption) ?_ ?_ | refine tch_below (by assumption) ?_ ?_ | exact zb6 _) | omega | (simp only [zsz, size_setBlock]; omega) | (simp; omega)))⟩
set_option maxHeartbeats 4000000 in
set_option maxRecDepth 100000 in
theorem vlook_en4 (h : VOk w lk hm cm b o n cap D dp bud S O) (p q k lim deep hh : Int) (hm' : mayE n p q 4 k = 0) (hs : S.s + 1 ≤ bud) (hd : ¬ dp < deep) (hi : inlineB 4 = false) (ht : tgtB D p q 4 k lim = true)
    (hk : vknown S.L (4, p - loadV D p q, 0) = some hh) (hO : (4, p - loadV D p q, 0) ∉ O) (hd0 : 0 ≤ deep) (hd1 : deep ≤ 2147483648) (hh0 : 1 ≤ hh) (hh1 : hh ≤ 2147483648) (hle : dp < deep + hh - 1) :
    Calls Try.prog 29 #[.pointer (some ⟨lk, 0, none⟩), .agg #[.int .i64 p, .int .i64 q, .int .i64 4, .int .i64 k], .int .i64 lim, .int .i64 deep] w (LPost w lk hm cm b o n cap D dp bud O (.error (S.s + 1, p, 61))) := by
  have hlow := h.low
  have hdec : decide (deep + hh - 1 ≤ dp) = false := by simp; omega
  have hlw := hlow.l
  have Hs := Lib.hid hs
  have HT := Lib.hid ht
  obtain ⟨h1, h2, h3, h4, h5, h6, h7, h8, h9⟩ := mayE_zero hm'
  obtain ⟨t0, t37⟩ := kindOf_in h1
  have H2 := Lib.hid h2
  have hD := h.doc
  obtain ⟨hn1, hn2⟩ := hD.bd
  have v0 := loadV_nonneg D p q
  have v1 := (tgtB_le ht).1
  have HK := Lib.hid hk
  have HO := Lib.hid hO
  clear hs ht hm' h1 h2 h3 hk hO
  go_enter Try.func29, Try.ntmps29
  go_upto_region 11 with (first | (go_at_call 44; refine (vstep_ok (h.keep hlow (by (repeat' first | (with_reducible first | exact zb0 _ _ | assumption | refine zb1 ?_ ?_ _ | refine zb2 ?_ | refine zb3 ?_ _ | refine zb4 ?_ ?_ _ | refine zb5 (by assumption) ?_ ?_ | exact zb6 _) | omega | (simp only [zsz]; omega) | (simp <;> omega))) (Nat.le_refl _)) 1 p (by omega) Hs.out).mono ?_; rintro e w1 ⟨rfl, hv1, ht1⟩; obtain ⟨hc1, hf1, hl1⟩ := tcell ht1 hlow; (try simp only [zdz] at hc1 hf1 hl1); have hz1 := ht1.size; (try simp only [zsz] at hz1); (try have g0 : w.heap.size < w1.heap.size := by omega); (try have g1 : w.heap.size + 1 < w1.heap.size := by omega); (try have g2 : w.heap.size + 2 < w1.heap.size := by omega); (try have g3 : w.heap.size + 3 < w1.heap.size := by omega); (try have g4 : w.heap.size + 4 < w1.heap.size := by omega); (try have hB1 : w.heap.size ≤ w1.heap.size := by omega); (try have gl : lk < w1.heap.size := hv1.low.l); (try have q0 := hv1.c0); (try have q1 := hv1.c1); (try have q4 := hv1.c4); (try have q5 := hv1.c5)) | (go_at_call 46; refine (inline_any _ _).mono ?_; rintro e w1 ⟨rfl, hb1⟩; obtain ⟨hc1, hf1, hl1⟩ := bcell hb1; (try simp only [zdz] at hc1 hf1 hl1); have hz1 := hb1.size; (try simp only [zsz] at hz1); (try have g0 : w.heap.size < w1.heap.size := by omega); (try have g1 : w.heap.size + 1 < w1.heap.size := by omega); (try have gl : lk < w1.heap.size := by omega)) | (go_at_call 47; refine (vtgt_ok (hv1.keep hlow (by (repeat' first | (with_reducible first | exact zb0 _ _ | assumption | refine zb1 ?_ ?_ _ | refine zb2 ?_ | refine zb3 ?_ _ | refine zb4 ?_ ?_ _ | refine zb5 (by assumption) ?_ ?_ | exact zb6 _) | omega | (simp only [zsz]; omega) | (simp <;> omega))) (by omega)) p q 4 k lim H2.out h4 h9 h7 h8 HT.out).mono ?_; rintro e w1 ⟨rfl, hv1, ht1⟩; obtain ⟨hc1, hf1, hl1⟩ := tcell ht1 hlow; (try simp only [zdz] at hc1 hf1 hl1); have hz1 := ht1.size; (try simp only [zsz] at hz1); (try have g0 : w.heap.size < w1.heap.size := by omega); (try have g1 : w.heap.size + 1 < w1.heap.size := by omega); (try have g2 : w.heap.size + 2 < w1.heap.size := by omega); (try have g3 : w.heap.size + 3 < w1.heap.size := by omega); (try have g4 : w.heap.size + 4 < w1.heap.size := by omega); (try have hB1 : w.heap.size ≤ w1.heap.size := by omega); (try have gl : lk < w1.heap.size := hv1.low.l); (try have q0 := hv1.c0); (try have q1 := hv1.c1); (try have q4 := hv1.c4); (try have q5 := hv1.c5)))
  refine wp_named (fun wn => VOk wn lk hm cm b o n cap D dp bud { S with s := S.s + 1 } O ∧ Tch w.heap.size [lk, hm, cm] w wn ∧ w1.heap.size < wn.heap.size ∧ wn.cell? ⟨w.heap.size, 0, none⟩ = some (.int .i64 p) ∧
    wn.cell? ⟨w1.heap.size, 0, none⟩ = some (.int .i64 4) ∧ wn.cell? ⟨w1.heap.size, 1, none⟩ = some (.int .i64 (p - loadV D p q)) ∧ wn.cell? ⟨w1.heap.size, 2, none⟩ = some (.int .i64 0)) ⟨hv1.keep hlow (by (repeat' first | (with_reducible first | exact zb0 _ _ | assumption | refine zb1 ?_ ?_ _ | refine zb2 ?_ | refine zb3 ?_ _ | refine zb4 ?_ ?_ _ | refine zb5 (by assumption) ?_ ?_ | exact zb6 _) | omega | (simp only [zsz]; omega) | (simp <;> omega))) (by omega), by (repeat' first | (with_reducible first | exact Tch.refl _ _ _ | assumption | refine Tch.alloc ?_ ?_ _ | refine Tch.drew ?_ | refine Tch.drewN ?_ _ | refine Tch.setCell ?_ ?_ _ | refine Tch.setBlock ?_ (by simp) _ | refine tch_call (by assumption) ?_ ?_ | refine tch_below (by assumption) ?_ ?_ | exact zb6 _) | omega | (simp only [zsz, size_setBlock]; omega) | (simp; omega)), by (first | omega | (simp; omega) | simp), by go_simp, by go_simp, by go_simp, by go_simp⟩ ?_
  rintro wn ⟨hvn, htn, hzn, z0, z1, z2, z3⟩
  have hBn : w.heap.size ≤ wn.heap.size := htn.size
  have gln : lk < wn.heap.size := hvn.low.l
  have q1 := hvn.c1
  have q4 := hvn.c4
  have hvd : VOk wn.drew lk hm cm b o n cap D dp bud { S with s := S.s + 1 } O := hvn.keep hlow ((Below.refl _ _).drew) hBn
  have hlk : (Instr.lookup 61 (.map (some hm)) (.agg #[.int .i64 4, .int .i64 (p - loadV D p q), .int .i64 0]) true).run Try.prog wn.drew = .ok (.tuple #[.int .i64 hh, .bool true]) wn.drew := by
    have hx := hvd.lookH (t := 4) (a := p - loadV D p q) (k := 0) (wf64 (by omega) (by omega)) (wf64 (by omega) (by omega)) (wf64 (by omega) (by omega)) HO.out
    rw [show vknown _ _ = some hh from HK.out] at hx
    exact hx
  go_region
  all_goals go_wp2_with (go_at_call 45; refine (vtell_no (hvn.keep hlow (by (repeat' first | (with_reducible first | exact zb0 _ _ | assumption | refine zb1 ?_ ?_ _ | refine zb2 ?_ | refine zb3 ?_ _ | refine zb4 ?_ ?_ _ | refine zb5 (by assumption) ?_ ?_ | exact zb6 _) | omega | (simp only [zsz]; omega) | (simp <;> omega))) hBn) p 61 (by omega)).mono ?_; rintro e w1 ⟨rfl, hv1, ht1⟩; obtain ⟨hc1, hf1, hl1⟩ := tcell ht1 hlow; (try simp only [zdz] at hc1 hf1 hl1); have hz1 := ht1.size; (try simp only [zsz] at hz1); (try have g0 : w.heap.size < w1.heap.size := by omega); (try have g1 : w.heap.size + 1 < w1.heap.size := by omega); (try have g2 : w.heap.size + 2 < w1.heap.size := by omega); (try have g3 : w.heap.size + 3 < w1.heap.size := by omega); (try have g4 : w.heap.size + 4 < w1.heap.size := by omega); (try have hB1 : w.heap.size ≤ w1.heap.size := by omega); (try have gl : lk < w1.heap.size := hv1.low.l); (try have q0 := hv1.c0); (try have q1 := hv1.c1); (try have q4 := hv1.c4); (try have q5 := hv1.c5))
  all_goals go_returns
  all_goals exact ⟨⟨_, rfl⟩, hv1, Tch.touch (by (repeat' first | (with_reducible first | exact Tch.refl _ _ _ | assumption | refine Tch.alloc ?_ ?_ _ | refine Tch.drew ?_ | refine Tch.drewN ?_ _ | refine Tch.setCell ?_ ?_ _ | refine Tch.setBlock ?_ (by simp) _ | refine tch_call (by assumption) ?_ ?_ | refine tch_below (by assumption) ?_ ?_ | exact zb6 _) | omega | (simp only [zsz, size_setBlock]; omega) | (simp; omega)))⟩
end
end
end Go.Proofs.Ytmpflnlajakibaa
