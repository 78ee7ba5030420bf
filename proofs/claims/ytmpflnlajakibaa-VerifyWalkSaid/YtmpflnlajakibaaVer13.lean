/- The walk of verify.looker's keys: all but the loop. -/
import Derived.Test.YtmpflnlajakibaaVer5
import Derived.Test.YtmpflnlajakibaaVer8
import Derived.Test.YtmpflnlajakibaaVer12
import Derived.Test.YtmpflnlajakibaaLess
namespace Go.Proofs.Ytmpflnlajakibaa
set_option linter.unusedVariables false
set_option linter.unusedSimpArgs false
set_option linter.unusedSectionVars false
open Go.RowKit
section
variable {w : World} {lk hm cm b o n cap : Nat} {D : List UInt8} {dp bud : Int} {S : VS} {O : List Lead}
theorem vkref (h : VOk w lk hm cm b o n cap D dp bud S O) (p q k f : Int) (hk : wideB k = true) (h0 : 0 ≤ f) (h1 : f + 3 * k ≤ n) (r : VR Int) (hr : keysRefM D k f S = r) :
    Calls Try.prog 137 #[.pointer (some ⟨lk, 0, none⟩), .agg #[.int .i64 p, .int .i64 q, .int .i64 9, .int .i64 k], .int .i64 f] w (KRPost w lk hm cm b o n cap D dp bud O k f r) := by
  by_cases hv : loadV D f k ≤ f
  · exact vkref_b h p q k f hk h0 h1 hv r hr
  · obtain rfl : r = .error (S.s, f, 211) := by rw [← hr]; unfold keysRefM; rw [if_pos (by omega)]
    exact vkref_a h p q k f hk h0 h1 (by omega)
set_option maxHeartbeats 4000000 in
theorem vkeys_a (h : VOk w lk hm cm b o n cap D dp bud S O) (p q k f m s' a' e' : Int) (hk : wideB k = true) (h0 : 0 ≤ f) (h1 : f + 3 * k ≤ n) (hr : keysRefM D k f S = .error (s', a', e')) :
    Calls Try.prog 113 #[.pointer (some ⟨lk, 0, none⟩), .agg #[.int .i64 p, .int .i64 q, .int .i64 9, .int .i64 k], .int .i64 f, .int .i64 m] w (KPost w lk hm cm b o n cap D dp bud O (.error (s', a', e'))) := by
  have hlow := h.low
  have hlw := hlow.l
  have HK := Lib.hid hk
  have HR := Lib.hid hr
  clear hk hr
  go_enter Try.func113, Try.ntmps113
  go_wp2_with (go_at_call 137; refine (vkref (h.keep hlow (by (repeat' first | (with_reducible first | exact zb0 _ _ | assumption | refine zb1 ?_ ?_ _ | refine zb2 ?_ | refine zb3 ?_ _ | refine zb4 ?_ ?_ _ | refine zb5 (by assumption) ?_ ?_ | exact zb6 _) | omega | (simp only [zsz]; omega) | (simp <;> omega))) (Nat.le_refl _)) p q k f HK.out h0 h1 _ HR.out).mono ?_; rintro e w1 ⟨⟨x1, x2, x3, x4, x5, rfl⟩, hv1, ht1⟩; obtain ⟨hc1, hf1, hl1⟩ := tcell ht1 hlow; (try simp only [zdz] at hc1 hf1 hl1); have hz1 := ht1.size; (try simp only [zsz] at hz1); (try have g0 : w.heap.size < w1.heap.size := by omega); (try have g1 : w.heap.size + 1 < w1.heap.size := by omega); (try have g2 : w.heap.size + 2 < w1.heap.size := by omega); (try have g3 : w.heap.size + 3 < w1.heap.size := by omega); (try have g4 : w.heap.size + 4 < w1.heap.size := by omega); (try have hB1 : w.heap.size ≤ w1.heap.size := by omega); (try have gl : lk < w1.heap.size := hv1.low.l); (try have q0 := hv1.c0); (try have q1 := hv1.c1); (try have q4 := hv1.c4); (try have q5 := hv1.c5))
  go_returns
  exact ⟨rfl, hv1.keep hlow (by (repeat' first | (with_reducible first | exact zb0 _ _ | assumption | refine zb1 ?_ ?_ _ | refine zb2 ?_ | refine zb3 ?_ _ | refine zb4 ?_ ?_ _ | refine zb5 (by assumption) ?_ ?_ | exact zb6 _) | omega | (simp only [zsz]; omega) | (simp <;> omega))) (by omega), Tch.touch (by (repeat' first | (with_reducible first | exact Tch.refl _ _ _ | assumption | refine Tch.alloc ?_ ?_ _ | refine Tch.drew ?_ | refine Tch.drewN ?_ _ | refine Tch.setCell ?_ ?_ _ | refine Tch.setBlock ?_ (by simp) _ | refine tch_call (by assumption) ?_ ?_ | refine tch_below (by assumption) ?_ ?_ | exact zb6 _) | omega | (simp only [zsz, size_setBlock]; omega) | (simp; omega)))⟩
set_option maxHeartbeats 4000000 in
set_option maxRecDepth 100000 in
theorem vkeys_b (h : VOk w lk hm cm b o n cap D dp bud S O) (p q k f m : Int) (hk : wideB k = true) (h0 : 0 ≤ f) (h1 : f + 3 * k ≤ n) (hr : keysRefM D k f S = .ok (S, f - loadV D f k)) (he : lfindE D f k 14 (kwOf D k f) ≠ 0) :
    Calls Try.prog 113 #[.pointer (some ⟨lk, 0, none⟩), .agg #[.int .i64 p, .int .i64 q, .int .i64 9, .int .i64 k], .int .i64 f, .int .i64 m] w (KPost w lk hm cm b o n cap D dp bud O (.error (S.s, f - loadV D f k, lfindE D f k 14 (kwOf D k f)))) := by
  have hlow := h.low
  have hlw := hlow.l
  have HK := Lib.hid hk
  have HR := Lib.hid hr
  obtain ⟨-, r0, -, r1, r2, -⟩ := keysRefM_ok hr
  have hD := h.doc
  obtain ⟨hn1, hn2⟩ := hD.bd
  have hkb := wideB_bd hk
  have hwb := wideB_bd r2
  have v0 := loadV_nonneg D f k
  clear hk hr r2
  go_enter Try.func113, Try.ntmps113
  go_upto_region 4 with (go_at_call 137; refine (vkref (h.keep hlow (by (repeat' first | (with_reducible first | exact zb0 _ _ | assumption | refine zb1 ?_ ?_ _ | refine zb2 ?_ | refine zb3 ?_ _ | refine zb4 ?_ ?_ _ | refine zb5 (by assumption) ?_ ?_ | exact zb6 _) | omega | (simp only [zsz]; omega) | (simp <;> omega))) (Nat.le_refl _)) p q k f HK.out h0 h1 _ HR.out).mono ?_; rintro e w1 ⟨rfl, hv1, ht1⟩; obtain ⟨hc1, hf1, hl1⟩ := tcell ht1 hlow; (try simp only [zdz] at hc1 hf1 hl1); have hz1 := ht1.size; (try simp only [zsz] at hz1); (try have g0 : w.heap.size < w1.heap.size := by omega); (try have g1 : w.heap.size + 1 < w1.heap.size := by omega); (try have g2 : w.heap.size + 2 < w1.heap.size := by omega); (try have g3 : w.heap.size + 3 < w1.heap.size := by omega); (try have g4 : w.heap.size + 4 < w1.heap.size := by omega); (try have hB1 : w.heap.size ≤ w1.heap.size := by omega); (try have gl : lk < w1.heap.size := hv1.low.l); (try have q0 := hv1.c0); (try have q1 := hv1.c1); (try have q4 := hv1.c4); (try have q5 := hv1.c5))
  refine wp_named (fun wn => VOk wn lk hm cm b o n cap D dp bud S O ∧ Tch w.heap.size [lk, hm, cm] w wn ∧ w.heap.size ≤ w1.heap.size ∧ w1.heap.size < wn.heap.size ∧ wn.cell? ⟨w1.heap.size, 0, none⟩ = some (.int .i64 f) ∧ wn.cell? ⟨w1.heap.size, 1, none⟩ = some (.int .i64 k) ∧ wn.cell? ⟨w1.heap.size, 2, none⟩ = some (.int .i64 14) ∧ wn.cell? ⟨w1.heap.size, 3, none⟩ = some (.int .i64 (kwOf D k f))) ⟨hv1.keep hlow (by (repeat' first | (with_reducible first | exact zb0 _ _ | assumption | refine zb1 ?_ ?_ _ | refine zb2 ?_ | refine zb3 ?_ _ | refine zb4 ?_ ?_ _ | refine zb5 (by assumption) ?_ ?_ | exact zb6 _) | omega | (simp only [zsz]; omega) | (simp <;> omega))) (by omega), by (repeat' first | (with_reducible first | exact Tch.refl _ _ _ | assumption | refine Tch.alloc ?_ ?_ _ | refine Tch.drew ?_ | refine Tch.drewN ?_ _ | refine Tch.setCell ?_ ?_ _ | refine Tch.setBlock ?_ (by simp) _ | refine tch_call (by assumption) ?_ ?_ | refine tch_below (by assumption) ?_ ?_ | exact zb6 _) | omega | (simp only [zsz, size_setBlock]; omega) | (simp; omega)), by omega, by (first | omega | (simp; omega) | simp), by go_simp, by go_simp, by go_simp, by go_simp⟩ ?_
  generalize w1.heap.size = X
  rintro wn ⟨hvn, htn, hX0, hX1, z0, z1, z2, z3⟩
  have hBn : w.heap.size ≤ wn.heap.size := htn.size
  have hDn := hvn.doc
  have gln : lk < wn.heap.size := hvn.low.l
  have z4 := hvn.c0
  go_region_held3 (fun w' => w'.cell? ⟨X, 0, none⟩ = some (.int .i64 f) ∧ w'.cell? ⟨X, 1, none⟩ = some (.int .i64 k) ∧ w'.cell? ⟨X, 2, none⟩ = some (.int .i64 14) ∧ w'.cell? ⟨X, 3, none⟩ = some (.int .i64 (kwOf D k f)) ∧ w'.cell? ⟨lk, 0, none⟩ = some (.slice (some ⟨b, o, none⟩) n cap)) (first | (with_reducible exact ⟨z0, z1, z2, z3, z4⟩) | (refine ⟨?_, ?_, ?_, ?_, ?_⟩ <;> go_keep)) (((go_at_call 103; refine (span_arm (hDn.below (by (repeat' first | (with_reducible first | exact zb0 _ _ | assumption | refine zb1 ?_ ?_ _ | refine zb2 ?_ | refine zb3 ?_ _ | refine zb4 ?_ ?_ _ | refine zb5 (by assumption) ?_ ?_ | exact zb6 _) | omega | (simp only [zsz]; omega) | (simp <;> omega)))) rfl).mono ?_; rintro e w1 ⟨rfl, hb1⟩; obtain ⟨hc1, hf1, hl1⟩ := bcell hb1; (try simp only [zdz] at hc1 hf1 hl1); have hz1 := hb1.size; (try simp only [zsz] at hz1); (try have g0 : w.heap.size < w1.heap.size := by omega); (try have g1 : w.heap.size + 1 < w1.heap.size := by omega); (try have gl : lk < w1.heap.size := by omega)); (have gX : X < w1.heap.size := by omega)))
  go_upto_region 5 with fail
  have e0 : w1.cell? ⟨X, 0, none⟩ = some (.int .i64 f) := by go_simp
  have e1 : w1.cell? ⟨X, 1, none⟩ = some (.int .i64 k) := by go_simp
  have e2 : w1.cell? ⟨X, 2, none⟩ = some (.int .i64 14) := by go_simp
  have e3 : w1.cell? ⟨X, 3, none⟩ = some (.int .i64 (kwOf D k f)) := by go_simp
  have e4 : w1.cell? ⟨lk, 0, none⟩ = some (.slice (some ⟨b, o, none⟩) n cap) := by go_simp
  go_region_held3 (fun w' => w'.cell? ⟨X, 0, none⟩ = some (.int .i64 f) ∧ w'.cell? ⟨X, 1, none⟩ = some (.int .i64 k) ∧ w'.cell? ⟨X, 2, none⟩ = some (.int .i64 14) ∧ w'.cell? ⟨X, 3, none⟩ = some (.int .i64 (kwOf D k f)) ∧ w'.cell? ⟨lk, 0, none⟩ = some (.slice (some ⟨b, o, none⟩) n cap)) (first | (with_reducible exact ⟨e0, e1, e2, e3, e4⟩) | (refine ⟨?_, ?_, ?_, ?_, ?_⟩ <;> go_keep)) (((go_at_call 22; refine (len_arm (hDn.below (by (repeat' first | (with_reducible first | exact zb0 _ _ | assumption | refine zb1 ?_ ?_ _ | refine zb2 ?_ | refine zb3 ?_ _ | refine zb4 ?_ ?_ _ | refine zb5 (by assumption) ?_ ?_ | exact zb6 _) | omega | (simp only [zsz]; omega) | (simp <;> omega)))) rfl).mono ?_; rintro e w1 ⟨rfl, hb1⟩; obtain ⟨hc1, hf1, hl1⟩ := bcell hb1; (try simp only [zdz] at hc1 hf1 hl1); have hz1 := hb1.size; (try simp only [zsz] at hz1); (try have g0 : w.heap.size < w1.heap.size := by omega); (try have g1 : w.heap.size + 1 < w1.heap.size := by omega); (try have gl : lk < w1.heap.size := by omega)); (have gX : X < w1.heap.size := by omega)))
  go_wp2_with (go_at_call 45; refine (vtell_no (hvn.keep hlow (by (repeat' first | (with_reducible first | exact zb0 _ _ | assumption | refine zb1 ?_ ?_ _ | refine zb2 ?_ | refine zb3 ?_ _ | refine zb4 ?_ ?_ _ | refine zb5 (by assumption) ?_ ?_ | exact zb6 _) | omega | (simp only [zsz]; omega) | (simp <;> omega))) hBn) (f - loadV D f k) (lfindE D f k 14 (kwOf D k f)) he).mono ?_; rintro e w1 ⟨rfl, hv1, ht1⟩; obtain ⟨hc1, hf1, hl1⟩ := tcell ht1 hlow; (try simp only [zdz] at hc1 hf1 hl1); have hz1 := ht1.size; (try simp only [zsz] at hz1); (try have g0 : w.heap.size < w1.heap.size := by omega); (try have g1 : w.heap.size + 1 < w1.heap.size := by omega); (try have g2 : w.heap.size + 2 < w1.heap.size := by omega); (try have g3 : w.heap.size + 3 < w1.heap.size := by omega); (try have g4 : w.heap.size + 4 < w1.heap.size := by omega); (try have hB1 : w.heap.size ≤ w1.heap.size := by omega); (try have gl : lk < w1.heap.size := hv1.low.l); (try have q0 := hv1.c0); (try have q1 := hv1.c1); (try have q4 := hv1.c4); (try have q5 := hv1.c5))
  go_returns
  exact ⟨rfl, hv1, Tch.touch (by (repeat' first | (with_reducible first | exact Tch.refl _ _ _ | assumption | refine Tch.alloc ?_ ?_ _ | refine Tch.drew ?_ | refine Tch.drewN ?_ _ | refine Tch.setCell ?_ ?_ _ | refine Tch.setBlock ?_ (by simp) _ | refine tch_call (by assumption) ?_ ?_ | refine tch_below (by assumption) ?_ ?_ | exact zb6 _) | omega | (simp only [zsz, size_setBlock]; omega) | (simp; omega)))⟩
set_option maxHeartbeats 4000000 in
set_option maxRecDepth 100000 in
theorem vkeys_d (h : VOk w lk hm cm b o n cap D dp bud S O) (p q k f m hh : Int) (hk : wideB k = true) (h0 : 0 ≤ f) (h1 : f + 3 * k ≤ n) (hr : keysRefM D k f S = .ok (S, f - loadV D f k)) (he : lfindE D f k 14 (kwOf D k f) = 0) (hne : (lCnt D f k 14 (kwOf D k f) != m) = false) (hkn : vknown S.L (-1, f - loadV D f k, kwOf D k f) = some hh) (hO : (-1, f - loadV D f k, kwOf D k f) ∉ O) :
    Calls Try.prog 113 #[.pointer (some ⟨lk, 0, none⟩), .agg #[.int .i64 p, .int .i64 q, .int .i64 9, .int .i64 k], .int .i64 f, .int .i64 m] w (KPost w lk hm cm b o n cap D dp bud O (.ok (S, ()))) := by
  have hlow := h.low
  have hlw := hlow.l
  have HK := Lib.hid hk
  have HR := Lib.hid hr
  obtain ⟨-, r0, -, r1, r2, -⟩ := keysRefM_ok hr
  have hD := h.doc
  obtain ⟨hn1, hn2⟩ := hD.bd
  have hkb := wideB_bd hk
  have hwb := wideB_bd r2
  have v0 := loadV_nonneg D f k
  have He := Lib.hid he
  have HN := Lib.hid hkn
  have HO := Lib.hid hO
  clear hk hr r2 he hkn hO
  go_enter Try.func113, Try.ntmps113
  go_upto_region 4 with (go_at_call 137; refine (vkref (h.keep hlow (by (repeat' first | (with_reducible first | exact zb0 _ _ | assumption | refine zb1 ?_ ?_ _ | refine zb2 ?_ | refine zb3 ?_ _ | refine zb4 ?_ ?_ _ | refine zb5 (by assumption) ?_ ?_ | exact zb6 _) | omega | (simp only [zsz]; omega) | (simp <;> omega))) (Nat.le_refl _)) p q k f HK.out h0 h1 _ HR.out).mono ?_; rintro e w1 ⟨rfl, hv1, ht1⟩; obtain ⟨hc1, hf1, hl1⟩ := tcell ht1 hlow; (try simp only [zdz] at hc1 hf1 hl1); have hz1 := ht1.size; (try simp only [zsz] at hz1); (try have g0 : w.heap.size < w1.heap.size := by omega); (try have g1 : w.heap.size + 1 < w1.heap.size := by omega); (try have g2 : w.heap.size + 2 < w1.heap.size := by omega); (try have g3 : w.heap.size + 3 < w1.heap.size := by omega); (try have g4 : w.heap.size + 4 < w1.heap.size := by omega); (try have hB1 : w.heap.size ≤ w1.heap.size := by omega); (try have gl : lk < w1.heap.size := hv1.low.l); (try have q0 := hv1.c0); (try have q1 := hv1.c1); (try have q4 := hv1.c4); (try have q5 := hv1.c5))
  refine wp_named (fun wn => VOk wn lk hm cm b o n cap D dp bud S O ∧ Tch w.heap.size [lk, hm, cm] w wn ∧ w.heap.size ≤ w1.heap.size ∧ w1.heap.size < wn.heap.size ∧ wn.cell? ⟨w1.heap.size, 0, none⟩ = some (.int .i64 f) ∧ wn.cell? ⟨w1.heap.size, 1, none⟩ = some (.int .i64 k) ∧ wn.cell? ⟨w1.heap.size, 2, none⟩ = some (.int .i64 14) ∧ wn.cell? ⟨w1.heap.size, 3, none⟩ = some (.int .i64 (kwOf D k f))) ⟨hv1.keep hlow (by (repeat' first | (with_reducible first | exact zb0 _ _ | assumption | refine zb1 ?_ ?_ _ | refine zb2 ?_ | refine zb3 ?_ _ | refine zb4 ?_ ?_ _ | refine zb5 (by assumption) ?_ ?_ | exact zb6 _) | omega | (simp only [zsz]; omega) | (simp <;> omega))) (by omega), by (repeat' first | (with_reducible first | exact Tch.refl _ _ _ | assumption | refine Tch.alloc ?_ ?_ _ | refine Tch.drew ?_ | refine Tch.drewN ?_ _ | refine Tch.setCell ?_ ?_ _ | refine Tch.setBlock ?_ (by simp) _ | refine tch_call (by assumption) ?_ ?_ | refine tch_below (by assumption) ?_ ?_ | exact zb6 _) | omega | (simp only [zsz, size_setBlock]; omega) | (simp; omega)), by omega, by (first | omega | (simp; omega) | simp), by go_simp, by go_simp, by go_simp, by go_simp⟩ ?_
  generalize w1.heap.size = X
  rintro wn ⟨hvn, htn, hX0, hX1, z0, z1, z2, z3⟩
  have hBn : w.heap.size ≤ wn.heap.size := htn.size
  have hDn := hvn.doc
  have gln : lk < wn.heap.size := hvn.low.l
  have z4 := hvn.c0
  go_region_held3 (fun w' => w'.cell? ⟨X, 0, none⟩ = some (.int .i64 f) ∧ w'.cell? ⟨X, 1, none⟩ = some (.int .i64 k) ∧ w'.cell? ⟨X, 2, none⟩ = some (.int .i64 14) ∧ w'.cell? ⟨X, 3, none⟩ = some (.int .i64 (kwOf D k f)) ∧ w'.cell? ⟨lk, 0, none⟩ = some (.slice (some ⟨b, o, none⟩) n cap)) (first | (with_reducible exact ⟨z0, z1, z2, z3, z4⟩) | (refine ⟨?_, ?_, ?_, ?_, ?_⟩ <;> go_keep)) (((go_at_call 103; refine (span_arm (hDn.below (by (repeat' first | (with_reducible first | exact zb0 _ _ | assumption | refine zb1 ?_ ?_ _ | refine zb2 ?_ | refine zb3 ?_ _ | refine zb4 ?_ ?_ _ | refine zb5 (by assumption) ?_ ?_ | exact zb6 _) | omega | (simp only [zsz]; omega) | (simp <;> omega)))) He.out).mono ?_; rintro e w1 ⟨rfl, hb1⟩; obtain ⟨hc1, hf1, hl1⟩ := bcell hb1; (try simp only [zdz] at hc1 hf1 hl1); have hz1 := hb1.size; (try simp only [zsz] at hz1); (try have g0 : w.heap.size < w1.heap.size := by omega); (try have g1 : w.heap.size + 1 < w1.heap.size := by omega); (try have gl : lk < w1.heap.size := by omega)); (have gX : X < w1.heap.size := by omega)))
  go_upto_region 5 with fail
  have e0 : w1.cell? ⟨X, 0, none⟩ = some (.int .i64 f) := by go_simp
  have e1 : w1.cell? ⟨X, 1, none⟩ = some (.int .i64 k) := by go_simp
  have e2 : w1.cell? ⟨X, 2, none⟩ = some (.int .i64 14) := by go_simp
  have e3 : w1.cell? ⟨X, 3, none⟩ = some (.int .i64 (kwOf D k f)) := by go_simp
  have e4 : w1.cell? ⟨lk, 0, none⟩ = some (.slice (some ⟨b, o, none⟩) n cap) := by go_simp
  go_region_held3 (fun w' => w'.cell? ⟨X, 0, none⟩ = some (.int .i64 f) ∧ w'.cell? ⟨X, 1, none⟩ = some (.int .i64 k) ∧ w'.cell? ⟨X, 2, none⟩ = some (.int .i64 14) ∧ w'.cell? ⟨X, 3, none⟩ = some (.int .i64 (kwOf D k f)) ∧ w'.cell? ⟨lk, 0, none⟩ = some (.slice (some ⟨b, o, none⟩) n cap)) (first | (with_reducible exact ⟨e0, e1, e2, e3, e4⟩) | (refine ⟨?_, ?_, ?_, ?_, ?_⟩ <;> go_keep)) (((go_at_call 22; refine (len_arm (hDn.below (by (repeat' first | (with_reducible first | exact zb0 _ _ | assumption | refine zb1 ?_ ?_ _ | refine zb2 ?_ | refine zb3 ?_ _ | refine zb4 ?_ ?_ _ | refine zb5 (by assumption) ?_ ?_ | exact zb6 _) | omega | (simp only [zsz]; omega) | (simp <;> omega)))) He.out).mono ?_; rintro e w1 ⟨rfl, hb1⟩; obtain ⟨hc1, hf1, hl1⟩ := bcell hb1; (try simp only [zdz] at hc1 hf1 hl1); have hz1 := hb1.size; (try simp only [zsz] at hz1); (try have g0 : w.heap.size < w1.heap.size := by omega); (try have g1 : w.heap.size + 1 < w1.heap.size := by omega); (try have gl : lk < w1.heap.size := by omega)); (have gX : X < w1.heap.size := by omega)))
  go_upto_region 9 with ((go_at_call 45; refine (vtell_ok (hvn.keep hlow (by (repeat' first | (with_reducible first | exact zb0 _ _ | assumption | refine zb1 ?_ ?_ _ | refine zb2 ?_ | refine zb3 ?_ _ | refine zb4 ?_ ?_ _ | refine zb5 (by assumption) ?_ ?_ | exact zb6 _) | omega | (simp only [zsz]; omega) | (simp <;> omega))) hBn) (f - loadV D f k)).mono ?_; rintro e w1 ⟨rfl, hv1, ht1⟩; obtain ⟨hc1, hf1, hl1⟩ := tcell ht1 hlow; (try simp only [zdz] at hc1 hf1 hl1); have hz1 := ht1.size; (try simp only [zsz] at hz1); (try have g0 : w.heap.size < w1.heap.size := by omega); (try have g1 : w.heap.size + 1 < w1.heap.size := by omega); (try have g2 : w.heap.size + 2 < w1.heap.size := by omega); (try have g3 : w.heap.size + 3 < w1.heap.size := by omega); (try have g4 : w.heap.size + 4 < w1.heap.size := by omega); (try have hB1 : w.heap.size ≤ w1.heap.size := by omega); (try have gl : lk < w1.heap.size := hv1.low.l); (try have q0 := hv1.c0); (try have q1 := hv1.c1); (try have q4 := hv1.c4); (try have q5 := hv1.c5)); (have gX : X < w1.heap.size := by omega))
  refine wp_named (fun wx => VOk wx lk hm cm b o n cap D dp bud S O ∧ Tch w.heap.size [lk, hm, cm] w wx ∧ X < wx.heap.size ∧ w.heap.size ≤ w1.heap.size ∧ w1.heap.size < wx.heap.size ∧ wx.cell? ⟨X, 0, none⟩ = some (.int .i64 f) ∧ wx.cell? ⟨X, 1, none⟩ = some (.int .i64 k) ∧ wx.cell? ⟨X, 2, none⟩ = some (.int .i64 14) ∧ wx.cell? ⟨X, 3, none⟩ = some (.int .i64 (kwOf D k f)) ∧ wx.cell? ⟨w1.heap.size, 0, none⟩ = some (.int .i64 (-1)) ∧ wx.cell? ⟨w1.heap.size, 1, none⟩ = some (.int .i64 (f - loadV D f k)) ∧ wx.cell? ⟨w1.heap.size, 2, none⟩ = some (.int .i64 (kwOf D k f))) ⟨hv1.keep hlow (by (repeat' first | (with_reducible first | exact zb0 _ _ | assumption | refine zb1 ?_ ?_ _ | refine zb2 ?_ | refine zb3 ?_ _ | refine zb4 ?_ ?_ _ | refine zb5 (by assumption) ?_ ?_ | exact zb6 _) | omega | (simp only [zsz]; omega) | (simp <;> omega))) (by omega), by (repeat' first | (with_reducible first | exact Tch.refl _ _ _ | assumption | refine Tch.alloc ?_ ?_ _ | refine Tch.drew ?_ | refine Tch.drewN ?_ _ | refine Tch.setCell ?_ ?_ _ | refine Tch.setBlock ?_ (by simp) _ | refine tch_call (by assumption) ?_ ?_ | refine tch_below (by assumption) ?_ ?_ | exact zb6 _) | omega | (simp only [zsz, size_setBlock]; omega) | (simp; omega)), by (first | omega | (simp; omega) | simp), by omega, by (first | omega | (simp; omega) | simp), by go_simp, by go_simp, by go_simp, by go_simp, by go_simp, by go_simp, by go_simp⟩ ?_
  clear e0 e1 e2 e3 e4 z0 z1 z2 z3 z4 hX1 hvn htn hBn gln hDn
  generalize w1.heap.size = G
  rintro wx ⟨hvx, htx, hXx, hG0, hGx, z0, z1, z2, z3, y0, y1, y2⟩
  have hBx : w.heap.size ≤ wx.heap.size := htx.size
  have glx : lk < wx.heap.size := hvx.low.l
  have q4 := hvx.c4
  have hvd : VOk wx.drew lk hm cm b o n cap D dp bud S O := hvx.keep hlow ((Below.refl _ _).drew) hBx
  have hlk : (Instr.lookup 61 (.map (some hm)) (.agg #[.int .i64 (-1), .int .i64 (f - loadV D f k), .int .i64 (kwOf D k f)]) true).run Try.prog wx.drew = .ok (.tuple #[.int .i64 hh, .bool true]) wx.drew := by
    have hx := hvd.lookH (t := -1) (a := f - loadV D f k) (k := kwOf D k f) (wf64 (by omega) (by omega)) (wf64 (by omega) (by omega)) (wf64 (by omega) (by omega)) HO.out
    rw [show vknown _ _ = some hh from HN.out] at hx
    exact hx
  go_region
  all_goals go_wp2
  all_goals go_returns
  all_goals exact ⟨rfl, hvx.keep hlow (by (repeat' first | (with_reducible first | exact zb0 _ _ | assumption | refine zb1 ?_ ?_ _ | refine zb2 ?_ | refine zb3 ?_ _ | refine zb4 ?_ ?_ _ | refine zb5 (by assumption) ?_ ?_ | exact zb6 _) | omega | (simp only [zsz]; omega) | (simp <;> omega))) hBx, Tch.touch (by (repeat' first | (with_reducible first | exact Tch.refl _ _ _ | assumption | refine Tch.alloc ?_ ?_ _ | refine Tch.drew ?_ | refine Tch.drewN ?_ _ | refine Tch.setCell ?_ ?_ _ | refine Tch.setBlock ?_ (by simp) _ | refine tch_call (by assumption) ?_ ?_ | refine tch_below (by assumption) ?_ ?_ | exact zb6 _) | omega | (simp only [zsz, size_setBlock]; omega) | (simp; omega)))⟩
end
end Go.Proofs.Ytmpflnlajakibaa
