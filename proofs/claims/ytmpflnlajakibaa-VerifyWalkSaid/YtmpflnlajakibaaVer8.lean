/- The walk of verify.looker's vector: the loop. -/
import Derived.Test.YtmpflnlajakibaaVer7
import Derived.Deep.RegionHeld3
namespace Go.Proofs.Ytmpflnlajakibaa
set_option linter.unusedVariables false
set_option linter.unusedSimpArgs false
set_option linter.unusedSectionVars false
open Go.RowKit
section
variable {w : World} {lk hm cm b o n cap : Nat} {D : List UInt8} {dp bud : Int} {S S1 : VS} {O : List Lead}
/-- vector's result out of that of its loop. -/
def upOne (r : VR Int) : VR Int := match r with
  | .error x => .error x
  | .ok (S, h) => .ok (S, h + 1)
def HypKeys (lk hm cm b o n cap : Nat) (D : List UInt8) (dp bud : Int) (S S1 : VS) (O : List Lead) (p q t k f cnt : Int) : Prop :=
  (t ≠ 9 → S1 = S) ∧ (t = 9 → ∀ W, VOk W lk hm cm b o n cap D dp bud S O → Calls Try.prog 113 #[.pointer (some ⟨lk, 0, none⟩), .agg #[.int .i64 p, .int .i64 q, .int .i64 9, .int .i64 k], .int .i64 f, .int .i64 cnt] W
      (KPost W lk hm cm b o n cap D dp bud O (.ok (S1, ()))))
def HypLook (look : LookF) (lk hm cm b o n cap : Nat) (D : List UInt8) (dp bud : Int) (O : List Lead) (f deep : Int) : Prop :=
  ∀ W S2 p' q' t' k', VOk W lk hm cm b o n cap D dp bud S2 O → mayE n p' q' t' k' = 0 → Calls Try.prog 29 #[.pointer (some ⟨lk, 0, none⟩), .agg #[.int .i64 p', .int .i64 q', .int .i64 t', .int .i64 k'], .int .i64 f, .int .i64 deep] W
      (LPost W lk hm cm b o n cap D dp bud O (look p' q' t' k' f deep S2))
set_option maxHeartbeats 8000000 in
set_option maxRecDepth 100000 in
theorem vvec_n (look : LookF) (hlg : LGood look) (h : VOk w lk hm cm b o n cap D dp bud S O) (p q t k a deep : Int) (he : lfindE D p q t k = 0) (ha0 : 0 ≤ a) (ha1 : a ≤ 1073741824) (hd0 : 0 ≤ deep) (hd1 : deep ≤ 2147483648)
    (e9 : (t == 9) = false) (HL : HypLook look lk hm cm b o n cap D dp bud O (lFrom D p q t k) (deep + 1))
    (rl : VR Int) (hrl : vecLoop look D p q t k a deep (lCnt D p q t k).toNat 0 0 S = rl) :
    Calls Try.prog 84 #[.pointer (some ⟨lk, 0, none⟩), .agg #[.int .i64 p, .int .i64 q, .int .i64 t, .int .i64 k], .int .i64 a, .int .i64 deep] w (LPost w lk hm cm b o n cap D dp bud O (upOne rl)) := by
  have hlow := h.low
  have hD := h.doc
  have hbw := hlow.b
  have hlw := hlow.l
  have c0 := h.c0
  have He := Lib.hid he
  have HR := Lib.hid hrl
  clear he hrl
  go_enter Try.func84, Try.ntmps84
  go_wp2
  have d0 : (w.alloc (.cells #[.int .i64 p, .int .i64 q, .int .i64 t, .int .i64 k] 39)).cell? ⟨w.heap.size, 0, none⟩ = some (.int .i64 p) := by go_simp
  have d1 : (w.alloc (.cells #[.int .i64 p, .int .i64 q, .int .i64 t, .int .i64 k] 39)).cell? ⟨w.heap.size, 1, none⟩ = some (.int .i64 q) := by go_simp
  have d2 : (w.alloc (.cells #[.int .i64 p, .int .i64 q, .int .i64 t, .int .i64 k] 39)).cell? ⟨w.heap.size, 2, none⟩ = some (.int .i64 t) := by go_simp
  have d3 : (w.alloc (.cells #[.int .i64 p, .int .i64 q, .int .i64 t, .int .i64 k] 39)).cell? ⟨w.heap.size, 3, none⟩ = some (.int .i64 k) := by go_simp
  have d4 : (w.alloc (.cells #[.int .i64 p, .int .i64 q, .int .i64 t, .int .i64 k] 39)).cell? ⟨lk, 0, none⟩ = some (.slice (some ⟨b, o, none⟩) n cap) := by go_simp
  go_region_held3 (fun w' => w'.cell? ⟨w.heap.size, 0, none⟩ = some (.int .i64 p) ∧ w'.cell? ⟨w.heap.size, 1, none⟩ = some (.int .i64 q) ∧ w'.cell? ⟨w.heap.size, 2, none⟩ = some (.int .i64 t) ∧ w'.cell? ⟨w.heap.size, 3, none⟩ = some (.int .i64 k) ∧ w'.cell? ⟨lk, 0, none⟩ = some (.slice (some ⟨b, o, none⟩) n cap)) (first | (with_reducible exact ⟨d0, d1, d2, d3, d4⟩) | (refine ⟨?_, ?_, ?_, ?_, ?_⟩ <;> go_keep)) ((go_at_call 103; refine (span_arm (hD.below (by (repeat' first | (with_reducible first | exact zb0 _ _ | assumption | refine zb1 ?_ ?_ _ | refine zb2 ?_ | refine zb3 ?_ _ | refine zb4 ?_ ?_ _ | refine zb5 (by assumption) ?_ ?_ | exact zb6 _) | omega | (simp only [zsz]; omega) | (simp <;> omega)))) He.out).mono ?_; rintro e w1 ⟨rfl, hb1⟩; obtain ⟨hc1, hf1, hl1⟩ := bcell hb1; (try simp only [zdz] at hc1 hf1 hl1); have hz1 := hb1.size; (try simp only [zsz] at hz1); (try have g0 : w.heap.size < w1.heap.size := by omega); (try have g1 : w.heap.size + 1 < w1.heap.size := by omega); (try have g2 : w.heap.size + 2 < w1.heap.size := by omega); (try have gb : b < w1.heap.size := by omega); (try have g3 : w.heap.size + 3 < w1.heap.size := by omega); (try have hbb : Below w.heap.size w w1 := by (repeat' first | (with_reducible first | exact zb0 _ _ | assumption | refine zb1 ?_ ?_ _ | refine zb2 ?_ | refine zb3 ?_ _ | refine zb4 ?_ ?_ _ | refine zb5 (by assumption) ?_ ?_ | exact zb6 _) | omega | (simp only [zsz]; omega) | (simp <;> omega))); (try obtain ⟨hco, hfo, _⟩ := bcell hbb); (try have hb1 := hb1)))
  go_wp2_with (go_at_call 45; refine (vtell_ok (h.keep hlow (by (repeat' first | (with_reducible first | exact zb0 _ _ | assumption | refine zb1 ?_ ?_ _ | refine zb2 ?_ | refine zb3 ?_ _ | refine zb4 ?_ ?_ _ | refine zb5 (by assumption) ?_ ?_ | exact zb6 _) | omega | (simp only [zsz]; omega) | (simp <;> omega))) (Nat.le_refl _)) a).mono ?_; rintro e w1 ⟨rfl, hv1, ht1⟩; obtain ⟨hc1, hf1, hl1⟩ := tcell ht1 hlow; (try simp only [zdz] at hc1 hf1 hl1); have hz1 := ht1.size; (try simp only [zsz] at hz1); (try have g0 : w.heap.size < w1.heap.size := by omega); (try have g1 : w.heap.size + 1 < w1.heap.size := by omega); (try have g2 : w.heap.size + 2 < w1.heap.size := by omega); (try have g3 : w.heap.size + 3 < w1.heap.size := by omega); (try have g4 : w.heap.size + 4 < w1.heap.size := by omega); (try have hB1 : w.heap.size ≤ w1.heap.size := by omega); (try have gl : lk < w1.heap.size := hv1.low.l); (try have q0 := hv1.c0); (try have q1 := hv1.c1); (try have q4 := hv1.c4); (try have q5 := hv1.c5))
  have hD1 := hv1.doc
  have e0 : w1.cell? ⟨w.heap.size, 0, none⟩ = some (.int .i64 p) := by go_simp
  have e1 : w1.cell? ⟨w.heap.size, 1, none⟩ = some (.int .i64 q) := by go_simp
  have e2 : w1.cell? ⟨w.heap.size, 2, none⟩ = some (.int .i64 t) := by go_simp
  have e3 : w1.cell? ⟨w.heap.size, 3, none⟩ = some (.int .i64 k) := by go_simp
  have e4 : w1.cell? ⟨lk, 0, none⟩ = some (.slice (some ⟨b, o, none⟩) n cap) := q0
  go_region_held3 (fun w' => w'.cell? ⟨w.heap.size, 0, none⟩ = some (.int .i64 p) ∧ w'.cell? ⟨w.heap.size, 1, none⟩ = some (.int .i64 q) ∧ w'.cell? ⟨w.heap.size, 2, none⟩ = some (.int .i64 t) ∧ w'.cell? ⟨w.heap.size, 3, none⟩ = some (.int .i64 k) ∧ w'.cell? ⟨lk, 0, none⟩ = some (.slice (some ⟨b, o, none⟩) n cap)) (first | (with_reducible exact ⟨e0, e1, e2, e3, e4⟩) | (refine ⟨?_, ?_, ?_, ?_, ?_⟩ <;> go_keep)) ((go_at_call 22; refine (len_arm (hD1.below (by (repeat' first | (with_reducible first | exact zb0 _ _ | assumption | refine zb1 ?_ ?_ _ | refine zb2 ?_ | refine zb3 ?_ _ | refine zb4 ?_ ?_ _ | refine zb5 (by assumption) ?_ ?_ | exact zb6 _) | omega | (simp only [zsz]; omega) | (simp <;> omega)))) He.out).mono ?_; rintro e w1 ⟨rfl, hb1⟩; obtain ⟨hc1, hf1, hl1⟩ := bcell hb1; (try simp only [zdz] at hc1 hf1 hl1); have hz1 := hb1.size; (try simp only [zsz] at hz1); (try have g0 : w.heap.size < w1.heap.size := by omega); (try have g1 : w.heap.size + 1 < w1.heap.size := by omega); (try have g2 : w.heap.size + 2 < w1.heap.size := by omega); (try have gb : b < w1.heap.size := by omega); (try have g3 : w.heap.size + 3 < w1.heap.size := by omega); (try have hbb : Below w.heap.size w w1 := by (repeat' first | (with_reducible first | exact zb0 _ _ | assumption | refine zb1 ?_ ?_ _ | refine zb2 ?_ | refine zb3 ?_ _ | refine zb4 ?_ ?_ _ | refine zb5 (by assumption) ?_ ?_ | exact zb6 _) | omega | (simp only [zsz]; omega) | (simp <;> omega))); (try obtain ⟨hco, hfo, _⟩ := bcell hbb); (try have hb1 := hb1)))
  obtain ⟨hn1, hn2⟩ := hD.bd
  obtain ⟨g0, -, g1, -, g2, g3, g4, g5, g6, -, -⟩ := lfindE_zero He.out
  obtain ⟨-, -, -, -, -, -, k1, k8, -⟩ := mayE_zero (targetE_zero g0).1
  have hF := lFrom_nonneg D p q t k
  rw [hD.len] at g4
  have hfr : lFrom D p q t k ≤ 1073741824 := by
    have hv0 := lfindE_zero He.out
    have ha := aheadOf_bd t
    have y2 : 0 ≤ lCnt D p q t k * (k + tagsOf t) := Int.mul_nonneg g3 (by have := tagsOf_bd t; omega)
    have y3 : 0 ≤ aheadOf t * k := Int.mul_nonneg ha.1 (by omega)
    rw [hD.len] at hv0
    omega
  clear g0 g5 g6 g1
  go_wp2
  go_loopw [16, 59] (fun x i wr => ∃ (j : Nat) (y : Int) (S2 : VS), (j : Int) ≤ lCnt D p q t k ∧ i = .int .i64 j ∧ x = .int .i64 y ∧ 0 ≤ y ∧ y ≤ lFrom D p q t k + 29 ∧ VOk wr lk hm cm b o n cap D dp bud S2 O ∧ Tch w.heap.size [lk, hm, cm] w wr ∧ w.heap.size < wr.heap.size ∧
      wr.cell? ⟨w.heap.size, 0, none⟩ = some (.int .i64 p) ∧ wr.cell? ⟨w.heap.size, 1, none⟩ = some (.int .i64 q) ∧ wr.cell? ⟨w.heap.size, 2, none⟩ = some (.int .i64 t) ∧ wr.cell? ⟨w.heap.size, 3, none⟩ = some (.int .i64 k) ∧
      vecLoop look D p q t k a deep ((lCnt D p q t k).toNat - j) j y S2 = rl) (fun _ i _ => (lCnt D p q t k).toNat - (intOf i).toNat)
  case atStart => exact ⟨0, 0, S, by omega, rfl, rfl, by omega, by omega, hv1.keep hlow (by (repeat' first | (with_reducible first | exact zb0 _ _ | assumption | refine zb1 ?_ ?_ _ | refine zb2 ?_ | refine zb3 ?_ _ | refine zb4 ?_ ?_ _ | refine zb5 (by assumption) ?_ ?_ | exact zb6 _) | omega | (simp only [zsz]; omega) | (simp <;> omega))) (by omega), by (repeat' first | (with_reducible first | exact Tch.refl _ _ _ | assumption | refine Tch.alloc ?_ ?_ _ | refine Tch.drew ?_ | refine Tch.drewN ?_ _ | refine Tch.setCell ?_ ?_ _ | refine Tch.setBlock ?_ (by simp) _ | refine tch_call (by assumption) ?_ ?_ | refine tch_below (by assumption) ?_ ?_ | exact zb6 _) | omega | (simp only [zsz, size_setBlock]; omega) | (simp; omega)), by omega, by go_simp, by go_simp, by go_simp, by go_simp, HR.out⟩
  case round =>
    rename_i wr
    obtain ⟨j, y, S2, hj, rfl, rfl, hy0, hy1, hv, htc, hz, b0, b1, b2, b3, hl⟩ := hrel
    have P0 : 0 ≤ lCnt D p q t k * k := Int.mul_nonneg g3 (by omega)
    have P1 : lCnt D p q t k * k ≤ 1073741824 * 8 := Int.mul_le_mul (by omega) k8 (by omega) (by omega)
    have b4 := hv.c0
    have hzr : w.heap.size ≤ wr.heap.size := by omega
    have gr : lk < wr.heap.size := hv.low.l
    have gbr : b < wr.heap.size := hv.low.b
    have hDr := hv.doc
    by_cases hlt : (j : Int) < lCnt D p q t k
    · obtain ⟨r', hr'⟩ : ∃ r', (lCnt D p q t k).toNat - j = r' + 1 := ⟨(lCnt D p q t k).toNat - j - 1, by omega⟩
      have hr2 : (lCnt D p q t k).toNat - (j + 1) = r' := by omega
      rw [hr', vecLoop] at hl
      by_cases hE : latE D p q t k j = 0
      · rw [if_neg (by simp [hE])] at hl
        have hmay : mayE n (latP D p q t k j) (latQ D p q t k j) (latT D p q t k j) (latW D p q t k j) = 0 := by
          have := (lat_may hE).1; rw [hD.len] at this; exact this
        have HE := Lib.hid hE
        cases hlk : look (latP D p q t k j) (latQ D p q t k j) (latT D p q t k j) (latW D p q t k j) (lFrom D p q t k) (deep + 1) S2 with
        | ok y2 =>
          obtain ⟨S3, hh⟩ := y2
          rw [hlk] at hl
          obtain ⟨-, l1, l2⟩ := hlg _ _ _ _ _ _ _ _ _ hF (latW_le k8) hv.kn hlk
          have HO := Lib.hid (show ∀ W, VOk W lk hm cm b o n cap D dp bud S2 O → Calls Try.prog 29 #[.pointer (some ⟨lk, 0, none⟩), .agg #[.int .i64 (latP D p q t k j), .int .i64 (latQ D p q t k j), .int .i64 (latT D p q t k j), .int .i64 (latW D p q t k j)], .int .i64 (lFrom D p q t k), .int .i64 (deep + 1)] W
              (fun en w' => en = .returned (.tuple #[.int .i64 hh, .bool true]) ∧ VOk w' lk hm cm b o n cap D dp bud S3 O ∧ Touch [lk, hm, cm] W w') from fun W hW => by
            have hx := HL W S2 _ _ _ _ hW hmay
            rw [hlk] at hx; exact hx)
          have Hl := Lib.hid hl
          clear hl hlk hE hr' hmay HL
          go_wp2
          have n0 := World.new_ne _ _ b0
          have n4 := World.new_ne _ _ b4
          go_region_held3 (fun w' => w'.cell? ⟨w.heap.size, 0, none⟩ = some (.int .i64 p) ∧ w'.cell? ⟨w.heap.size, 1, none⟩ = some (.int .i64 q) ∧ w'.cell? ⟨w.heap.size, 2, none⟩ = some (.int .i64 t) ∧ w'.cell? ⟨w.heap.size, 3, none⟩ = some (.int .i64 k) ∧ w'.cell? ⟨lk, 0, none⟩ = some (.slice (some ⟨b, o, none⟩) n cap)) (first | (with_reducible exact ⟨b0, b1, b2, b3, b4⟩) | (with_reducible exact ⟨k0, k1, k2, k3, k4⟩) | (refine ⟨?_, ?_, ?_, ?_, ?_⟩ <;> go_keep)) (((go_at_call 23; refine (lat_arm (hDr.below (by (repeat' first | (with_reducible first | exact zb0 _ _ | assumption | refine zb1 ?_ ?_ _ | refine zb2 ?_ | refine zb3 ?_ _ | refine zb4 ?_ ?_ _ | refine zb5 (by assumption) ?_ ?_ | exact zb6 _) | omega | (simp only [zsz]; omega) | (simp <;> omega)))) HE.out).mono ?_; rintro e w1 ⟨rfl, hb1⟩; obtain ⟨hc1, hf1, hl1⟩ := bcell hb1; (try simp only [zdz] at hc1 hf1 hl1); have hz1 := hb1.size; (try simp only [zsz] at hz1); (try have g0 : w.heap.size < w1.heap.size := by omega); (try have g1 : w.heap.size + 1 < w1.heap.size := by omega); (try have g2 : w.heap.size + 2 < w1.heap.size := by omega); (try have gb : b < w1.heap.size := by omega); (try have g3 : w.heap.size + 3 < w1.heap.size := by omega); (try have hbb : Below w.heap.size w w1 := by (repeat' first | (with_reducible first | exact zb0 _ _ | assumption | refine zb1 ?_ ?_ _ | refine zb2 ?_ | refine zb3 ?_ _ | refine zb4 ?_ ?_ _ | refine zb5 (by assumption) ?_ ?_ | exact zb6 _) | omega | (simp only [zsz]; omega) | (simp <;> omega))); (try obtain ⟨hco, hfo, _⟩ := bcell hbb); (try have hb1 := hb1)); (have hB0 : w.heap.size ≤ w1.heap.size := by omega); (try have hw3 : wr.heap.size < w1.heap.size := by omega); (have k0 : w1.cell? ⟨w.heap.size, 0, none⟩ = some (.int .i64 p) := by go_simp); (have k1 : w1.cell? ⟨w.heap.size, 1, none⟩ = some (.int .i64 q) := by go_simp); (have k2 : w1.cell? ⟨w.heap.size, 2, none⟩ = some (.int .i64 t) := by go_simp); (have k3 : w1.cell? ⟨w.heap.size, 3, none⟩ = some (.int .i64 k) := by go_simp); (have k4 : w1.cell? ⟨lk, 0, none⟩ = some (.slice (some ⟨b, o, none⟩) n cap) := by go_simp); have m0 := World.new_ne _ _ k0; have m4 := World.new_ne _ _ k4))
          all_goals go_wp2_with (first | (go_at_call 45; refine (vtell_ok (hv.keep hlow (by (repeat' first | (with_reducible first | exact zb0 _ _ | assumption | refine zb1 ?_ ?_ _ | refine zb2 ?_ | refine zb3 ?_ _ | refine zb4 ?_ ?_ _ | refine zb5 (by assumption) ?_ ?_ | exact zb6 _) | omega | (simp only [zsz]; omega) | (simp <;> omega))) (by omega)) (a + lCnt D p q t k * k + j)).mono ?_; rintro e w1 ⟨rfl, hv1, ht1⟩; obtain ⟨hc1, hf1, hl1⟩ := tcell ht1 hlow; (try simp only [zdz] at hc1 hf1 hl1); have hz1 := ht1.size; (try simp only [zsz] at hz1); (try have g0 : w.heap.size < w1.heap.size := by omega); (try have g1 : w.heap.size + 1 < w1.heap.size := by omega); (try have g2 : w.heap.size + 2 < w1.heap.size := by omega); (try have g3 : w.heap.size + 3 < w1.heap.size := by omega); (try have g4 : w.heap.size + 4 < w1.heap.size := by omega); (try have hB1 : w.heap.size ≤ w1.heap.size := by omega); (try have gl : lk < w1.heap.size := hv1.low.l); (try have q0 := hv1.c0); (try have q1 := hv1.c1); (try have q4 := hv1.c4); (try have q5 := hv1.c5)) | (go_at_call 29; refine (HO.out _ (hv1.keep hlow (by (repeat' first | (with_reducible first | exact zb0 _ _ | assumption | refine zb1 ?_ ?_ _ | refine zb2 ?_ | refine zb3 ?_ _ | refine zb4 ?_ ?_ _ | refine zb5 (by assumption) ?_ ?_ | exact zb6 _) | omega | (simp only [zsz]; omega) | (simp <;> omega))) (by omega))).mono ?_; rintro e w1 ⟨rfl, hv1, ht1⟩; obtain ⟨hc1, hf1, hl1⟩ := tcell ht1 hlow; (try simp only [zdz] at hc1 hf1 hl1); have hz1 := ht1.size; (try simp only [zsz] at hz1); (try have g0 : w.heap.size < w1.heap.size := by omega); (try have g1 : w.heap.size + 1 < w1.heap.size := by omega); (try have g2 : w.heap.size + 2 < w1.heap.size := by omega); (try have g3 : w.heap.size + 3 < w1.heap.size := by omega); (try have g4 : w.heap.size + 4 < w1.heap.size := by omega); (try have hB1 : w.heap.size ≤ w1.heap.size := by omega); (try have gl : lk < w1.heap.size := hv1.low.l); (try have q0 := hv1.c0); (try have q1 := hv1.c1); (try have q4 := hv1.c4); (try have q5 := hv1.c5)))
          all_goals (go_roundw; (case rel => exact ⟨j + 1, max y hh, S3, by omega, by go_num, rfl, by omega, by omega, hv1.keep hlow (by (repeat' first | (with_reducible first | exact zb0 _ _ | assumption | refine zb1 ?_ ?_ _ | refine zb2 ?_ | refine zb3 ?_ _ | refine zb4 ?_ ?_ _ | refine zb5 (by assumption) ?_ ?_ | exact zb6 _) | omega | (simp only [zsz]; omega) | (simp <;> omega))) (by omega), by (repeat' first | (with_reducible first | exact Tch.refl _ _ _ | assumption | refine Tch.alloc ?_ ?_ _ | refine Tch.drew ?_ | refine Tch.drewN ?_ _ | refine Tch.setCell ?_ ?_ _ | refine Tch.setBlock ?_ (by simp) _ | refine tch_call (by assumption) ?_ ?_ | refine tch_below (by assumption) ?_ ?_ | exact zb6 _) | omega | (simp only [zsz, size_setBlock]; omega) | (simp; omega)), by omega, by go_simp, by go_simp, by go_simp, by go_simp, by rw [hr2]; exact Hl.out⟩); (case measure => simp only [intOf]; omega))
        | error y2 =>
          obtain ⟨s', a', e'⟩ := y2
          rw [hlk] at hl
          have HO := Lib.hid (show ∀ W, VOk W lk hm cm b o n cap D dp bud S2 O → Calls Try.prog 29 #[.pointer (some ⟨lk, 0, none⟩), .agg #[.int .i64 (latP D p q t k j), .int .i64 (latQ D p q t k j), .int .i64 (latT D p q t k j), .int .i64 (latW D p q t k j)], .int .i64 (lFrom D p q t k), .int .i64 (deep + 1)] W
              (fun en w' => (∃ x, en = .returned (.tuple #[x, .bool false])) ∧ VNo w' lk hm cm b o n cap D dp s' a' e' ∧ Touch [lk, hm, cm] W w') from fun W hW => by
            have hx := HL W S2 _ _ _ _ hW hmay
            rw [hlk] at hx; exact hx)
          obtain rfl : rl = .error (s', a', e') := hl.symm
          clear hl hlk hE hr' hmay HL
          go_wp2
          have n0 := World.new_ne _ _ b0
          have n4 := World.new_ne _ _ b4
          go_region_held3 (fun w' => w'.cell? ⟨w.heap.size, 0, none⟩ = some (.int .i64 p) ∧ w'.cell? ⟨w.heap.size, 1, none⟩ = some (.int .i64 q) ∧ w'.cell? ⟨w.heap.size, 2, none⟩ = some (.int .i64 t) ∧ w'.cell? ⟨w.heap.size, 3, none⟩ = some (.int .i64 k) ∧ w'.cell? ⟨lk, 0, none⟩ = some (.slice (some ⟨b, o, none⟩) n cap)) (first | (with_reducible exact ⟨b0, b1, b2, b3, b4⟩) | (with_reducible exact ⟨k0, k1, k2, k3, k4⟩) | (refine ⟨?_, ?_, ?_, ?_, ?_⟩ <;> go_keep)) (((go_at_call 23; refine (lat_arm (hDr.below (by (repeat' first | (with_reducible first | exact zb0 _ _ | assumption | refine zb1 ?_ ?_ _ | refine zb2 ?_ | refine zb3 ?_ _ | refine zb4 ?_ ?_ _ | refine zb5 (by assumption) ?_ ?_ | exact zb6 _) | omega | (simp only [zsz]; omega) | (simp <;> omega)))) HE.out).mono ?_; rintro e w1 ⟨rfl, hb1⟩; obtain ⟨hc1, hf1, hl1⟩ := bcell hb1; (try simp only [zdz] at hc1 hf1 hl1); have hz1 := hb1.size; (try simp only [zsz] at hz1); (try have g0 : w.heap.size < w1.heap.size := by omega); (try have g1 : w.heap.size + 1 < w1.heap.size := by omega); (try have g2 : w.heap.size + 2 < w1.heap.size := by omega); (try have gb : b < w1.heap.size := by omega); (try have g3 : w.heap.size + 3 < w1.heap.size := by omega); (try have hbb : Below w.heap.size w w1 := by (repeat' first | (with_reducible first | exact zb0 _ _ | assumption | refine zb1 ?_ ?_ _ | refine zb2 ?_ | refine zb3 ?_ _ | refine zb4 ?_ ?_ _ | refine zb5 (by assumption) ?_ ?_ | exact zb6 _) | omega | (simp only [zsz]; omega) | (simp <;> omega))); (try obtain ⟨hco, hfo, _⟩ := bcell hbb); (try have hb1 := hb1)); (have hB0 : w.heap.size ≤ w1.heap.size := by omega); (try have hw3 : wr.heap.size < w1.heap.size := by omega); (have k0 : w1.cell? ⟨w.heap.size, 0, none⟩ = some (.int .i64 p) := by go_simp); (have k1 : w1.cell? ⟨w.heap.size, 1, none⟩ = some (.int .i64 q) := by go_simp); (have k2 : w1.cell? ⟨w.heap.size, 2, none⟩ = some (.int .i64 t) := by go_simp); (have k3 : w1.cell? ⟨w.heap.size, 3, none⟩ = some (.int .i64 k) := by go_simp); (have k4 : w1.cell? ⟨lk, 0, none⟩ = some (.slice (some ⟨b, o, none⟩) n cap) := by go_simp); have m0 := World.new_ne _ _ k0; have m4 := World.new_ne _ _ k4))
          all_goals go_wp2_with (first | (go_at_call 45; refine (vtell_ok (hv.keep hlow (by (repeat' first | (with_reducible first | exact zb0 _ _ | assumption | refine zb1 ?_ ?_ _ | refine zb2 ?_ | refine zb3 ?_ _ | refine zb4 ?_ ?_ _ | refine zb5 (by assumption) ?_ ?_ | exact zb6 _) | omega | (simp only [zsz]; omega) | (simp <;> omega))) (by omega)) (a + lCnt D p q t k * k + j)).mono ?_; rintro e w1 ⟨rfl, hv1, ht1⟩; obtain ⟨hc1, hf1, hl1⟩ := tcell ht1 hlow; (try simp only [zdz] at hc1 hf1 hl1); have hz1 := ht1.size; (try simp only [zsz] at hz1); (try have g0 : w.heap.size < w1.heap.size := by omega); (try have g1 : w.heap.size + 1 < w1.heap.size := by omega); (try have g2 : w.heap.size + 2 < w1.heap.size := by omega); (try have g3 : w.heap.size + 3 < w1.heap.size := by omega); (try have g4 : w.heap.size + 4 < w1.heap.size := by omega); (try have hB1 : w.heap.size ≤ w1.heap.size := by omega); (try have gl : lk < w1.heap.size := hv1.low.l); (try have q0 := hv1.c0); (try have q1 := hv1.c1); (try have q4 := hv1.c4); (try have q5 := hv1.c5)) | (go_at_call 29; refine (HO.out _ (hv1.keep hlow (by (repeat' first | (with_reducible first | exact zb0 _ _ | assumption | refine zb1 ?_ ?_ _ | refine zb2 ?_ | refine zb3 ?_ _ | refine zb4 ?_ ?_ _ | refine zb5 (by assumption) ?_ ?_ | exact zb6 _) | omega | (simp only [zsz]; omega) | (simp <;> omega))) (by omega))).mono ?_; rintro e w1 ⟨⟨x1, rfl⟩, hv1, ht1⟩; obtain ⟨hc1, hf1, hl1⟩ := tcell ht1 hlow; (try simp only [zdz] at hc1 hf1 hl1); have hz1 := ht1.size; (try simp only [zsz] at hz1); (try have g0 : w.heap.size < w1.heap.size := by omega); (try have g1 : w.heap.size + 1 < w1.heap.size := by omega); (try have g2 : w.heap.size + 2 < w1.heap.size := by omega); (try have g3 : w.heap.size + 3 < w1.heap.size := by omega); (try have g4 : w.heap.size + 4 < w1.heap.size := by omega); (try have hB1 : w.heap.size ≤ w1.heap.size := by omega); (try have gl : lk < w1.heap.size := hv1.low.l); (try have q0 := hv1.c0); (try have q1 := hv1.c1); (try have q4 := hv1.c4); (try have q5 := hv1.c5)))
          all_goals go_returns
          all_goals exact ⟨⟨_, rfl⟩, hv1, Tch.touch (by (repeat' first | (with_reducible first | exact Tch.refl _ _ _ | assumption | refine Tch.alloc ?_ ?_ _ | refine Tch.drew ?_ | refine Tch.drewN ?_ _ | refine Tch.setCell ?_ ?_ _ | refine Tch.setBlock ?_ (by simp) _ | refine tch_call (by assumption) ?_ ?_ | refine tch_below (by assumption) ?_ ?_ | exact zb6 _) | omega | (simp only [zsz, size_setBlock]; omega) | (simp; omega)))⟩
      · rw [if_pos hE] at hl
        obtain rfl : rl = .error (S2.s, a + lCnt D p q t k * k + j, latE D p q t k j) := hl.symm
        clear hl hr' HL
        go_wp2
        have n0 := World.new_ne _ _ b0
        have n4 := World.new_ne _ _ b4
        go_region_held3 (fun w' => w'.cell? ⟨w.heap.size, 0, none⟩ = some (.int .i64 p) ∧ w'.cell? ⟨w.heap.size, 1, none⟩ = some (.int .i64 q) ∧ w'.cell? ⟨w.heap.size, 2, none⟩ = some (.int .i64 t) ∧ w'.cell? ⟨w.heap.size, 3, none⟩ = some (.int .i64 k) ∧ w'.cell? ⟨lk, 0, none⟩ = some (.slice (some ⟨b, o, none⟩) n cap)) (first | (with_reducible exact ⟨b0, b1, b2, b3, b4⟩) | (with_reducible exact ⟨k0, k1, k2, k3, k4⟩) | (refine ⟨?_, ?_, ?_, ?_, ?_⟩ <;> go_keep)) (((go_at_call 23; refine (lat_arm (hDr.below (by (repeat' first | (with_reducible first | exact zb0 _ _ | assumption | refine zb1 ?_ ?_ _ | refine zb2 ?_ | refine zb3 ?_ _ | refine zb4 ?_ ?_ _ | refine zb5 (by assumption) ?_ ?_ | exact zb6 _) | omega | (simp only [zsz]; omega) | (simp <;> omega)))) rfl).mono ?_; rintro e w1 ⟨rfl, hb1⟩; obtain ⟨hc1, hf1, hl1⟩ := bcell hb1; (try simp only [zdz] at hc1 hf1 hl1); have hz1 := hb1.size; (try simp only [zsz] at hz1); (try have g0 : w.heap.size < w1.heap.size := by omega); (try have g1 : w.heap.size + 1 < w1.heap.size := by omega); (try have g2 : w.heap.size + 2 < w1.heap.size := by omega); (try have gb : b < w1.heap.size := by omega); (try have g3 : w.heap.size + 3 < w1.heap.size := by omega); (try have hbb : Below w.heap.size w w1 := by (repeat' first | (with_reducible first | exact zb0 _ _ | assumption | refine zb1 ?_ ?_ _ | refine zb2 ?_ | refine zb3 ?_ _ | refine zb4 ?_ ?_ _ | refine zb5 (by assumption) ?_ ?_ | exact zb6 _) | omega | (simp only [zsz]; omega) | (simp <;> omega))); (try obtain ⟨hco, hfo, _⟩ := bcell hbb); (try have hb1 := hb1)); (have hB0 : w.heap.size ≤ w1.heap.size := by omega); (try have hw3 : wr.heap.size < w1.heap.size := by omega); (have k0 : w1.cell? ⟨w.heap.size, 0, none⟩ = some (.int .i64 p) := by go_simp); (have k1 : w1.cell? ⟨w.heap.size, 1, none⟩ = some (.int .i64 q) := by go_simp); (have k2 : w1.cell? ⟨w.heap.size, 2, none⟩ = some (.int .i64 t) := by go_simp); (have k3 : w1.cell? ⟨w.heap.size, 3, none⟩ = some (.int .i64 k) := by go_simp); (have k4 : w1.cell? ⟨lk, 0, none⟩ = some (.slice (some ⟨b, o, none⟩) n cap) := by go_simp); have m0 := World.new_ne _ _ k0; have m4 := World.new_ne _ _ k4))
        all_goals go_wp2_with (go_at_call 45; refine (vtell_no (hv.keep hlow (by (repeat' first | (with_reducible first | exact zb0 _ _ | assumption | refine zb1 ?_ ?_ _ | refine zb2 ?_ | refine zb3 ?_ _ | refine zb4 ?_ ?_ _ | refine zb5 (by assumption) ?_ ?_ | exact zb6 _) | omega | (simp only [zsz]; omega) | (simp <;> omega))) (by omega)) (a + lCnt D p q t k * k + j) (latE D p q t k j) hE).mono ?_; rintro e w1 ⟨rfl, hv1, ht1⟩; obtain ⟨hc1, hf1, hl1⟩ := tcell ht1 hlow; (try simp only [zdz] at hc1 hf1 hl1); have hz1 := ht1.size; (try simp only [zsz] at hz1); (try have g0 : w.heap.size < w1.heap.size := by omega); (try have g1 : w.heap.size + 1 < w1.heap.size := by omega); (try have g2 : w.heap.size + 2 < w1.heap.size := by omega); (try have g3 : w.heap.size + 3 < w1.heap.size := by omega); (try have g4 : w.heap.size + 4 < w1.heap.size := by omega); (try have hB1 : w.heap.size ≤ w1.heap.size := by omega); (try have gl : lk < w1.heap.size := hv1.low.l); (try have q0 := hv1.c0); (try have q1 := hv1.c1); (try have q4 := hv1.c4); (try have q5 := hv1.c5))
        all_goals go_returns
        all_goals exact ⟨⟨_, rfl⟩, hv1, Tch.touch (by (repeat' first | (with_reducible first | exact Tch.refl _ _ _ | assumption | refine Tch.alloc ?_ ?_ _ | refine Tch.drew ?_ | refine Tch.drewN ?_ _ | refine Tch.setCell ?_ ?_ _ | refine Tch.setBlock ?_ (by simp) _ | refine tch_call (by assumption) ?_ ?_ | refine tch_below (by assumption) ?_ ?_ | exact zb6 _) | omega | (simp only [zsz, size_setBlock]; omega) | (simp; omega)))⟩
    · have hjc : (lCnt D p q t k).toNat - j = 0 := by omega
      rw [hjc, vecLoop] at hl
      obtain rfl : rl = .ok (S2, y) := hl.symm
      have hF1 : lFrom D p q t k ≤ 1073741824 := hfr
      clear hl hjc HL
      go_wp2
      go_returns
      exact ⟨rfl, hv.keep hlow (by (repeat' first | (with_reducible first | exact zb0 _ _ | assumption | refine zb1 ?_ ?_ _ | refine zb2 ?_ | refine zb3 ?_ _ | refine zb4 ?_ ?_ _ | refine zb5 (by assumption) ?_ ?_ | exact zb6 _) | omega | (simp only [zsz]; omega) | (simp <;> omega))) (by omega), Tch.touch (by (repeat' first | (with_reducible first | exact Tch.refl _ _ _ | assumption | refine Tch.alloc ?_ ?_ _ | refine Tch.drew ?_ | refine Tch.drewN ?_ _ | refine Tch.setCell ?_ ?_ _ | refine Tch.setBlock ?_ (by simp) _ | refine tch_call (by assumption) ?_ ?_ | refine tch_below (by assumption) ?_ ?_ | exact zb6 _) | omega | (simp only [zsz, size_setBlock]; omega) | (simp; omega)))⟩
end
end Go.Proofs.Ytmpflnlajakibaa
