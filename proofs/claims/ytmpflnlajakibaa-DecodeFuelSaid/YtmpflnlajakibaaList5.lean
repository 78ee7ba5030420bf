/- The walk of list.find at a vector whose length its type gives. -/
import Derived.Test.YtmpflnlajakibaaA4
namespace Go.Proofs.Ytmpflnlajakibaa
set_option linter.unusedVariables false
set_option linter.unusedSimpArgs false
open Go.RowKit
set_option maxRecDepth 100000 in
set_option maxHeartbeats 4000000 in
theorem lfind_fix (b o n cap : Nat) (L : List UInt8) (p q t k : Int) (w : World) (D : Doc w b o n cap L) (hm1 : mayE n p q t k = 0) (x : Nat) (g1 : vectorB t = true) (g0 : (tagB t || manyOf t == 0) = false) (g2 : manyFn t = .func (.func 71) #[] #[]) (g3 : elemFn t = .func (.func x) #[] #[]) :
    Calls Try.prog 38 #[.slice (some ⟨b, o, none⟩) n cap, .agg #[.int .i64 p, .int .i64 q, .int .i64 t, .int .i64 k]] w fun e w' =>
      e = .returned (.tuple #[lfindV b o n cap L p q t k, .int .i64 (lfindE L p q t k)]) ∧ Below w.heap.size w w' := by
  obtain ⟨hn1, hn2⟩ := D.bd
  have hlen := Lib.hid D.len
  have hbw := D.lt
  have hmax : n ≤ maxLen := Nat.le_trans D.le D.max
  obtain ⟨h1, h2, h3, h4, h5, h6, h7, h8, h9⟩ := mayE_zero hm1
  obtain ⟨t0, t1⟩ := kindOf_in h1
  have hix := shapes_index t t0 t1
  have hE0 := Lib.hid (show mayE L.length p q t k = 0 by rw [hlen.out]; exact hm1)
  clear h1 h2 h3
  have G1 := Lib.hid g1
  have G0 := Lib.hid g0
  rw [g2, g3] at hix
  clear g1 g0 g2 g3
  go_enter Try.func38, Try.ntmps38
  go_upto_region 4 with (go_at_call 32; refine (may_any _ _ _ _ L _ _ _ _ _ (D.below zw)).mono ?_; rintro e w1 ⟨rfl, hb1⟩; obtain ⟨hc1, hf1, hl1⟩ := bcell hb1; (try simp only [zdz] at hc1 hf1 hl1); have hz1 := hb1.size; (try simp only [zsz] at hz1); (try have g0 : w.heap.size < w1.heap.size := by omega); (try have g1 : w.heap.size + 1 < w1.heap.size := by omega); (try have g2 : w.heap.size + 2 < w1.heap.size := by omega); (try have gb : b < w1.heap.size := by omega); (try have g3 : w.heap.size + 3 < w1.heap.size := by omega); (try have hbb : Below w.heap.size w w1 := zw); (try obtain ⟨hco, hfo, _⟩ := bcell hbb); (try have hb1 := hb1))
  go_cut [7] (fun s7 wx => ∃ g : Nat, s7 = .pointer (some ⟨g, 0, none⟩) ∧ Below w1.heap.size w1 wx ∧ w1.heap.size ≤ g ∧ g < wx.heap.size ∧ wx.cell? ⟨g, 0, none⟩ = some (.int .i64 (aheadOf t)) ∧ wx.cell? ⟨g, 1, none⟩ = some (.func (.func 71) #[] #[]) ∧ wx.cell? ⟨g, 2, none⟩ = some (.func (.func x) #[] #[]) ∧ wx.cell? ⟨g, 3, none⟩ = some (.int .i64 (tagsOf t)))
  case first =>
    go_region_with (go_at_call 39; refine (shapes_any _).mono ?_; rintro e w1 ⟨rfl, hb1⟩; obtain ⟨hc1, hf1, hl1⟩ := bcell hb1; (try simp only [zdz] at hc1 hf1 hl1); have hz1 := hb1.size; (try simp only [zsz] at hz1); (try have g0 : w.heap.size < w1.heap.size := by omega); (try have g1 : w.heap.size + 1 < w1.heap.size := by omega); (try have g2 : w.heap.size + 2 < w1.heap.size := by omega); (try have gb : b < w1.heap.size := by omega); (try have g3 : w.heap.size + 3 < w1.heap.size := by omega); (try have hbb : Below w.heap.size w w1 := zw); (try obtain ⟨hco, hfo, _⟩ := bcell hbb); (try have hb1 := hb1))
    all_goals (go_wp2_with fail; go_meet; exact ⟨_, rfl, by exact zw, by (first | omega | (simp; omega) | simp), by (first | omega | (simp; omega) | simp), by go_simp, by go_simp, by go_simp, by go_simp⟩)
  case rest =>
    obtain ⟨g, rfl, hb2, hg1, hg2, k0, k1, k2, k3⟩ := hcut
    obtain ⟨hc2, hf2, hl2⟩ := bcell hb2
    have hz2 := hb2.size
    have j0 : w.heap.size < wc.heap.size := by omega
    have j1 : w.heap.size + 1 < wc.heap.size := by omega
    have hbc : Below w.heap.size w wc := by exact zw
    have hb2 := hb2
    obtain ⟨a0, a1⟩ := aheadOf_bd t
    obtain ⟨s0, s1⟩ := tagsOf_bd t
    have P0 : 0 ≤ aheadOf t * k := Int.mul_nonneg a0 (by omega)
    have P1 : aheadOf t * k ≤ 3 * 8 := Int.mul_le_mul a1 h8 (by omega) (by omega)
    by_cases ht' : targetE L p q t k ≠ 0
    · have ht'' : (targetE L p q t k != 0) = true := by simpa using ht'
      have e1 := Lib.hid (show lfindE L p q t k = (targetE L p q t k) by simp [lfindE, hE0.out, G1.out, ht'])
      have e2 := Lib.hid (lfind_bad (b := b) (o := o) (n := n) (cap := cap) e1.out (ht'))
      go_wp2_with (go_at_call 69; refine (target_any _ _ _ _ L _ _ _ _ _ (D.below zw)).mono ?_; rintro e w1 ⟨rfl, hb1⟩; obtain ⟨hc1, hf1, hl1⟩ := bcell hb1; (try simp only [zdz] at hc1 hf1 hl1); have hz1 := hb1.size; (try simp only [zsz] at hz1); (try have g0 : w.heap.size < w1.heap.size := by omega); (try have g1 : w.heap.size + 1 < w1.heap.size := by omega); (try have g2 : w.heap.size + 2 < w1.heap.size := by omega); (try have gb : b < w1.heap.size := by omega); (try have g3 : w.heap.size + 3 < w1.heap.size := by omega); (try have hbb : Below w.heap.size w w1 := zw); (try obtain ⟨hco, hfo, _⟩ := bcell hbb); (try have hb1 := hb1))
      (refine bodyPost_ret (v := .tuple #[.agg #[.slice none 0 0, .int .i64 0, .int .i64 0, .int .i64 0, .int .i64 0, .int .i64 0, .int .i64 0, .int .i64 0, .int .i64 0], .int .i64 (targetE L p q t k)]) (by simp [results, Try.results38, go_sem, *]) rfl ?_)
      exact ⟨by rw [e1.out, e2.out], by exact zw⟩
    have ht : targetE L p q t k = 0 := by simpa using ht'
    have Ht := Lib.hid ht
    clear ht'
    obtain ⟨_, hin, hv0, hv1⟩ := targetE_zero ht
    by_cases hal' : targetV L p q t k % k ≠ 0
    · have hal : (targetV L p q t k % k != 0) = true := by simpa using hal'
      have e1 := Lib.hid (show lfindE L p q t k = 212 by simp [lfindE, hE0.out, G1.out, Ht.out, hal'])
      have e2 := Lib.hid (lfind_bad (b := b) (o := o) (n := n) (cap := cap) e1.out (by decide))
      go_wp2_with (go_at_call 69; refine (target_any _ _ _ _ L _ _ _ _ _ (D.below zw)).mono ?_; rintro e w1 ⟨rfl, hb1⟩; obtain ⟨hc1, hf1, hl1⟩ := bcell hb1; (try simp only [zdz] at hc1 hf1 hl1); have hz1 := hb1.size; (try simp only [zsz] at hz1); (try have g0 : w.heap.size < w1.heap.size := by omega); (try have g1 : w.heap.size + 1 < w1.heap.size := by omega); (try have g2 : w.heap.size + 2 < w1.heap.size := by omega); (try have gb : b < w1.heap.size := by omega); (try have g3 : w.heap.size + 3 < w1.heap.size := by omega); (try have hbb : Below w.heap.size w w1 := zw); (try obtain ⟨hco, hfo, _⟩ := bcell hbb); (try have hb1 := hb1))
      (refine bodyPost_ret (v := .tuple #[.agg #[.slice none 0 0, .int .i64 0, .int .i64 0, .int .i64 0, .int .i64 0, .int .i64 0, .int .i64 0, .int .i64 0, .int .i64 0], .int .i64 212]) (by simp [results, Try.results38, go_sem, *]) rfl ?_)
      exact ⟨by rw [e1.out, e2.out], by exact zw⟩
    have hal : (targetV L p q t k % k != 0) = false := by simpa using hal'
    have Hal : Hid (targetV L p q t k % k = 0) := Lib.hid (by simpa using hal')
    clear hal'
    by_cases hfr : targetV L p q t k - aheadOf t * k < 0
    · have e1 := Lib.hid (show lfindE L p q t k = 211 by unfold lfindE; rw [if_neg (by rw [hE0.out]; decide), if_neg (by rw [G1.out]; decide), if_neg (by rw [Ht.out]; decide), if_neg (by rw [Hal.out]; decide), if_pos hfr])
      have e2 := Lib.hid (lfind_bad (b := b) (o := o) (n := n) (cap := cap) e1.out (by decide))
      go_wp2_with (go_at_call 69; refine (target_any _ _ _ _ L _ _ _ _ _ (D.below zw)).mono ?_; rintro e w1 ⟨rfl, hb1⟩; obtain ⟨hc1, hf1, hl1⟩ := bcell hb1; (try simp only [zdz] at hc1 hf1 hl1); have hz1 := hb1.size; (try simp only [zsz] at hz1); (try have g0 : w.heap.size < w1.heap.size := by omega); (try have g1 : w.heap.size + 1 < w1.heap.size := by omega); (try have g2 : w.heap.size + 2 < w1.heap.size := by omega); (try have gb : b < w1.heap.size := by omega); (try have g3 : w.heap.size + 3 < w1.heap.size := by omega); (try have hbb : Below w.heap.size w w1 := zw); (try obtain ⟨hco, hfo, _⟩ := bcell hbb); (try have hb1 := hb1))
      (refine bodyPost_ret (v := .tuple #[.agg #[.slice none 0 0, .int .i64 0, .int .i64 0, .int .i64 0, .int .i64 0, .int .i64 0, .int .i64 0, .int .i64 0, .int .i64 0], .int .i64 211]) (by simp [results, Try.results38, go_sem, *]) rfl ?_)
      exact ⟨by rw [e1.out, e2.out], by exact zw⟩
    obtain ⟨c0, c1⟩ := lcnt_bd L (targetV L p q t k) t k
    have HC := Lib.hid (show lcnt L (targetV L p q t k) t k = manyOf t by simp [lcnt, G0.out])
    have hwk : IntKind.i64.wrap (k + tagsOf t) = k + tagsOf t := IntWalk.i64_in _ (by omega)
    go_upto_region 15 with (go_at_call 69; refine (target_any _ _ _ _ L _ _ _ _ _ (D.below zw)).mono ?_; rintro e w1 ⟨rfl, hb1⟩; obtain ⟨hc1, hf1, hl1⟩ := bcell hb1; (try simp only [zdz] at hc1 hf1 hl1); have hz1 := hb1.size; (try simp only [zsz] at hz1); (try have g0 : w.heap.size < w1.heap.size := by omega); (try have g1 : w.heap.size + 1 < w1.heap.size := by omega); (try have g2 : w.heap.size + 2 < w1.heap.size := by omega); (try have gb : b < w1.heap.size := by omega); (try have g3 : w.heap.size + 3 < w1.heap.size := by omega); (try have hbb : Below w.heap.size w w1 := zw); (try obtain ⟨hco, hfo, _⟩ := bcell hbb); (try have hb1 := hb1))
    go_cut [11, 12] (fun s11 s12 wx => s11 = .int .u64 (lcnt L (targetV L p q t k) t k) ∧ s12 = .int .i64 (k + tagsOf t) ∧ Below w1.heap.size w1 wx)
    case first =>
      have r0 : w1.cell? ⟨w.heap.size, 0, none⟩ = some (.int .i64 p) := by go_simp
      have r1 : w1.cell? ⟨w.heap.size, 1, none⟩ = some (.int .i64 q) := by go_simp
      have r2 : w1.cell? ⟨w.heap.size, 2, none⟩ = some (.int .i64 t) := by go_simp
      have r3 : w1.cell? ⟨w.heap.size, 3, none⟩ = some (.int .i64 k) := by go_simp
      have r4 : w1.cell? ⟨g, 1, none⟩ = some (.func (.func 71) #[] #[]) := by go_simp
      have r5 : w1.cell? ⟨g, 3, none⟩ = some (.int .i64 (tagsOf t)) := by go_simp
      go_region_held3 (fun w' => w'.cell? ⟨g, 1, none⟩ = some (.func (.func 71) #[] #[]) ∧ w'.cell? ⟨g, 3, none⟩ = some (.int .i64 (tagsOf t)) ∧ w'.cell? ⟨w.heap.size, 0, none⟩ = some (.int .i64 p) ∧ w'.cell? ⟨w.heap.size, 1, none⟩ = some (.int .i64 q) ∧ w'.cell? ⟨w.heap.size, 2, none⟩ = some (.int .i64 t) ∧ w'.cell? ⟨w.heap.size, 3, none⟩ = some (.int .i64 k)) (first | exact ⟨q4, q5, q0, q1, q2, q3⟩ | exact ⟨r4, r5, r0, r1, r2, r3⟩) (first | (go_at_call 71; refine (lfixed_any _ p q t k _ _).mono ?_; rintro e w1 ⟨rfl, hb1⟩; obtain ⟨hc1, hf1, hl1⟩ := bcell hb1; (try simp only [World.size_drew, World.cell?_drew, World.frozen?_drew] at hc1 hf1 hl1); have hz1 := hb1.size; (try simp only [World.size_alloc, World.size_setCell, World.size_drew] at hz1); (try have g0 : w.heap.size < w1.heap.size := by omega); (try have g1 : w.heap.size + 1 < w1.heap.size := by omega); (try have g2 : w.heap.size + 2 < w1.heap.size := by omega); (try have gb : b < w1.heap.size := by omega); (try have g3 : w.heap.size + 3 < w1.heap.size := by omega); (try have hbb : Below w.heap.size w w1 := zw); (try obtain ⟨hco, hfo, _⟩ := bcell hbb); (try have hb1 := hb1); have q0 := (hc1 w.heap.size 0 (by omega)).trans r0; have q1 := (hc1 w.heap.size 1 (by omega)).trans r1; have q2 := (hc1 w.heap.size 2 (by omega)).trans r2; have q3 := (hc1 w.heap.size 3 (by omega)).trans r3; have q4 := (hc1 g 1 (by omega)).trans r4; have q5 := (hc1 g 3 (by omega)).trans r5))
      all_goals (go_wp2_with fail; go_meet; exact ⟨by rw [HC.out], rfl, by exact zw⟩)
    case rest =>
      obtain ⟨rfl, rfl, hb3⟩ := hcut
      obtain ⟨hc3, hf3, hl3⟩ := bcell hb3
      have hz3 := hb3.size
      have m0 : w.heap.size < wc.heap.size := by omega
      have m1 : w.heap.size + 1 < wc.heap.size := by omega
      have m2 : g < wc.heap.size := by omega
      have hbc3 : Below w.heap.size w wc := by exact zw
      obtain ⟨hcp, hfp, _⟩ := bcell hbc3
      have hb3 := hb3
      clear HC hwk
      by_cases h4 : (n : Int) < lcnt L (targetV L p q t k) t k
      · have e1 := Lib.hid (show lfindE L p q t k = 211 by unfold lfindE; rw [if_neg (by rw [hE0.out]; decide), if_neg (by rw [G1.out]; decide), if_neg (by rw [Ht.out]; decide), if_neg (by rw [Hal.out]; decide), if_neg (by omega), if_pos (Or.inl (by rw [hlen.out]; exact h4))])
        have e2 := Lib.hid (lfind_bad (b := b) (o := o) (n := n) (cap := cap) e1.out (by decide))
        go_wp2_with (go_at_call 63; refine (inside_any _ _ _ hmax _ _ _).mono ?_; rintro e w1 ⟨rfl, rfl⟩)
        (refine bodyPost_ret (v := .tuple #[.agg #[.slice none 0 0, .int .i64 0, .int .i64 0, .int .i64 0, .int .i64 0, .int .i64 0, .int .i64 0, .int .i64 0, .int .i64 0], .int .i64 211]) (by simp [results, Try.results38, go_sem, *]) rfl ?_)
        exact ⟨by rw [e1.out, e2.out], by exact zw⟩
      have E0 : 0 ≤ lcnt L (targetV L p q t k) t k * (k + tagsOf t) := Int.mul_nonneg c0 (by omega)
      have E1 : lcnt L (targetV L p q t k) t k * (k + tagsOf t) ≤ 1073741824 * 9 := Int.mul_le_mul (by omega) (by omega) (by omega) (by omega)
      by_cases h5' : insideB n (targetV L p q t k) (lcnt L (targetV L p q t k) t k * (k + tagsOf t)) = false
      · have e1 := Lib.hid (show lfindE L p q t k = 211 by
          unfold lfindE; rw [if_neg (by rw [hE0.out]; decide), if_neg (by rw [G1.out]; decide), if_neg (by rw [Ht.out]; decide), if_neg (by rw [Hal.out]; decide), if_neg (by omega), if_pos (Or.inr ?_)]
          rw [hlen.out]; unfold eachOf
          simp only [insideB, Bool.and_eq_false_iff, decide_eq_false_iff_not] at h5'; omega)
        have e2 := Lib.hid (lfind_bad (b := b) (o := o) (n := n) (cap := cap) e1.out (by decide))
        go_wp2_with (go_at_call 63; refine (inside_any _ _ _ hmax _ _ _).mono ?_; rintro e w1 ⟨rfl, rfl⟩)
        (refine bodyPost_ret (v := .tuple #[.agg #[.slice none 0 0, .int .i64 0, .int .i64 0, .int .i64 0, .int .i64 0, .int .i64 0, .int .i64 0, .int .i64 0, .int .i64 0], .int .i64 211]) (by simp [results, Try.results38, go_sem, *]) rfl ?_)
        exact ⟨by rw [e1.out, e2.out], by exact zw⟩
      have h5 : insideB n (targetV L p q t k) (lcnt L (targetV L p q t k) t k * (k + tagsOf t)) = true := by simpa using h5'
      have e1 := Lib.hid (show lfindE L p q t k = 0 by
        unfold lfindE; rw [if_neg (by rw [hE0.out]; decide), if_neg (by rw [G1.out]; decide), if_neg (by rw [Ht.out]; decide), if_neg (by rw [Hal.out]; decide), if_neg (by omega), if_neg]
        rw [hlen.out]; unfold eachOf
        simp only [insideB, Bool.and_eq_true, decide_eq_true_eq] at h5; omega)
      have e2 := Lib.hid (show lfindV b o n cap L p q t k = .agg #[.slice (some ⟨b, o, none⟩) n cap, .int .i64 p, .int .i64 q, .int .i64 t, .int .i64 k, .int .i64 (targetV L p q t k - aheadOf t * k), .int .i64 (targetV L p q t k), .int .i64 (targetV L p q t k + lcnt L (targetV L p q t k) t k * (k + tagsOf t)), .int .i64 (lcnt L (targetV L p q t k) t k)] by unfold lfindV eachOf; rw [if_pos e1.out])
      clear h5'
      go_wp2_with (go_at_call 63; refine (inside_any _ _ _ hmax _ _ _).mono ?_; rintro e w1 ⟨rfl, rfl⟩)
      (refine bodyPost_ret (v := .tuple #[.agg #[.slice (some ⟨b, o, none⟩) n cap, .int .i64 p, .int .i64 q, .int .i64 t, .int .i64 k, .int .i64 (targetV L p q t k - aheadOf t * k), .int .i64 (targetV L p q t k), .int .i64 (targetV L p q t k + lcnt L (targetV L p q t k) t k * (k + tagsOf t)), .int .i64 (lcnt L (targetV L p q t k) t k)], .int .i64 0]) (by simp [results, Try.results38, go_sem, *]) rfl ?_)
      exact ⟨by rw [e1.out, e2.out], by exact zw⟩
end Go.Proofs.Ytmpflnlajakibaa
