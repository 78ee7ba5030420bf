/- The reference's list: span, Span, Len. The reference's list: Span, Len, At. -/
import Derived.Test.YtmpflnlajakibaaGreatA8
import Derived.Test.YtmpflnlajakibaaGreatAa
import Derived.Test.YtmpflnlajakibaaGreatA5
namespace Go.Proofs.YtmpflnlajakibaaGreat
set_option linter.unusedVariables false
set_option linter.unusedSimpArgs false
section
open Go.RowKit
theorem rtags_any (t : Int) (w : World) : Calls Tryz.prog 94 #[.int .i64 t] w fun e w' => e = .returned (.bool (tagB t)) ∧ w = w' := by
  by_cases h10 : t = 10
  · subst h10; go_enter Tryz.func94, Tryz.ntmps94; go_wp2; go_returns; exact ⟨rfl, rfl⟩
  · by_cases h9 : t = 9
    · subst h9; go_enter Tryz.func94, Tryz.ntmps94; go_wp2; go_returns; exact ⟨rfl, rfl⟩
    · have e : tagB t = false := by simp [tagB, h9, h10]
      have e9 : (t == 9) = false := by simpa using h9
      have e10 : (t == 10) = false := by simpa using h10
      rw [e]; clear e
      go_enter Tryz.func94, Tryz.ntmps94; go_wp2; go_returns; exact ⟨rfl, rfl⟩
theorem tag_facts {t : Int} (h : tagB t = true) : vecB t = false ∧ manyOf t = 0 ∧ (t = 9 ∨ t = 10) := by
  have h' : t = 9 ∨ t = 10 := by simpa [tagB] using h
  rcases h' with rfl | rfl <;> exact ⟨rfl, rfl, by omega⟩
theorem rahead_any (t : Int) (h : vectorB t = true) (w : World) : Calls Tryz.prog 88 #[.int .i64 t] w fun e w' => e = .returned (.int .i64 (aheadOf t)) ∧ w = w' := by
  by_cases h9 : t = 9
  · subst h9; go_enter Tryz.func88, Tryz.ntmps88; go_wp2_with (go_at_call 95; refine (relem_any _ _).mono ?_; rintro e w1 ⟨rfl, rfl⟩); go_returns; exact ⟨rfl, rfl⟩
  · by_cases h10 : t = 10
    · subst h10; go_enter Tryz.func88, Tryz.ntmps88
      go_wp2_with (go_at_call 95; refine (relem_any 10 _).mono ?_; rintro e w1 ⟨rfl, rfl⟩; simp only [show elemOf 10 = 0 from rfl, show manyOf 10 = 0 from rfl, show vecB 10 = false from rfl])
      go_returns; exact ⟨rfl, rfl⟩
    · have e9 : (t == 9) = false := by simpa using h9
      have e10 : (t == 10) = false := by simpa using h10
      have hv : vecB t = true := by simpa [vectorB, tagB, e9, e10] using h
      by_cases hm : 0 < manyOf t
      · have e : aheadOf t = 0 := by simp [aheadOf, h9, h10, hv, hm]
        rw [e]; clear e h
        go_enter Tryz.func88, Tryz.ntmps88
        go_wp2_with (go_at_call 95; refine (relem_any _ _).mono ?_; rintro e w1 ⟨rfl, rfl⟩)
        go_returns; exact ⟨rfl, rfl⟩
      · have e : aheadOf t = 1 := by simp [aheadOf, h9, h10, hv, hm]
        rw [e]; clear e h
        go_enter Tryz.func88, Tryz.ntmps88
        go_wp2_with (go_at_call 95; refine (relem_any _ _).mono ?_; rintro e w1 ⟨rfl, rfl⟩)
        go_returns; exact ⟨rfl, rfl⟩
def RSpan (L : List UInt8) (p q t k : Int) (w : World) (e : Ending) (w' : World) : Prop :=
  e = .returned (.tuple #[.int .i64 (lFrom L p q t k), .int .i64 (lAt L p q t k), .int .i64 (lTo L p q t k), .int .i64 (lCnt L p q t k), .int .i64 (lfindE L p q t k)]) ∧ Below w.heap.size w w'
theorem rspan_bad {L : List UInt8} {p q t k x : Int} (h : lfindE L p q t k = x) (hx : x ≠ 0) : lFrom L p q t k = 0 ∧ lAt L p q t k = 0 ∧ lTo L p q t k = 0 ∧ lCnt L p q t k = 0 := by
  subst h; simp [lFrom, lAt, lTo, lCnt, hx]
theorem rspan_eq {L : List UInt8} {p q t k : Int} (w : World) {a b c d x : Int} (h0 : lfindE L p q t k = x) (h1 : lFrom L p q t k = a) (h2 : lAt L p q t k = b) (h3 : lTo L p q t k = c) (h4 : lCnt L p q t k = d) :
    RSpan L p q t k w = fun e w' => e = .returned (.tuple #[.int .i64 a, .int .i64 b, .int .i64 c, .int .i64 d, .int .i64 x]) ∧ Below w.heap.size w w' := by
  funext e w'; unfold RSpan; rw [h0, h1, h2, h3, h4]
/-- The count fits exactly if it is at most the rest divided by the size of an element. -/
theorem cnt_fits {n T C e : Int} (h0 : 0 ≤ T) (h1 : T ≤ n) (h2 : 0 ≤ C) (h3 : 1 ≤ e) : ((n - T) / e < C) ↔ (n < C ∨ n < T + C * e) := by
  have hc : C ≤ C * e := by
    have := Int.mul_le_mul_of_nonneg_left h3 h2
    rw [Int.mul_one] at this; exact this
  rw [Int.ediv_lt_iff_lt_mul (by omega)]
  omega
set_option maxHeartbeats 4000000 in
theorem rspan_any (b o n cap : Nat) (L : List UInt8) (p q t k : Int) (w : World) (D : Doc w b o n cap L) :
    Calls Tryz.prog 92 #[.slice (some ⟨b, o, none⟩) n cap, .agg #[.int .i64 p, .int .i64 q, .int .i64 t, .int .i64 k]] w (RSpan L p q t k w) := by
  obtain ⟨hn1, hn2⟩ := D.bd
  have hlen := D.len
  have hbw := D.lt
  by_cases hm : mayE n p q t k = 0
  · obtain ⟨h1, h2, h3, h4, h5, h6, h7, h8, h9⟩ := mayE_zero hm
    by_cases hvt : vectorB t = true
    · by_cases ht : targetE L p q t k = 0
      · obtain ⟨-, -, g1, g2⟩ := targetE_zero ht
        have HT := Lib.hid ht
        obtain ⟨m0, m1⟩ := manyOf_bd t
        by_cases hal : targetV L p q t k % k = 0
        · have hal1 : (targetV L p q t k % k != 0) = false := by simpa using hal
          have hal2 : (Int.tmod (targetV L p q t k) k != 0) = false := by rw [Int.tmod_eq_emod_of_nonneg g1]; exact hal1
          have HAL := Lib.hid hal
          clear hal
          have HV := Lib.hid hvt
          have HM := Lib.hid hm
          generalize hT : targetV L p q t k = T at *
          have HTT := Lib.hid hT
          have HTG := Lib.hid (show ∀ W, Doc W b o n cap L → Calls Tryz.prog 104 #[.slice (some ⟨b, o, none⟩) n cap, .agg #[.int .i64 p, .int .i64 q, .int .i64 t, .int .i64 k]] W fun e w' => e = .returned (.tuple #[.int .i64 T, .int .i64 0]) ∧ Below W.heap.size W w' from fun W DW => by
            have h := rtarget_any b o n cap L p q t k W DW
            rw [ht, hT] at h; exact h)
          clear hT ht
          obtain ⟨a0, a1⟩ := aheadOf_bd t
          have x0 : 0 ≤ aheadOf t * k := Int.mul_nonneg a0 (by omega)
          have x1 : aheadOf t * k ≤ 24 := by
            have := Int.mul_le_mul a1 h8 (by omega) (by omega); omega
          by_cases hf : T - aheadOf t * k < 0
          · have e0 : lfindE L p q t k = 211 := by simp [lfindE, hlen, HM.out, HV.out, HT.out, HTT.out, HAL.out, hf]
            obtain ⟨e1, e2, e3, e4⟩ := rspan_bad e0 (by decide)
            rw [rspan_eq w e0 e1 e2 e3 e4]; clear e0 e1 e2 e3 e4 hlen h1 h2 h3
            cases hg : tagB t with
            | true =>
              obtain ⟨v0, m00, -⟩ := tag_facts hg
              go_enter Tryz.func92, Tryz.ntmps92
              go_wp2_with (first | ((first | (go_at_call 16; refine (rmay_any _ _ _ _ L _ _ _ _ _ (D.below zw)).mono ?_) | (go_at_call 104; refine (HTG.out _ (D.below zw)).mono ?_)); rintro e w1 ⟨rfl, hb1⟩; obtain ⟨hc1, hf1, hl1⟩ := bcell hb1; (try simp only [zdz] at hc1 hf1 hl1); have hz1 := hb1.size; (try simp only [zsz] at hz1); (try have g0 : w.heap.size < w1.heap.size := by omega); (try have g1 : w.heap.size + 1 < w1.heap.size := by omega); (try have g2 : w.heap.size + 2 < w1.heap.size := by omega); (try have gb : b < w1.heap.size := by omega); (try have g3 : w.heap.size + 3 < w1.heap.size := by omega); (try have hbb : Below w.heap.size w w1 := zw); (try obtain ⟨hco, hfo, _⟩ := bcell hbb); (try have hb1 := hb1)) | (go_at_call 95; refine (relem_any _ _).mono ?_; rintro e w1 ⟨rfl, rfl⟩) | (go_at_call 94; refine (rtags_any _ _).mono ?_; rintro e w1 ⟨rfl, rfl⟩) | (go_at_call 88; refine (rahead_any _ hvt _).mono ?_; rintro e w1 ⟨rfl, rfl⟩) | (go_at_call 65; refine (rload_any _ _ _ _ L _ _ _ (D.below zw)).mono ?_; rintro e w1 ⟨rfl, rfl⟩))
              go_region_with (first | ((first | (go_at_call 16; refine (rmay_any _ _ _ _ L _ _ _ _ _ (D.below zw)).mono ?_) | (go_at_call 104; refine (HTG.out _ (D.below zw)).mono ?_)); rintro e w1 ⟨rfl, hb1⟩; obtain ⟨hc1, hf1, hl1⟩ := bcell hb1; (try simp only [zdz] at hc1 hf1 hl1); have hz1 := hb1.size; (try simp only [zsz] at hz1); (try have g0 : w.heap.size < w1.heap.size := by omega); (try have g1 : w.heap.size + 1 < w1.heap.size := by omega); (try have g2 : w.heap.size + 2 < w1.heap.size := by omega); (try have gb : b < w1.heap.size := by omega); (try have g3 : w.heap.size + 3 < w1.heap.size := by omega); (try have hbb : Below w.heap.size w w1 := zw); (try obtain ⟨hco, hfo, _⟩ := bcell hbb); (try have hb1 := hb1)) | (go_at_call 95; refine (relem_any _ _).mono ?_; rintro e w1 ⟨rfl, rfl⟩) | (go_at_call 94; refine (rtags_any _ _).mono ?_; rintro e w1 ⟨rfl, rfl⟩) | (go_at_call 88; refine (rahead_any _ hvt _).mono ?_; rintro e w1 ⟨rfl, rfl⟩) | (go_at_call 65; refine (rload_any _ _ _ _ L _ _ _ (D.below zw)).mono ?_; rintro e w1 ⟨rfl, rfl⟩))
              all_goals go_wp2_with (first | ((first | (go_at_call 16; refine (rmay_any _ _ _ _ L _ _ _ _ _ (D.below zw)).mono ?_) | (go_at_call 104; refine (HTG.out _ (D.below zw)).mono ?_)); rintro e w1 ⟨rfl, hb1⟩; obtain ⟨hc1, hf1, hl1⟩ := bcell hb1; (try simp only [zdz] at hc1 hf1 hl1); have hz1 := hb1.size; (try simp only [zsz] at hz1); (try have g0 : w.heap.size < w1.heap.size := by omega); (try have g1 : w.heap.size + 1 < w1.heap.size := by omega); (try have g2 : w.heap.size + 2 < w1.heap.size := by omega); (try have gb : b < w1.heap.size := by omega); (try have g3 : w.heap.size + 3 < w1.heap.size := by omega); (try have hbb : Below w.heap.size w w1 := zw); (try obtain ⟨hco, hfo, _⟩ := bcell hbb); (try have hb1 := hb1)) | (go_at_call 95; refine (relem_any _ _).mono ?_; rintro e w1 ⟨rfl, rfl⟩) | (go_at_call 94; refine (rtags_any _ _).mono ?_; rintro e w1 ⟨rfl, rfl⟩) | (go_at_call 88; refine (rahead_any _ hvt _).mono ?_; rintro e w1 ⟨rfl, rfl⟩) | (go_at_call 65; refine (rload_any _ _ _ _ L _ _ _ (D.below zw)).mono ?_; rintro e w1 ⟨rfl, rfl⟩))
              all_goals go_returns
              all_goals exact ⟨rfl, by exact zw⟩
            | false =>
              have v0 : vecB t = true := by simpa [vectorB, hg] using hvt
              go_enter Tryz.func92, Tryz.ntmps92
              go_wp2_with (first | ((first | (go_at_call 16; refine (rmay_any _ _ _ _ L _ _ _ _ _ (D.below zw)).mono ?_) | (go_at_call 104; refine (HTG.out _ (D.below zw)).mono ?_)); rintro e w1 ⟨rfl, hb1⟩; obtain ⟨hc1, hf1, hl1⟩ := bcell hb1; (try simp only [zdz] at hc1 hf1 hl1); have hz1 := hb1.size; (try simp only [zsz] at hz1); (try have g0 : w.heap.size < w1.heap.size := by omega); (try have g1 : w.heap.size + 1 < w1.heap.size := by omega); (try have g2 : w.heap.size + 2 < w1.heap.size := by omega); (try have gb : b < w1.heap.size := by omega); (try have g3 : w.heap.size + 3 < w1.heap.size := by omega); (try have hbb : Below w.heap.size w w1 := zw); (try obtain ⟨hco, hfo, _⟩ := bcell hbb); (try have hb1 := hb1)) | (go_at_call 95; refine (relem_any _ _).mono ?_; rintro e w1 ⟨rfl, rfl⟩) | (go_at_call 94; refine (rtags_any _ _).mono ?_; rintro e w1 ⟨rfl, rfl⟩) | (go_at_call 88; refine (rahead_any _ hvt _).mono ?_; rintro e w1 ⟨rfl, rfl⟩) | (go_at_call 65; refine (rload_any _ _ _ _ L _ _ _ (D.below zw)).mono ?_; rintro e w1 ⟨rfl, rfl⟩))
              go_region_with (first | ((first | (go_at_call 16; refine (rmay_any _ _ _ _ L _ _ _ _ _ (D.below zw)).mono ?_) | (go_at_call 104; refine (HTG.out _ (D.below zw)).mono ?_)); rintro e w1 ⟨rfl, hb1⟩; obtain ⟨hc1, hf1, hl1⟩ := bcell hb1; (try simp only [zdz] at hc1 hf1 hl1); have hz1 := hb1.size; (try simp only [zsz] at hz1); (try have g0 : w.heap.size < w1.heap.size := by omega); (try have g1 : w.heap.size + 1 < w1.heap.size := by omega); (try have g2 : w.heap.size + 2 < w1.heap.size := by omega); (try have gb : b < w1.heap.size := by omega); (try have g3 : w.heap.size + 3 < w1.heap.size := by omega); (try have hbb : Below w.heap.size w w1 := zw); (try obtain ⟨hco, hfo, _⟩ := bcell hbb); (try have hb1 := hb1)) | (go_at_call 95; refine (relem_any _ _).mono ?_; rintro e w1 ⟨rfl, rfl⟩) | (go_at_call 94; refine (rtags_any _ _).mono ?_; rintro e w1 ⟨rfl, rfl⟩) | (go_at_call 88; refine (rahead_any _ hvt _).mono ?_; rintro e w1 ⟨rfl, rfl⟩) | (go_at_call 65; refine (rload_any _ _ _ _ L _ _ _ (D.below zw)).mono ?_; rintro e w1 ⟨rfl, rfl⟩))
              all_goals go_wp2_with (first | ((first | (go_at_call 16; refine (rmay_any _ _ _ _ L _ _ _ _ _ (D.below zw)).mono ?_) | (go_at_call 104; refine (HTG.out _ (D.below zw)).mono ?_)); rintro e w1 ⟨rfl, hb1⟩; obtain ⟨hc1, hf1, hl1⟩ := bcell hb1; (try simp only [zdz] at hc1 hf1 hl1); have hz1 := hb1.size; (try simp only [zsz] at hz1); (try have g0 : w.heap.size < w1.heap.size := by omega); (try have g1 : w.heap.size + 1 < w1.heap.size := by omega); (try have g2 : w.heap.size + 2 < w1.heap.size := by omega); (try have gb : b < w1.heap.size := by omega); (try have g3 : w.heap.size + 3 < w1.heap.size := by omega); (try have hbb : Below w.heap.size w w1 := zw); (try obtain ⟨hco, hfo, _⟩ := bcell hbb); (try have hb1 := hb1)) | (go_at_call 95; refine (relem_any _ _).mono ?_; rintro e w1 ⟨rfl, rfl⟩) | (go_at_call 94; refine (rtags_any _ _).mono ?_; rintro e w1 ⟨rfl, rfl⟩) | (go_at_call 88; refine (rahead_any _ hvt _).mono ?_; rintro e w1 ⟨rfl, rfl⟩) | (go_at_call 65; refine (rload_any _ _ _ _ L _ _ _ (D.below zw)).mono ?_; rintro e w1 ⟨rfl, rfl⟩))
              all_goals go_returns
              all_goals exact ⟨rfl, by exact zw⟩
          · have HC := Lib.hid (cnt_fits (n := (n : Int)) (T := T) (C := lcnt L T t k) (e := eachOf t k) g1 (by omega) (lcnt_bd L T t k).1 (by have := tagsOf_bd t; unfold eachOf; omega))
            obtain ⟨c0, c1⟩ := lcnt_bd L T t k
            by_cases hq : ((n : Int) - T) / eachOf t k < lcnt L T t k
            · have e0 : lfindE L p q t k = 211 := by
                simp [lfindE, hlen, HM.out, HV.out, HT.out, HTT.out, HAL.out, hf]; have := HC.out.1 hq; omega
              obtain ⟨e1, e2, e3, e4⟩ := rspan_bad e0 (by decide)
              rw [rspan_eq w e0 e1 e2 e3 e4]; clear e0 e1 e2 e3 e4 hlen h1 h2 h3 HC
              cases hg : tagB t with
              | true =>
                obtain ⟨v0, m00, -⟩ := tag_facts hg
                rw [show eachOf t k = k + 1 by simp [eachOf, tagsOf, hg], show lcnt L T t k = loadV L (T - k) k by simp [lcnt, hg]] at *
                go_enter Tryz.func92, Tryz.ntmps92
                go_wp2_with (first | ((first | (go_at_call 16; refine (rmay_any _ _ _ _ L _ _ _ _ _ (D.below zw)).mono ?_) | (go_at_call 104; refine (HTG.out _ (D.below zw)).mono ?_)); rintro e w1 ⟨rfl, hb1⟩; obtain ⟨hc1, hf1, hl1⟩ := bcell hb1; (try simp only [zdz] at hc1 hf1 hl1); have hz1 := hb1.size; (try simp only [zsz] at hz1); (try have g0 : w.heap.size < w1.heap.size := by omega); (try have g1 : w.heap.size + 1 < w1.heap.size := by omega); (try have g2 : w.heap.size + 2 < w1.heap.size := by omega); (try have gb : b < w1.heap.size := by omega); (try have g3 : w.heap.size + 3 < w1.heap.size := by omega); (try have hbb : Below w.heap.size w w1 := zw); (try obtain ⟨hco, hfo, _⟩ := bcell hbb); (try have hb1 := hb1)) | (go_at_call 95; refine (relem_any _ _).mono ?_; rintro e w1 ⟨rfl, rfl⟩) | (go_at_call 94; refine (rtags_any _ _).mono ?_; rintro e w1 ⟨rfl, rfl⟩) | (go_at_call 88; refine (rahead_any _ hvt _).mono ?_; rintro e w1 ⟨rfl, rfl⟩) | (go_at_call 65; refine (rload_any _ _ _ _ L _ _ _ (D.below zw)).mono ?_; rintro e w1 ⟨rfl, rfl⟩))
                go_region_with (first | ((first | (go_at_call 16; refine (rmay_any _ _ _ _ L _ _ _ _ _ (D.below zw)).mono ?_) | (go_at_call 104; refine (HTG.out _ (D.below zw)).mono ?_)); rintro e w1 ⟨rfl, hb1⟩; obtain ⟨hc1, hf1, hl1⟩ := bcell hb1; (try simp only [zdz] at hc1 hf1 hl1); have hz1 := hb1.size; (try simp only [zsz] at hz1); (try have g0 : w.heap.size < w1.heap.size := by omega); (try have g1 : w.heap.size + 1 < w1.heap.size := by omega); (try have g2 : w.heap.size + 2 < w1.heap.size := by omega); (try have gb : b < w1.heap.size := by omega); (try have g3 : w.heap.size + 3 < w1.heap.size := by omega); (try have hbb : Below w.heap.size w w1 := zw); (try obtain ⟨hco, hfo, _⟩ := bcell hbb); (try have hb1 := hb1)) | (go_at_call 95; refine (relem_any _ _).mono ?_; rintro e w1 ⟨rfl, rfl⟩) | (go_at_call 94; refine (rtags_any _ _).mono ?_; rintro e w1 ⟨rfl, rfl⟩) | (go_at_call 88; refine (rahead_any _ hvt _).mono ?_; rintro e w1 ⟨rfl, rfl⟩) | (go_at_call 65; refine (rload_any _ _ _ _ L _ _ _ (D.below zw)).mono ?_; rintro e w1 ⟨rfl, rfl⟩))
                all_goals go_wp2_with (first | ((first | (go_at_call 16; refine (rmay_any _ _ _ _ L _ _ _ _ _ (D.below zw)).mono ?_) | (go_at_call 104; refine (HTG.out _ (D.below zw)).mono ?_)); rintro e w1 ⟨rfl, hb1⟩; obtain ⟨hc1, hf1, hl1⟩ := bcell hb1; (try simp only [zdz] at hc1 hf1 hl1); have hz1 := hb1.size; (try simp only [zsz] at hz1); (try have g0 : w.heap.size < w1.heap.size := by omega); (try have g1 : w.heap.size + 1 < w1.heap.size := by omega); (try have g2 : w.heap.size + 2 < w1.heap.size := by omega); (try have gb : b < w1.heap.size := by omega); (try have g3 : w.heap.size + 3 < w1.heap.size := by omega); (try have hbb : Below w.heap.size w w1 := zw); (try obtain ⟨hco, hfo, _⟩ := bcell hbb); (try have hb1 := hb1)) | (go_at_call 95; refine (relem_any _ _).mono ?_; rintro e w1 ⟨rfl, rfl⟩) | (go_at_call 94; refine (rtags_any _ _).mono ?_; rintro e w1 ⟨rfl, rfl⟩) | (go_at_call 88; refine (rahead_any _ hvt _).mono ?_; rintro e w1 ⟨rfl, rfl⟩) | (go_at_call 65; refine (rload_any _ _ _ _ L _ _ _ (D.below zw)).mono ?_; rintro e w1 ⟨rfl, rfl⟩))
                all_goals go_returns
                all_goals exact ⟨rfl, by exact zw⟩
              | false =>
                have v0 : vecB t = true := by simpa [vectorB, hg] using hvt
                rw [show eachOf t k = k by simp [eachOf, tagsOf, hg]] at *
                cases hmm : (manyOf t == 0) with
                | true =>
                  rw [show lcnt L T t k = loadV L (T - k) k by simp [lcnt, hmm]] at *
                  go_enter Tryz.func92, Tryz.ntmps92
                  go_wp2_with (first | ((first | (go_at_call 16; refine (rmay_any _ _ _ _ L _ _ _ _ _ (D.below zw)).mono ?_) | (go_at_call 104; refine (HTG.out _ (D.below zw)).mono ?_)); rintro e w1 ⟨rfl, hb1⟩; obtain ⟨hc1, hf1, hl1⟩ := bcell hb1; (try simp only [zdz] at hc1 hf1 hl1); have hz1 := hb1.size; (try simp only [zsz] at hz1); (try have g0 : w.heap.size < w1.heap.size := by omega); (try have g1 : w.heap.size + 1 < w1.heap.size := by omega); (try have g2 : w.heap.size + 2 < w1.heap.size := by omega); (try have gb : b < w1.heap.size := by omega); (try have g3 : w.heap.size + 3 < w1.heap.size := by omega); (try have hbb : Below w.heap.size w w1 := zw); (try obtain ⟨hco, hfo, _⟩ := bcell hbb); (try have hb1 := hb1)) | (go_at_call 95; refine (relem_any _ _).mono ?_; rintro e w1 ⟨rfl, rfl⟩) | (go_at_call 94; refine (rtags_any _ _).mono ?_; rintro e w1 ⟨rfl, rfl⟩) | (go_at_call 88; refine (rahead_any _ hvt _).mono ?_; rintro e w1 ⟨rfl, rfl⟩) | (go_at_call 65; refine (rload_any _ _ _ _ L _ _ _ (D.below zw)).mono ?_; rintro e w1 ⟨rfl, rfl⟩))
                  go_region_with (first | ((first | (go_at_call 16; refine (rmay_any _ _ _ _ L _ _ _ _ _ (D.below zw)).mono ?_) | (go_at_call 104; refine (HTG.out _ (D.below zw)).mono ?_)); rintro e w1 ⟨rfl, hb1⟩; obtain ⟨hc1, hf1, hl1⟩ := bcell hb1; (try simp only [zdz] at hc1 hf1 hl1); have hz1 := hb1.size; (try simp only [zsz] at hz1); (try have g0 : w.heap.size < w1.heap.size := by omega); (try have g1 : w.heap.size + 1 < w1.heap.size := by omega); (try have g2 : w.heap.size + 2 < w1.heap.size := by omega); (try have gb : b < w1.heap.size := by omega); (try have g3 : w.heap.size + 3 < w1.heap.size := by omega); (try have hbb : Below w.heap.size w w1 := zw); (try obtain ⟨hco, hfo, _⟩ := bcell hbb); (try have hb1 := hb1)) | (go_at_call 95; refine (relem_any _ _).mono ?_; rintro e w1 ⟨rfl, rfl⟩) | (go_at_call 94; refine (rtags_any _ _).mono ?_; rintro e w1 ⟨rfl, rfl⟩) | (go_at_call 88; refine (rahead_any _ hvt _).mono ?_; rintro e w1 ⟨rfl, rfl⟩) | (go_at_call 65; refine (rload_any _ _ _ _ L _ _ _ (D.below zw)).mono ?_; rintro e w1 ⟨rfl, rfl⟩))
                  all_goals go_wp2_with (first | ((first | (go_at_call 16; refine (rmay_any _ _ _ _ L _ _ _ _ _ (D.below zw)).mono ?_) | (go_at_call 104; refine (HTG.out _ (D.below zw)).mono ?_)); rintro e w1 ⟨rfl, hb1⟩; obtain ⟨hc1, hf1, hl1⟩ := bcell hb1; (try simp only [zdz] at hc1 hf1 hl1); have hz1 := hb1.size; (try simp only [zsz] at hz1); (try have g0 : w.heap.size < w1.heap.size := by omega); (try have g1 : w.heap.size + 1 < w1.heap.size := by omega); (try have g2 : w.heap.size + 2 < w1.heap.size := by omega); (try have gb : b < w1.heap.size := by omega); (try have g3 : w.heap.size + 3 < w1.heap.size := by omega); (try have hbb : Below w.heap.size w w1 := zw); (try obtain ⟨hco, hfo, _⟩ := bcell hbb); (try have hb1 := hb1)) | (go_at_call 95; refine (relem_any _ _).mono ?_; rintro e w1 ⟨rfl, rfl⟩) | (go_at_call 94; refine (rtags_any _ _).mono ?_; rintro e w1 ⟨rfl, rfl⟩) | (go_at_call 88; refine (rahead_any _ hvt _).mono ?_; rintro e w1 ⟨rfl, rfl⟩) | (go_at_call 65; refine (rload_any _ _ _ _ L _ _ _ (D.below zw)).mono ?_; rintro e w1 ⟨rfl, rfl⟩))
                  all_goals go_returns
                  all_goals exact ⟨rfl, by exact zw⟩
                | false =>
                  rw [show lcnt L T t k = manyOf t by simp [lcnt, hg, hmm]] at *
                  go_enter Tryz.func92, Tryz.ntmps92
                  go_wp2_with (first | ((first | (go_at_call 16; refine (rmay_any _ _ _ _ L _ _ _ _ _ (D.below zw)).mono ?_) | (go_at_call 104; refine (HTG.out _ (D.below zw)).mono ?_)); rintro e w1 ⟨rfl, hb1⟩; obtain ⟨hc1, hf1, hl1⟩ := bcell hb1; (try simp only [zdz] at hc1 hf1 hl1); have hz1 := hb1.size; (try simp only [zsz] at hz1); (try have g0 : w.heap.size < w1.heap.size := by omega); (try have g1 : w.heap.size + 1 < w1.heap.size := by omega); (try have g2 : w.heap.size + 2 < w1.heap.size := by omega); (try have gb : b < w1.heap.size := by omega); (try have g3 : w.heap.size + 3 < w1.heap.size := by omega); (try have hbb : Below w.heap.size w w1 := zw); (try obtain ⟨hco, hfo, _⟩ := bcell hbb); (try have hb1 := hb1)) | (go_at_call 95; refine (relem_any _ _).mono ?_; rintro e w1 ⟨rfl, rfl⟩) | (go_at_call 94; refine (rtags_any _ _).mono ?_; rintro e w1 ⟨rfl, rfl⟩) | (go_at_call 88; refine (rahead_any _ hvt _).mono ?_; rintro e w1 ⟨rfl, rfl⟩) | (go_at_call 65; refine (rload_any _ _ _ _ L _ _ _ (D.below zw)).mono ?_; rintro e w1 ⟨rfl, rfl⟩))
                  go_region_with (first | ((first | (go_at_call 16; refine (rmay_any _ _ _ _ L _ _ _ _ _ (D.below zw)).mono ?_) | (go_at_call 104; refine (HTG.out _ (D.below zw)).mono ?_)); rintro e w1 ⟨rfl, hb1⟩; obtain ⟨hc1, hf1, hl1⟩ := bcell hb1; (try simp only [zdz] at hc1 hf1 hl1); have hz1 := hb1.size; (try simp only [zsz] at hz1); (try have g0 : w.heap.size < w1.heap.size := by omega); (try have g1 : w.heap.size + 1 < w1.heap.size := by omega); (try have g2 : w.heap.size + 2 < w1.heap.size := by omega); (try have gb : b < w1.heap.size := by omega); (try have g3 : w.heap.size + 3 < w1.heap.size := by omega); (try have hbb : Below w.heap.size w w1 := zw); (try obtain ⟨hco, hfo, _⟩ := bcell hbb); (try have hb1 := hb1)) | (go_at_call 95; refine (relem_any _ _).mono ?_; rintro e w1 ⟨rfl, rfl⟩) | (go_at_call 94; refine (rtags_any _ _).mono ?_; rintro e w1 ⟨rfl, rfl⟩) | (go_at_call 88; refine (rahead_any _ hvt _).mono ?_; rintro e w1 ⟨rfl, rfl⟩) | (go_at_call 65; refine (rload_any _ _ _ _ L _ _ _ (D.below zw)).mono ?_; rintro e w1 ⟨rfl, rfl⟩))
                  all_goals go_wp2_with (first | ((first | (go_at_call 16; refine (rmay_any _ _ _ _ L _ _ _ _ _ (D.below zw)).mono ?_) | (go_at_call 104; refine (HTG.out _ (D.below zw)).mono ?_)); rintro e w1 ⟨rfl, hb1⟩; obtain ⟨hc1, hf1, hl1⟩ := bcell hb1; (try simp only [zdz] at hc1 hf1 hl1); have hz1 := hb1.size; (try simp only [zsz] at hz1); (try have g0 : w.heap.size < w1.heap.size := by omega); (try have g1 : w.heap.size + 1 < w1.heap.size := by omega); (try have g2 : w.heap.size + 2 < w1.heap.size := by omega); (try have gb : b < w1.heap.size := by omega); (try have g3 : w.heap.size + 3 < w1.heap.size := by omega); (try have hbb : Below w.heap.size w w1 := zw); (try obtain ⟨hco, hfo, _⟩ := bcell hbb); (try have hb1 := hb1)) | (go_at_call 95; refine (relem_any _ _).mono ?_; rintro e w1 ⟨rfl, rfl⟩) | (go_at_call 94; refine (rtags_any _ _).mono ?_; rintro e w1 ⟨rfl, rfl⟩) | (go_at_call 88; refine (rahead_any _ hvt _).mono ?_; rintro e w1 ⟨rfl, rfl⟩) | (go_at_call 65; refine (rload_any _ _ _ _ L _ _ _ (D.below zw)).mono ?_; rintro e w1 ⟨rfl, rfl⟩))
                  all_goals go_returns
                  all_goals exact ⟨rfl, by exact zw⟩
            · have hok : ¬ ((n : Int) < lcnt L T t k ∨ (n : Int) < T + lcnt L T t k * eachOf t k) := fun h => hq (HC.out.2 h)
              have e0 : lfindE L p q t k = 0 := by
                simp only [lfindE, hlen, HM.out, HV.out, HT.out, HTT.out, HAL.out, hf, hok, ne_eq, not_true_eq_false, if_false, Bool.true_eq_false]
              have e1 : lFrom L p q t k = T - aheadOf t * k := by simp [lFrom, e0, HTT.out]
              have e2 : lAt L p q t k = T := by simp [lAt, e0, HTT.out]
              have e3 : lTo L p q t k = T + lcnt L T t k * eachOf t k := by simp [lTo, e0, HTT.out]
              have e4 : lCnt L p q t k = lcnt L T t k := by simp [lCnt, e0, HTT.out]
              have d0 : 0 ≤ lcnt L T t k * eachOf t k := Int.mul_nonneg c0 (by have := tagsOf_bd t; unfold eachOf; omega)
              rw [rspan_eq w e0 e1 e2 e3 e4]; clear e0 e1 e2 e3 e4 hlen h1 h2 h3 HC
              simp only [not_or, Int.not_lt] at hok
              obtain ⟨d1, d2⟩ := hok
              cases hg : tagB t with
              | true =>
                obtain ⟨v0, m00, -⟩ := tag_facts hg
                rw [show eachOf t k = k + 1 by simp [eachOf, tagsOf, hg], show lcnt L T t k = loadV L (T - k) k by simp [lcnt, hg]] at *
                go_enter Tryz.func92, Tryz.ntmps92
                go_wp2_with (first | ((first | (go_at_call 16; refine (rmay_any _ _ _ _ L _ _ _ _ _ (D.below zw)).mono ?_) | (go_at_call 104; refine (HTG.out _ (D.below zw)).mono ?_)); rintro e w1 ⟨rfl, hb1⟩; obtain ⟨hc1, hf1, hl1⟩ := bcell hb1; (try simp only [zdz] at hc1 hf1 hl1); have hz1 := hb1.size; (try simp only [zsz] at hz1); (try have g0 : w.heap.size < w1.heap.size := by omega); (try have g1 : w.heap.size + 1 < w1.heap.size := by omega); (try have g2 : w.heap.size + 2 < w1.heap.size := by omega); (try have gb : b < w1.heap.size := by omega); (try have g3 : w.heap.size + 3 < w1.heap.size := by omega); (try have hbb : Below w.heap.size w w1 := zw); (try obtain ⟨hco, hfo, _⟩ := bcell hbb); (try have hb1 := hb1)) | (go_at_call 95; refine (relem_any _ _).mono ?_; rintro e w1 ⟨rfl, rfl⟩) | (go_at_call 94; refine (rtags_any _ _).mono ?_; rintro e w1 ⟨rfl, rfl⟩) | (go_at_call 88; refine (rahead_any _ hvt _).mono ?_; rintro e w1 ⟨rfl, rfl⟩) | (go_at_call 65; refine (rload_any _ _ _ _ L _ _ _ (D.below zw)).mono ?_; rintro e w1 ⟨rfl, rfl⟩))
                go_region_with (first | ((first | (go_at_call 16; refine (rmay_any _ _ _ _ L _ _ _ _ _ (D.below zw)).mono ?_) | (go_at_call 104; refine (HTG.out _ (D.below zw)).mono ?_)); rintro e w1 ⟨rfl, hb1⟩; obtain ⟨hc1, hf1, hl1⟩ := bcell hb1; (try simp only [zdz] at hc1 hf1 hl1); have hz1 := hb1.size; (try simp only [zsz] at hz1); (try have g0 : w.heap.size < w1.heap.size := by omega); (try have g1 : w.heap.size + 1 < w1.heap.size := by omega); (try have g2 : w.heap.size + 2 < w1.heap.size := by omega); (try have gb : b < w1.heap.size := by omega); (try have g3 : w.heap.size + 3 < w1.heap.size := by omega); (try have hbb : Below w.heap.size w w1 := zw); (try obtain ⟨hco, hfo, _⟩ := bcell hbb); (try have hb1 := hb1)) | (go_at_call 95; refine (relem_any _ _).mono ?_; rintro e w1 ⟨rfl, rfl⟩) | (go_at_call 94; refine (rtags_any _ _).mono ?_; rintro e w1 ⟨rfl, rfl⟩) | (go_at_call 88; refine (rahead_any _ hvt _).mono ?_; rintro e w1 ⟨rfl, rfl⟩) | (go_at_call 65; refine (rload_any _ _ _ _ L _ _ _ (D.below zw)).mono ?_; rintro e w1 ⟨rfl, rfl⟩))
                all_goals go_wp2_with (first | ((first | (go_at_call 16; refine (rmay_any _ _ _ _ L _ _ _ _ _ (D.below zw)).mono ?_) | (go_at_call 104; refine (HTG.out _ (D.below zw)).mono ?_)); rintro e w1 ⟨rfl, hb1⟩; obtain ⟨hc1, hf1, hl1⟩ := bcell hb1; (try simp only [zdz] at hc1 hf1 hl1); have hz1 := hb1.size; (try simp only [zsz] at hz1); (try have g0 : w.heap.size < w1.heap.size := by omega); (try have g1 : w.heap.size + 1 < w1.heap.size := by omega); (try have g2 : w.heap.size + 2 < w1.heap.size := by omega); (try have gb : b < w1.heap.size := by omega); (try have g3 : w.heap.size + 3 < w1.heap.size := by omega); (try have hbb : Below w.heap.size w w1 := zw); (try obtain ⟨hco, hfo, _⟩ := bcell hbb); (try have hb1 := hb1)) | (go_at_call 95; refine (relem_any _ _).mono ?_; rintro e w1 ⟨rfl, rfl⟩) | (go_at_call 94; refine (rtags_any _ _).mono ?_; rintro e w1 ⟨rfl, rfl⟩) | (go_at_call 88; refine (rahead_any _ hvt _).mono ?_; rintro e w1 ⟨rfl, rfl⟩) | (go_at_call 65; refine (rload_any _ _ _ _ L _ _ _ (D.below zw)).mono ?_; rintro e w1 ⟨rfl, rfl⟩))
                all_goals go_returns
                all_goals exact ⟨rfl, by exact zw⟩
              | false =>
                have v0 : vecB t = true := by simpa [vectorB, hg] using hvt
                rw [show eachOf t k = k by simp [eachOf, tagsOf, hg]] at *
                cases hmm : (manyOf t == 0) with
                | true =>
                  rw [show lcnt L T t k = loadV L (T - k) k by simp [lcnt, hmm]] at *
                  go_enter Tryz.func92, Tryz.ntmps92
                  go_wp2_with (first | ((first | (go_at_call 16; refine (rmay_any _ _ _ _ L _ _ _ _ _ (D.below zw)).mono ?_) | (go_at_call 104; refine (HTG.out _ (D.below zw)).mono ?_)); rintro e w1 ⟨rfl, hb1⟩; obtain ⟨hc1, hf1, hl1⟩ := bcell hb1; (try simp only [zdz] at hc1 hf1 hl1); have hz1 := hb1.size; (try simp only [zsz] at hz1); (try have g0 : w.heap.size < w1.heap.size := by omega); (try have g1 : w.heap.size + 1 < w1.heap.size := by omega); (try have g2 : w.heap.size + 2 < w1.heap.size := by omega); (try have gb : b < w1.heap.size := by omega); (try have g3 : w.heap.size + 3 < w1.heap.size := by omega); (try have hbb : Below w.heap.size w w1 := zw); (try obtain ⟨hco, hfo, _⟩ := bcell hbb); (try have hb1 := hb1)) | (go_at_call 95; refine (relem_any _ _).mono ?_; rintro e w1 ⟨rfl, rfl⟩) | (go_at_call 94; refine (rtags_any _ _).mono ?_; rintro e w1 ⟨rfl, rfl⟩) | (go_at_call 88; refine (rahead_any _ hvt _).mono ?_; rintro e w1 ⟨rfl, rfl⟩) | (go_at_call 65; refine (rload_any _ _ _ _ L _ _ _ (D.below zw)).mono ?_; rintro e w1 ⟨rfl, rfl⟩))
                  go_region_with (first | ((first | (go_at_call 16; refine (rmay_any _ _ _ _ L _ _ _ _ _ (D.below zw)).mono ?_) | (go_at_call 104; refine (HTG.out _ (D.below zw)).mono ?_)); rintro e w1 ⟨rfl, hb1⟩; obtain ⟨hc1, hf1, hl1⟩ := bcell hb1; (try simp only [zdz] at hc1 hf1 hl1); have hz1 := hb1.size; (try simp only [zsz] at hz1); (try have g0 : w.heap.size < w1.heap.size := by omega); (try have g1 : w.heap.size + 1 < w1.heap.size := by omega); (try have g2 : w.heap.size + 2 < w1.heap.size := by omega); (try have gb : b < w1.heap.size := by omega); (try have g3 : w.heap.size + 3 < w1.heap.size := by omega); (try have hbb : Below w.heap.size w w1 := zw); (try obtain ⟨hco, hfo, _⟩ := bcell hbb); (try have hb1 := hb1)) | (go_at_call 95; refine (relem_any _ _).mono ?_; rintro e w1 ⟨rfl, rfl⟩) | (go_at_call 94; refine (rtags_any _ _).mono ?_; rintro e w1 ⟨rfl, rfl⟩) | (go_at_call 88; refine (rahead_any _ hvt _).mono ?_; rintro e w1 ⟨rfl, rfl⟩) | (go_at_call 65; refine (rload_any _ _ _ _ L _ _ _ (D.below zw)).mono ?_; rintro e w1 ⟨rfl, rfl⟩))
                  all_goals go_wp2_with (first | ((first | (go_at_call 16; refine (rmay_any _ _ _ _ L _ _ _ _ _ (D.below zw)).mono ?_) | (go_at_call 104; refine (HTG.out _ (D.below zw)).mono ?_)); rintro e w1 ⟨rfl, hb1⟩; obtain ⟨hc1, hf1, hl1⟩ := bcell hb1; (try simp only [zdz] at hc1 hf1 hl1); have hz1 := hb1.size; (try simp only [zsz] at hz1); (try have g0 : w.heap.size < w1.heap.size := by omega); (try have g1 : w.heap.size + 1 < w1.heap.size := by omega); (try have g2 : w.heap.size + 2 < w1.heap.size := by omega); (try have gb : b < w1.heap.size := by omega); (try have g3 : w.heap.size + 3 < w1.heap.size := by omega); (try have hbb : Below w.heap.size w w1 := zw); (try obtain ⟨hco, hfo, _⟩ := bcell hbb); (try have hb1 := hb1)) | (go_at_call 95; refine (relem_any _ _).mono ?_; rintro e w1 ⟨rfl, rfl⟩) | (go_at_call 94; refine (rtags_any _ _).mono ?_; rintro e w1 ⟨rfl, rfl⟩) | (go_at_call 88; refine (rahead_any _ hvt _).mono ?_; rintro e w1 ⟨rfl, rfl⟩) | (go_at_call 65; refine (rload_any _ _ _ _ L _ _ _ (D.below zw)).mono ?_; rintro e w1 ⟨rfl, rfl⟩))
                  all_goals go_returns
                  all_goals exact ⟨rfl, by exact zw⟩
                | false =>
                  rw [show lcnt L T t k = manyOf t by simp [lcnt, hg, hmm]] at *
                  go_enter Tryz.func92, Tryz.ntmps92
                  go_wp2_with (first | ((first | (go_at_call 16; refine (rmay_any _ _ _ _ L _ _ _ _ _ (D.below zw)).mono ?_) | (go_at_call 104; refine (HTG.out _ (D.below zw)).mono ?_)); rintro e w1 ⟨rfl, hb1⟩; obtain ⟨hc1, hf1, hl1⟩ := bcell hb1; (try simp only [zdz] at hc1 hf1 hl1); have hz1 := hb1.size; (try simp only [zsz] at hz1); (try have g0 : w.heap.size < w1.heap.size := by omega); (try have g1 : w.heap.size + 1 < w1.heap.size := by omega); (try have g2 : w.heap.size + 2 < w1.heap.size := by omega); (try have gb : b < w1.heap.size := by omega); (try have g3 : w.heap.size + 3 < w1.heap.size := by omega); (try have hbb : Below w.heap.size w w1 := zw); (try obtain ⟨hco, hfo, _⟩ := bcell hbb); (try have hb1 := hb1)) | (go_at_call 95; refine (relem_any _ _).mono ?_; rintro e w1 ⟨rfl, rfl⟩) | (go_at_call 94; refine (rtags_any _ _).mono ?_; rintro e w1 ⟨rfl, rfl⟩) | (go_at_call 88; refine (rahead_any _ hvt _).mono ?_; rintro e w1 ⟨rfl, rfl⟩) | (go_at_call 65; refine (rload_any _ _ _ _ L _ _ _ (D.below zw)).mono ?_; rintro e w1 ⟨rfl, rfl⟩))
                  go_region_with (first | ((first | (go_at_call 16; refine (rmay_any _ _ _ _ L _ _ _ _ _ (D.below zw)).mono ?_) | (go_at_call 104; refine (HTG.out _ (D.below zw)).mono ?_)); rintro e w1 ⟨rfl, hb1⟩; obtain ⟨hc1, hf1, hl1⟩ := bcell hb1; (try simp only [zdz] at hc1 hf1 hl1); have hz1 := hb1.size; (try simp only [zsz] at hz1); (try have g0 : w.heap.size < w1.heap.size := by omega); (try have g1 : w.heap.size + 1 < w1.heap.size := by omega); (try have g2 : w.heap.size + 2 < w1.heap.size := by omega); (try have gb : b < w1.heap.size := by omega); (try have g3 : w.heap.size + 3 < w1.heap.size := by omega); (try have hbb : Below w.heap.size w w1 := zw); (try obtain ⟨hco, hfo, _⟩ := bcell hbb); (try have hb1 := hb1)) | (go_at_call 95; refine (relem_any _ _).mono ?_; rintro e w1 ⟨rfl, rfl⟩) | (go_at_call 94; refine (rtags_any _ _).mono ?_; rintro e w1 ⟨rfl, rfl⟩) | (go_at_call 88; refine (rahead_any _ hvt _).mono ?_; rintro e w1 ⟨rfl, rfl⟩) | (go_at_call 65; refine (rload_any _ _ _ _ L _ _ _ (D.below zw)).mono ?_; rintro e w1 ⟨rfl, rfl⟩))
                  all_goals go_wp2_with (first | ((first | (go_at_call 16; refine (rmay_any _ _ _ _ L _ _ _ _ _ (D.below zw)).mono ?_) | (go_at_call 104; refine (HTG.out _ (D.below zw)).mono ?_)); rintro e w1 ⟨rfl, hb1⟩; obtain ⟨hc1, hf1, hl1⟩ := bcell hb1; (try simp only [zdz] at hc1 hf1 hl1); have hz1 := hb1.size; (try simp only [zsz] at hz1); (try have g0 : w.heap.size < w1.heap.size := by omega); (try have g1 : w.heap.size + 1 < w1.heap.size := by omega); (try have g2 : w.heap.size + 2 < w1.heap.size := by omega); (try have gb : b < w1.heap.size := by omega); (try have g3 : w.heap.size + 3 < w1.heap.size := by omega); (try have hbb : Below w.heap.size w w1 := zw); (try obtain ⟨hco, hfo, _⟩ := bcell hbb); (try have hb1 := hb1)) | (go_at_call 95; refine (relem_any _ _).mono ?_; rintro e w1 ⟨rfl, rfl⟩) | (go_at_call 94; refine (rtags_any _ _).mono ?_; rintro e w1 ⟨rfl, rfl⟩) | (go_at_call 88; refine (rahead_any _ hvt _).mono ?_; rintro e w1 ⟨rfl, rfl⟩) | (go_at_call 65; refine (rload_any _ _ _ _ L _ _ _ (D.below zw)).mono ?_; rintro e w1 ⟨rfl, rfl⟩))
                  all_goals go_returns
                  all_goals exact ⟨rfl, by exact zw⟩
        · have hal1 : (targetV L p q t k % k != 0) = true := by simpa using hal
          have hal2 : (Int.tmod (targetV L p q t k) k != 0) = true := by rw [Int.tmod_eq_emod_of_nonneg g1]; exact hal1
          have e0 : lfindE L p q t k = 212 := by simp [lfindE, hlen, hm, hvt, ht, hal]
          obtain ⟨e1, e2, e3, e4⟩ := rspan_bad e0 (by decide)
          rw [rspan_eq w e0 e1 e2 e3 e4]; clear e0 e1 e2 e3 e4 hlen h1 h2 h3 hal
          cases hg : tagB t with
          | true =>
            obtain ⟨v0, m00, -⟩ := tag_facts hg
            go_enter Tryz.func92, Tryz.ntmps92
            go_wp2_with (first | ((first | (go_at_call 16; refine (rmay_any _ _ _ _ L _ _ _ _ _ (D.below zw)).mono ?_) | (go_at_call 104; refine (rtarget_any _ _ _ _ L _ _ _ _ _ (D.below zw)).mono ?_)); rintro e w1 ⟨rfl, hb1⟩; obtain ⟨hc1, hf1, hl1⟩ := bcell hb1; (try simp only [zdz] at hc1 hf1 hl1); have hz1 := hb1.size; (try simp only [zsz] at hz1); (try have g0 : w.heap.size < w1.heap.size := by omega); (try have g1 : w.heap.size + 1 < w1.heap.size := by omega); (try have g2 : w.heap.size + 2 < w1.heap.size := by omega); (try have gb : b < w1.heap.size := by omega); (try have g3 : w.heap.size + 3 < w1.heap.size := by omega); (try have hbb : Below w.heap.size w w1 := zw); (try obtain ⟨hco, hfo, _⟩ := bcell hbb); (try have hb1 := hb1)) | (go_at_call 95; refine (relem_any _ _).mono ?_; rintro e w1 ⟨rfl, rfl⟩) | (go_at_call 94; refine (rtags_any _ _).mono ?_; rintro e w1 ⟨rfl, rfl⟩) | (go_at_call 88; refine (rahead_any _ hvt _).mono ?_; rintro e w1 ⟨rfl, rfl⟩) | (go_at_call 65; refine (rload_any _ _ _ _ L _ _ _ (D.below zw)).mono ?_; rintro e w1 ⟨rfl, rfl⟩))
            go_returns
            exact ⟨rfl, by exact zw⟩
          | false =>
            have v0 : vecB t = true := by simpa [vectorB, hg] using hvt
            go_enter Tryz.func92, Tryz.ntmps92
            go_wp2_with (first | ((first | (go_at_call 16; refine (rmay_any _ _ _ _ L _ _ _ _ _ (D.below zw)).mono ?_) | (go_at_call 104; refine (rtarget_any _ _ _ _ L _ _ _ _ _ (D.below zw)).mono ?_)); rintro e w1 ⟨rfl, hb1⟩; obtain ⟨hc1, hf1, hl1⟩ := bcell hb1; (try simp only [zdz] at hc1 hf1 hl1); have hz1 := hb1.size; (try simp only [zsz] at hz1); (try have g0 : w.heap.size < w1.heap.size := by omega); (try have g1 : w.heap.size + 1 < w1.heap.size := by omega); (try have g2 : w.heap.size + 2 < w1.heap.size := by omega); (try have gb : b < w1.heap.size := by omega); (try have g3 : w.heap.size + 3 < w1.heap.size := by omega); (try have hbb : Below w.heap.size w w1 := zw); (try obtain ⟨hco, hfo, _⟩ := bcell hbb); (try have hb1 := hb1)) | (go_at_call 95; refine (relem_any _ _).mono ?_; rintro e w1 ⟨rfl, rfl⟩) | (go_at_call 94; refine (rtags_any _ _).mono ?_; rintro e w1 ⟨rfl, rfl⟩) | (go_at_call 88; refine (rahead_any _ hvt _).mono ?_; rintro e w1 ⟨rfl, rfl⟩) | (go_at_call 65; refine (rload_any _ _ _ _ L _ _ _ (D.below zw)).mono ?_; rintro e w1 ⟨rfl, rfl⟩))
            go_returns
            exact ⟨rfl, by exact zw⟩
      · have e0 : lfindE L p q t k = targetE L p q t k := by simp [lfindE, hlen, hm, hvt, ht]
        obtain ⟨e1, e2, e3, e4⟩ := rspan_bad e0 ht
        have ht1 : (targetE L p q t k != 0) = true := by simpa using ht
        rw [rspan_eq w e0 e1 e2 e3 e4]; clear e0 e1 e2 e3 e4 hlen h1 h2 h3 ht
        cases hg : tagB t with
        | true =>
          obtain ⟨v0, m00, -⟩ := tag_facts hg
          go_enter Tryz.func92, Tryz.ntmps92
          go_wp2_with (first | ((first | (go_at_call 16; refine (rmay_any _ _ _ _ L _ _ _ _ _ (D.below zw)).mono ?_) | (go_at_call 104; refine (rtarget_any _ _ _ _ L _ _ _ _ _ (D.below zw)).mono ?_)); rintro e w1 ⟨rfl, hb1⟩; obtain ⟨hc1, hf1, hl1⟩ := bcell hb1; (try simp only [zdz] at hc1 hf1 hl1); have hz1 := hb1.size; (try simp only [zsz] at hz1); (try have g0 : w.heap.size < w1.heap.size := by omega); (try have g1 : w.heap.size + 1 < w1.heap.size := by omega); (try have g2 : w.heap.size + 2 < w1.heap.size := by omega); (try have gb : b < w1.heap.size := by omega); (try have g3 : w.heap.size + 3 < w1.heap.size := by omega); (try have hbb : Below w.heap.size w w1 := zw); (try obtain ⟨hco, hfo, _⟩ := bcell hbb); (try have hb1 := hb1)) | (go_at_call 95; refine (relem_any _ _).mono ?_; rintro e w1 ⟨rfl, rfl⟩) | (go_at_call 94; refine (rtags_any _ _).mono ?_; rintro e w1 ⟨rfl, rfl⟩) | (go_at_call 88; refine (rahead_any _ hvt _).mono ?_; rintro e w1 ⟨rfl, rfl⟩) | (go_at_call 65; refine (rload_any _ _ _ _ L _ _ _ (D.below zw)).mono ?_; rintro e w1 ⟨rfl, rfl⟩))
          go_returns
          exact ⟨rfl, by exact zw⟩
        | false =>
          have v0 : vecB t = true := by simpa [vectorB, hg] using hvt
          go_enter Tryz.func92, Tryz.ntmps92
          go_wp2_with (first | ((first | (go_at_call 16; refine (rmay_any _ _ _ _ L _ _ _ _ _ (D.below zw)).mono ?_) | (go_at_call 104; refine (rtarget_any _ _ _ _ L _ _ _ _ _ (D.below zw)).mono ?_)); rintro e w1 ⟨rfl, hb1⟩; obtain ⟨hc1, hf1, hl1⟩ := bcell hb1; (try simp only [zdz] at hc1 hf1 hl1); have hz1 := hb1.size; (try simp only [zsz] at hz1); (try have g0 : w.heap.size < w1.heap.size := by omega); (try have g1 : w.heap.size + 1 < w1.heap.size := by omega); (try have g2 : w.heap.size + 2 < w1.heap.size := by omega); (try have gb : b < w1.heap.size := by omega); (try have g3 : w.heap.size + 3 < w1.heap.size := by omega); (try have hbb : Below w.heap.size w w1 := zw); (try obtain ⟨hco, hfo, _⟩ := bcell hbb); (try have hb1 := hb1)) | (go_at_call 95; refine (relem_any _ _).mono ?_; rintro e w1 ⟨rfl, rfl⟩) | (go_at_call 94; refine (rtags_any _ _).mono ?_; rintro e w1 ⟨rfl, rfl⟩) | (go_at_call 88; refine (rahead_any _ hvt _).mono ?_; rintro e w1 ⟨rfl, rfl⟩) | (go_at_call 65; refine (rload_any _ _ _ _ L _ _ _ (D.below zw)).mono ?_; rintro e w1 ⟨rfl, rfl⟩))
          go_returns
          exact ⟨rfl, by exact zw⟩
    · have hvt' : vectorB t = false := by simpa using hvt
      have e0 : lfindE L p q t k = 60 := by simp [lfindE, hlen, hm, hvt']
      obtain ⟨e1, e2, e3, e4⟩ := rspan_bad e0 (by decide)
      rw [rspan_eq w e0 e1 e2 e3 e4]; clear e0 e1 e2 e3 e4 hlen h1 h2 h3 hvt
      have v0 : vecB t = false := by cases h : vecB t <;> simp_all [vectorB]
      have g0' : tagB t = false := by cases h : tagB t <;> simp_all [vectorB]
      clear hvt'
      go_enter Tryz.func92, Tryz.ntmps92
      go_wp2_with (first | ((first | (go_at_call 16; refine (rmay_any _ _ _ _ L _ _ _ _ _ (D.below zw)).mono ?_) | (go_at_call 104; refine (rtarget_any _ _ _ _ L _ _ _ _ _ (D.below zw)).mono ?_)); rintro e w1 ⟨rfl, hb1⟩; obtain ⟨hc1, hf1, hl1⟩ := bcell hb1; (try simp only [zdz] at hc1 hf1 hl1); have hz1 := hb1.size; (try simp only [zsz] at hz1); (try have g0 : w.heap.size < w1.heap.size := by omega); (try have g1 : w.heap.size + 1 < w1.heap.size := by omega); (try have g2 : w.heap.size + 2 < w1.heap.size := by omega); (try have gb : b < w1.heap.size := by omega); (try have g3 : w.heap.size + 3 < w1.heap.size := by omega); (try have hbb : Below w.heap.size w w1 := zw); (try obtain ⟨hco, hfo, _⟩ := bcell hbb); (try have hb1 := hb1)) | (go_at_call 95; refine (relem_any _ _).mono ?_; rintro e w1 ⟨rfl, rfl⟩) | (go_at_call 94; refine (rtags_any _ _).mono ?_; rintro e w1 ⟨rfl, rfl⟩) | (go_at_call 65; refine (rload_any _ _ _ _ L _ _ _ (D.below zw)).mono ?_; rintro e w1 ⟨rfl, rfl⟩))
      go_returns
      exact ⟨rfl, by exact zw⟩
  · have e0 : lfindE L p q t k = mayE n p q t k := by simp [lfindE, hlen, hm]
    obtain ⟨e1, e2, e3, e4⟩ := rspan_bad e0 hm
    have hm' : (mayE n p q t k != 0) = true := by simpa using hm
    rw [rspan_eq w e0 e1 e2 e3 e4]; clear e0 e1 e2 e3 e4 hlen hm
    go_enter Tryz.func92, Tryz.ntmps92
    go_wp2_with (first | ((first | (go_at_call 16; refine (rmay_any _ _ _ _ L _ _ _ _ _ (D.below zw)).mono ?_) | (go_at_call 104; refine (rtarget_any _ _ _ _ L _ _ _ _ _ (D.below zw)).mono ?_)); rintro e w1 ⟨rfl, hb1⟩; obtain ⟨hc1, hf1, hl1⟩ := bcell hb1; (try simp only [zdz] at hc1 hf1 hl1); have hz1 := hb1.size; (try simp only [zsz] at hz1); (try have g0 : w.heap.size < w1.heap.size := by omega); (try have g1 : w.heap.size + 1 < w1.heap.size := by omega); (try have g2 : w.heap.size + 2 < w1.heap.size := by omega); (try have gb : b < w1.heap.size := by omega); (try have g3 : w.heap.size + 3 < w1.heap.size := by omega); (try have hbb : Below w.heap.size w w1 := zw); (try obtain ⟨hco, hfo, _⟩ := bcell hbb); (try have hb1 := hb1)) | (go_at_call 95; refine (relem_any _ _).mono ?_; rintro e w1 ⟨rfl, rfl⟩) | (go_at_call 94; refine (rtags_any _ _).mono ?_; rintro e w1 ⟨rfl, rfl⟩) | (go_at_call 65; refine (rload_any _ _ _ _ L _ _ _ (D.below zw)).mono ?_; rintro e w1 ⟨rfl, rfl⟩))
    go_returns
    exact ⟨rfl, by exact zw⟩
end
section
open Go.RowKit
theorem rSpan_any (b o n cap : Nat) (L : List UInt8) (p q t k : Int) (w : World) (D : Doc w b o n cap L) :
    Calls Tryz.prog 69 #[.slice (some ⟨b, o, none⟩) n cap, .agg #[.int .i64 p, .int .i64 q, .int .i64 t, .int .i64 k]] w fun e w' =>
      e = .returned (.tuple #[.int .i64 (lFrom L p q t k), .int .i64 (lAt L p q t k), .int .i64 (lTo L p q t k), .int .i64 (lfindE L p q t k)]) ∧ Below w.heap.size w w' := by
  have hbw := D.lt
  go_enter Tryz.func69, Tryz.ntmps69
  go_wp2_with (go_at_call 92; refine (rspan_any _ _ _ _ L p q t k _ (D.below zw)).mono ?_; rintro e w1 ⟨rfl, hb1⟩; obtain ⟨hc1, hf1, hl1⟩ := bcell hb1; (try simp only [zdz] at hc1 hf1 hl1); have hz1 := hb1.size; (try simp only [zsz] at hz1); (try have g0 : w.heap.size < w1.heap.size := by omega); (try have g1 : w.heap.size + 1 < w1.heap.size := by omega); (try have g2 : w.heap.size + 2 < w1.heap.size := by omega); (try have gb : b < w1.heap.size := by omega); (try have g3 : w.heap.size + 3 < w1.heap.size := by omega); (try have hbb : Below w.heap.size w w1 := zw); (try obtain ⟨hco, hfo, _⟩ := bcell hbb); (try have hb1 := hb1))
  go_returns
  exact ⟨rfl, by exact zw⟩
theorem rLen_any (b o n cap : Nat) (L : List UInt8) (p q t k : Int) (w : World) (D : Doc w b o n cap L) :
    Calls Tryz.prog 70 #[.slice (some ⟨b, o, none⟩) n cap, .agg #[.int .i64 p, .int .i64 q, .int .i64 t, .int .i64 k]] w fun e w' =>
      e = .returned (.tuple #[.int .i64 (lCnt L p q t k), .int .i64 (lfindE L p q t k)]) ∧ Below w.heap.size w w' := by
  have hbw := D.lt
  go_enter Tryz.func70, Tryz.ntmps70
  go_wp2_with (go_at_call 92; refine (rspan_any _ _ _ _ L p q t k _ (D.below zw)).mono ?_; rintro e w1 ⟨rfl, hb1⟩; obtain ⟨hc1, hf1, hl1⟩ := bcell hb1; (try simp only [zdz] at hc1 hf1 hl1); have hz1 := hb1.size; (try simp only [zsz] at hz1); (try have g0 : w.heap.size < w1.heap.size := by omega); (try have g1 : w.heap.size + 1 < w1.heap.size := by omega); (try have g2 : w.heap.size + 2 < w1.heap.size := by omega); (try have gb : b < w1.heap.size := by omega); (try have g3 : w.heap.size + 3 < w1.heap.size := by omega); (try have hbb : Below w.heap.size w w1 := zw); (try obtain ⟨hco, hfo, _⟩ := bcell hbb); (try have hb1 := hb1))
  go_returns
  exact ⟨rfl, by exact zw⟩
set_option maxHeartbeats 4000000 in
theorem rAt_any (b o n cap : Nat) (L : List UInt8) (p q t k i : Int) (w : World) (D : Doc w b o n cap L) :
    Calls Tryz.prog 72 #[.slice (some ⟨b, o, none⟩) n cap, .agg #[.int .i64 p, .int .i64 q, .int .i64 t, .int .i64 k], .int .i64 i] w fun e w' =>
      e = .returned (.tuple #[latV L p q t k i, .int .i64 (latE L p q t k i)]) ∧ Below w.heap.size w w' := by
  obtain ⟨hn1, hn2⟩ := D.bd
  have hlen := D.len
  have hle := D.le
  have hbw := D.lt
  by_cases he : lfindE L p q t k = 0
  · obtain ⟨g0, -, g1, -, g2, g3, g4, g5, g6, -, -⟩ := lfindE_zero he
    obtain ⟨-, -, -, -, -, -, k1, k8, -⟩ := mayE_zero (targetE_zero g0).1
    rw [hlen] at g4 g5
    by_cases hi : i < 0 ∨ lCnt L p q t k ≤ i
    · have e1 : latE L p q t k i = 6 := by simp [latE, he, hi]
      rw [lat_bad e1 (by decide), e1]; clear e1 hlen g0
      by_cases hi0 : i < 0
      · clear hi
        go_enter Tryz.func72, Tryz.ntmps72
        go_wp2_with (first | (go_at_call 92; refine (rspan_any _ _ _ _ L p q t k _ (D.below zw)).mono ?_; rintro e w1 ⟨rfl, hb1⟩; obtain ⟨hc1, hf1, hl1⟩ := bcell hb1; (try simp only [zdz] at hc1 hf1 hl1); have hz1 := hb1.size; (try simp only [zsz] at hz1); (try have g0 : w.heap.size < w1.heap.size := by omega); (try have g1 : w.heap.size + 1 < w1.heap.size := by omega); (try have g2 : w.heap.size + 2 < w1.heap.size := by omega); (try have gb : b < w1.heap.size := by omega); (try have g3 : w.heap.size + 3 < w1.heap.size := by omega); (try have hbb : Below w.heap.size w w1 := zw); (try obtain ⟨hco, hfo, _⟩ := bcell hbb); (try have hb1 := hb1)) | (go_at_call 94; refine (rtags_any _ _).mono ?_; rintro e w1 ⟨rfl, rfl⟩) | (go_at_call 95; refine (relem_any _ _).mono ?_; rintro e w1 ⟨rfl, rfl⟩) | (go_at_call 50; refine (runpack_any _ _).mono ?_; rintro e w1 ⟨rfl, rfl⟩))
        (refine bodyPost_ret (v := .tuple #[.agg #[.int .i64 0, .int .i64 0, .int .i64 0, .int .i64 0], .int .i64 6]) (by simp [results, Tryz.results72, go_sem, *]) rfl ?_)
        exact ⟨rfl, by exact zw⟩
      · have hi1 : lCnt L p q t k ≤ i := by omega
        clear hi
        go_enter Tryz.func72, Tryz.ntmps72
        go_wp2_with (first | (go_at_call 92; refine (rspan_any _ _ _ _ L p q t k _ (D.below zw)).mono ?_; rintro e w1 ⟨rfl, hb1⟩; obtain ⟨hc1, hf1, hl1⟩ := bcell hb1; (try simp only [zdz] at hc1 hf1 hl1); have hz1 := hb1.size; (try simp only [zsz] at hz1); (try have g0 : w.heap.size < w1.heap.size := by omega); (try have g1 : w.heap.size + 1 < w1.heap.size := by omega); (try have g2 : w.heap.size + 2 < w1.heap.size := by omega); (try have gb : b < w1.heap.size := by omega); (try have g3 : w.heap.size + 3 < w1.heap.size := by omega); (try have hbb : Below w.heap.size w w1 := zw); (try obtain ⟨hco, hfo, _⟩ := bcell hbb); (try have hb1 := hb1)) | (go_at_call 94; refine (rtags_any _ _).mono ?_; rintro e w1 ⟨rfl, rfl⟩) | (go_at_call 95; refine (relem_any _ _).mono ?_; rintro e w1 ⟨rfl, rfl⟩) | (go_at_call 50; refine (runpack_any _ _).mono ?_; rintro e w1 ⟨rfl, rfl⟩))
        (refine bodyPost_ret (v := .tuple #[.agg #[.int .i64 0, .int .i64 0, .int .i64 0, .int .i64 0], .int .i64 6]) (by simp [results, Tryz.results72, go_sem, *]) rfl ?_)
        exact ⟨rfl, by exact zw⟩
    · have hi0 : ¬ i < 0 := by omega
      have hi1 : i < lCnt L p q t k := by omega
      have x0 : 0 ≤ i * k := Int.mul_nonneg (by omega) (by omega)
      have x1 : i * k ≤ 1073741824 * 8 := Int.mul_le_mul (by omega) k8 (by omega) (by omega)
      have y0 : 0 ≤ lCnt L p q t k * k := Int.mul_nonneg g3 (by omega)
      have ht := tagsOf_bd t
      have y1 : lCnt L p q t k * k + lCnt L p q t k * tagsOf t = lCnt L p q t k * (k + tagsOf t) := by rw [Int.mul_add]
      have y2 : 0 ≤ lCnt L p q t k * tagsOf t := Int.mul_nonneg g3 ht.1
      have y3 : lCnt L p q t k * k ≤ n := by omega
      have g7 : lAt L p q t k ≤ n := by omega
      cases hg : tagB t with
      | false =>
        have e1 : latE L p q t k i = 0 := by simp [latE, he, hi, hg]
        have e2 : latV L p q t k i = .agg #[.int .i64 (lAt L p q t k + i * k), .int .i64 k, .int .i64 (elemOf t), .int .i64 k] := by
          simp [latV, latP, latQ, latT, latW, e1, hg]
        rw [e2, e1]; clear e1 e2 hlen hi y1 g0
        go_enter Tryz.func72, Tryz.ntmps72
        go_wp2_with (first | (go_at_call 92; refine (rspan_any _ _ _ _ L p q t k _ (D.below zw)).mono ?_; rintro e w1 ⟨rfl, hb1⟩; obtain ⟨hc1, hf1, hl1⟩ := bcell hb1; (try simp only [zdz] at hc1 hf1 hl1); have hz1 := hb1.size; (try simp only [zsz] at hz1); (try have g0 : w.heap.size < w1.heap.size := by omega); (try have g1 : w.heap.size + 1 < w1.heap.size := by omega); (try have g2 : w.heap.size + 2 < w1.heap.size := by omega); (try have gb : b < w1.heap.size := by omega); (try have g3 : w.heap.size + 3 < w1.heap.size := by omega); (try have hbb : Below w.heap.size w w1 := zw); (try obtain ⟨hco, hfo, _⟩ := bcell hbb); (try have hb1 := hb1)) | (go_at_call 94; refine (rtags_any _ _).mono ?_; rintro e w1 ⟨rfl, rfl⟩) | (go_at_call 95; refine (relem_any _ _).mono ?_; rintro e w1 ⟨rfl, rfl⟩) | (go_at_call 50; refine (runpack_any _ _).mono ?_; rintro e w1 ⟨rfl, rfl⟩))
        (refine bodyPost_ret (v := .tuple #[.agg #[.int .i64 (lAt L p q t k + i * k), .int .i64 k, .int .i64 (elemOf t), .int .i64 k], .int .i64 0]) (by simp [results, Tryz.results72, go_sem, *]) rfl ?_)
        exact ⟨rfl, by exact zw⟩
      | true =>
        have ht1 : tagsOf t = 1 := by simp [tagsOf, hg]
        rw [ht1] at y1 g5
        have hin : lAt L p q t k + lCnt L p q t k * k + i < n := by omega
        have hb := D.byte (lAt L p q t k + lCnt L p q t k * k + i).toNat (by omega)
        have hyy : L.getD (lAt L p q t k + lCnt L p q t k * k + i).toNat 0 = tagY L p q t k i := rfl
        rw [hyy] at hb
        clear hyy
        have hge : 0 ≤ lAt L p q t k + lCnt L p q t k * k + i := by omega
        cases hl : legalB (((tagY L p q t k i).toNat : Int) / 4) with
        | true =>
          have u1 : unpackE (tagY L p q t k i) = 0 := by simp [unpackE, hl]
          have e1 : latE L p q t k i = 0 := by simp [latE, he, hi, hg, u1]
          have e2 : latV L p q t k i = .agg #[.int .i64 (lAt L p q t k + i * k), .int .i64 k, .int .i64 (unpackT (tagY L p q t k i)), .int .i64 (unpackW (tagY L p q t k i))] := by
            simp [latV, latP, latQ, latT, latW, e1, hg]
          rw [e2, e1]; clear e1 e2 hlen hi y1 g0 hl
          go_enter Tryz.func72, Tryz.ntmps72
          go_wp2_with (first | (go_at_call 92; refine (rspan_any _ _ _ _ L p q t k _ (D.below zw)).mono ?_; rintro e w1 ⟨rfl, hb1⟩; obtain ⟨hc1, hf1, hl1⟩ := bcell hb1; (try simp only [zdz] at hc1 hf1 hl1); have hz1 := hb1.size; (try simp only [zsz] at hz1); (try have g0 : w.heap.size < w1.heap.size := by omega); (try have g1 : w.heap.size + 1 < w1.heap.size := by omega); (try have g2 : w.heap.size + 2 < w1.heap.size := by omega); (try have gb : b < w1.heap.size := by omega); (try have g3 : w.heap.size + 3 < w1.heap.size := by omega); (try have hbb : Below w.heap.size w w1 := zw); (try obtain ⟨hco, hfo, _⟩ := bcell hbb); (try have hb1 := hb1)) | (go_at_call 94; refine (rtags_any _ _).mono ?_; rintro e w1 ⟨rfl, rfl⟩) | (go_at_call 95; refine (relem_any _ _).mono ?_; rintro e w1 ⟨rfl, rfl⟩) | (go_at_call 50; refine (runpack_any _ _).mono ?_; rintro e w1 ⟨rfl, rfl⟩))
          (refine bodyPost_ret (v := .tuple #[.agg #[.int .i64 (lAt L p q t k + i * k), .int .i64 k, .int .i64 (unpackT (tagY L p q t k i)), .int .i64 (unpackW (tagY L p q t k i))], .int .i64 0]) (by simp [results, Tryz.results72, go_sem, *]) rfl ?_)
          exact ⟨rfl, by exact zw⟩
        | false =>
          have u1 : unpackE (tagY L p q t k i) = 20 := by simp [unpackE, hl]
          have e1 : latE L p q t k i = 20 := by simp [latE, he, hi, hg, u1]
          rw [lat_bad e1 (by decide), e1]; clear e1 hlen hi y1 g0 hl
          go_enter Tryz.func72, Tryz.ntmps72
          go_wp2_with (first | (go_at_call 92; refine (rspan_any _ _ _ _ L p q t k _ (D.below zw)).mono ?_; rintro e w1 ⟨rfl, hb1⟩; obtain ⟨hc1, hf1, hl1⟩ := bcell hb1; (try simp only [zdz] at hc1 hf1 hl1); have hz1 := hb1.size; (try simp only [zsz] at hz1); (try have g0 : w.heap.size < w1.heap.size := by omega); (try have g1 : w.heap.size + 1 < w1.heap.size := by omega); (try have g2 : w.heap.size + 2 < w1.heap.size := by omega); (try have gb : b < w1.heap.size := by omega); (try have g3 : w.heap.size + 3 < w1.heap.size := by omega); (try have hbb : Below w.heap.size w w1 := zw); (try obtain ⟨hco, hfo, _⟩ := bcell hbb); (try have hb1 := hb1)) | (go_at_call 94; refine (rtags_any _ _).mono ?_; rintro e w1 ⟨rfl, rfl⟩) | (go_at_call 95; refine (relem_any _ _).mono ?_; rintro e w1 ⟨rfl, rfl⟩) | (go_at_call 50; refine (runpack_any _ _).mono ?_; rintro e w1 ⟨rfl, rfl⟩))
          (refine bodyPost_ret (v := .tuple #[.agg #[.int .i64 0, .int .i64 0, .int .i64 0, .int .i64 0], .int .i64 20]) (by simp [results, Tryz.results72, go_sem, *]) rfl ?_)
          exact ⟨rfl, by exact zw⟩
  · have e1 : latE L p q t k i = lfindE L p q t k := by simp [latE, he]
    have he1 : (lfindE L p q t k != 0) = true := by simpa using he
    rw [lat_bad e1 he, e1]; clear e1 hlen he
    go_enter Tryz.func72, Tryz.ntmps72
    go_wp2_with (first | (go_at_call 92; refine (rspan_any _ _ _ _ L p q t k _ (D.below zw)).mono ?_; rintro e w1 ⟨rfl, hb1⟩; obtain ⟨hc1, hf1, hl1⟩ := bcell hb1; (try simp only [zdz] at hc1 hf1 hl1); have hz1 := hb1.size; (try simp only [zsz] at hz1); (try have g0 : w.heap.size < w1.heap.size := by omega); (try have g1 : w.heap.size + 1 < w1.heap.size := by omega); (try have g2 : w.heap.size + 2 < w1.heap.size := by omega); (try have gb : b < w1.heap.size := by omega); (try have g3 : w.heap.size + 3 < w1.heap.size := by omega); (try have hbb : Below w.heap.size w w1 := zw); (try obtain ⟨hco, hfo, _⟩ := bcell hbb); (try have hb1 := hb1)) | (go_at_call 94; refine (rtags_any _ _).mono ?_; rintro e w1 ⟨rfl, rfl⟩) | (go_at_call 95; refine (relem_any _ _).mono ?_; rintro e w1 ⟨rfl, rfl⟩) | (go_at_call 50; refine (runpack_any _ _).mono ?_; rintro e w1 ⟨rfl, rfl⟩))
    (refine bodyPost_ret (v := .tuple #[.agg #[.int .i64 0, .int .i64 0, .int .i64 0, .int .i64 0], .int .i64 (lfindE L p q t k)]) (by simp [results, Tryz.results72, go_sem, *]) rfl ?_)
    exact ⟨rfl, by exact zw⟩
end
section
open Go.RowKit
/-- ahead. -/
def refB (t : Int) : Bool := t == 4 || t == 5 || t == 25 || t == 6 || t == 7 || vectorB t
def raheadV (t k : Int) : Int := if t = 5 ∨ t = 25 then k else if t = 4 ∨ t = 6 ∨ t = 7 then 0 else aheadOf t * k
theorem rahead26 (p q t k : Int) (w : World) (h : refB t = true) (hk : 1 ≤ k) (hk8 : k ≤ 8) :
    Calls Tryz.prog 66 #[.agg #[.int .i64 p, .int .i64 q, .int .i64 t, .int .i64 k]] w fun e w' => e = .returned (.int .i64 (raheadV t k)) ∧ Below w.heap.size w w' := by
  by_cases h5 : t = 5 ∨ t = 25
  · rw [show raheadV t k = k by simp [raheadV, h5]]
    clear h
    rcases h5 with rfl | rfl
    all_goals go_enter Tryz.func66, Tryz.ntmps66
    all_goals go_wp2
    all_goals go_returns
    all_goals exact ⟨rfl, by exact zw⟩
  · by_cases h4 : t = 4 ∨ t = 6 ∨ t = 7
    · rw [show raheadV t k = 0 by simp [raheadV, h5, h4]]
      clear h h5
      rcases h4 with rfl | rfl | rfl
      all_goals go_enter Tryz.func66, Tryz.ntmps66
      all_goals go_wp2
      all_goals go_returns
      all_goals exact ⟨rfl, by exact zw⟩
    · rw [show raheadV t k = aheadOf t * k by simp [raheadV, h5, h4]]
      have hv : vectorB t = true := by
        simp only [refB, Bool.or_eq_true, beq_iff_eq] at h
        rcases h with h | h
        · omega
        · exact h
      have hb := manyOf_bd t
      have ha : 0 ≤ aheadOf t ∧ aheadOf t ≤ 3 := by unfold aheadOf; split <;> (try split) <;> (try split) <;> (try split) <;> omega
      have x0 : 0 ≤ aheadOf t * k := Int.mul_nonneg ha.1 (by omega)
      have x1 : aheadOf t * k ≤ 3 * 8 := Int.mul_le_mul ha.2 hk8 (by omega) (by omega)
      have hw : IntKind.i64.wrap (aheadOf t * k) = aheadOf t * k := IntWalk.i64_in _ (by omega)
      have e5 : (t == 5) = false := by simp; omega
      have e25 : (t == 25) = false := by simp; omega
      have e4 : (t == 4) = false := by simp; omega
      have e6 : (t == 6) = false := by simp; omega
      have e7 : (t == 7) = false := by simp; omega
      clear h h5 h4 hb ha x0 x1
      go_enter Tryz.func66, Tryz.ntmps66
      go_wp2
      go_region_with ((go_at_call 88; refine (rahead_any _ hv _).mono ?_; rintro e w1 ⟨rfl, rfl⟩))
      all_goals go_wp2
      all_goals go_returns
      all_goals exact ⟨rfl, by exact zw⟩
theorem rahead_begins {t : Int} (h : refB t = true) (k a : Int) : beginsV t k a = a - raheadV t k := by
  unfold beginsV raheadV
  by_cases h5 : t = 5 ∨ t = 25
  · rcases h5 with rfl | rfl <;> simp
  · by_cases h4 : t = 4 ∨ t = 6 ∨ t = 7
    · rcases h4 with rfl | rfl | rfl <;> simp [vecB, isOf, kindOf, kindsTab]
    · have hv : vectorB t = true := by
        simp only [refB, Bool.or_eq_true, beq_iff_eq] at h
        rcases h with h | h
        · omega
        · exact h
      rw [if_neg h5, if_neg h4]
      unfold vectorB tagB at hv
      unfold aheadOf
      have hb := manyOf_bd t
      have e5 : (t == 5) = false := by simp; omega
      have e25 : (t == 25) = false := by simp; omega
      by_cases t9 : t = 9
      · subst t9; simp
      · by_cases t10 : t = 10
        · subst t10; simp
        · have e9 : (t == 9) = false := by simpa using t9
          have e10 : (t == 10) = false := by simpa using t10
          simp only [e9, e10, Bool.or_false, Bool.false_or] at hv
          simp only [e9, e10, e5, e25, hv, Bool.false_or, Bool.true_and, Bool.false_eq_true, if_false, if_true]
          by_cases hm : manyOf t = 0
          · simp [hm]
          · have : 0 < manyOf t := by omega
            simp [hm, this]
theorem refB_of {t : Int} (h : legalB t = true) (hi : inlineB t = false) : refB t = true := by
  obtain ⟨h0, h1⟩ := kindOf_in h
  have h37 : t = 0 ∨ t = 1 ∨ t = 2 ∨ t = 3 ∨ t = 4 ∨ t = 5 ∨ t = 6 ∨ t = 7 ∨ t = 8 ∨ t = 9 ∨ t = 10 ∨ t = 11 ∨ t = 12 ∨ t = 13 ∨ t = 14 ∨ t = 15 ∨ t = 16 ∨ t = 17 ∨ t = 18 ∨ t = 19 ∨ t = 20 ∨ t = 21 ∨ t = 22 ∨ t = 23 ∨ t = 24 ∨ t = 25 ∨ t = 26 ∨ t = 27 ∨ t = 28 ∨ t = 29 ∨ t = 30 ∨ t = 31 ∨ t = 32 ∨ t = 33 ∨ t = 34 ∨ t = 35 ∨ t = 36 := by omega
  rcases h37 with rfl | rfl | rfl | rfl | rfl | rfl | rfl | rfl | rfl | rfl | rfl | rfl | rfl | rfl | rfl | rfl | rfl | rfl | rfl | rfl | rfl | rfl | rfl | rfl | rfl | rfl | rfl | rfl | rfl | rfl | rfl | rfl | rfl | rfl | rfl | rfl | rfl
  all_goals first | rfl | (revert h hi; decide)
end
end Go.Proofs.YtmpflnlajakibaaGreat
