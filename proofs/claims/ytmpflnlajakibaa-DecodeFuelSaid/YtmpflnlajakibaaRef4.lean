/- The reference's scalar Place. -/
import Derived.Test.YtmpflnlajakibaaA8
import Derived.Test.YtmpflnlajakibaaAa
namespace Go.Proofs.Ytmpflnlajakibaa
set_option linter.unusedVariables false
set_option linter.unusedSimpArgs false
open Go.RowKit
theorem scal_split {t : Int} (h : legalB t = true) : scalB t = (inlineB t || t == 6 || t == 7) := by
  obtain ⟨h0, h1⟩ := kindOf_in h
  have h37 : t = 0 ∨ t = 1 ∨ t = 2 ∨ t = 3 ∨ t = 4 ∨ t = 5 ∨ t = 6 ∨ t = 7 ∨ t = 8 ∨ t = 9 ∨ t = 10 ∨ t = 11 ∨ t = 12 ∨ t = 13 ∨ t = 14 ∨ t = 15 ∨ t = 16 ∨ t = 17 ∨ t = 18 ∨ t = 19 ∨ t = 20 ∨ t = 21 ∨ t = 22 ∨ t = 23 ∨ t = 24 ∨ t = 25 ∨ t = 26 ∨ t = 27 ∨ t = 28 ∨ t = 29 ∨ t = 30 ∨ t = 31 ∨ t = 32 ∨ t = 33 ∨ t = 34 ∨ t = 35 ∨ t = 36 := by omega
  rcases h37 with rfl | rfl | rfl | rfl | rfl | rfl | rfl | rfl | rfl | rfl | rfl | rfl | rfl | rfl | rfl | rfl | rfl | rfl | rfl | rfl | rfl | rfl | rfl | rfl | rfl | rfl | rfl | rfl | rfl | rfl | rfl | rfl | rfl | rfl | rfl | rfl | rfl
  all_goals first | rfl | (revert h; decide)
set_option maxHeartbeats 2000000 in
theorem rsplace_any (b o n cap : Nat) (L : List UInt8) (p q t k : Int) (w : World) (D : Doc w b o n cap L) :
    Calls Try.prog 56 #[.slice (some ⟨b, o, none⟩) n cap, .agg #[.int .i64 p, .int .i64 q, .int .i64 t, .int .i64 k]] w fun e w' =>
      e = .returned (.tuple #[.int .i64 (splaceA L p q t k), .int .i64 (splaceW L p q t k), .int .i64 (splaceE L p q t k)]) ∧ Below w.heap.size w w' := by
  obtain ⟨hn1, hn2⟩ := D.bd
  have hmax : n ≤ maxLen := by have := D.max; have := D.le; omega
  have hlen := D.len
  have hbw := D.lt
  by_cases hm : mayE n p q t k = 0
  · obtain ⟨h1, h2, h3, h4, h5, h6, h7, h8, h9⟩ := mayE_zero hm
    have hsp := scal_split h1
    by_cases hi : inlineB t = true
    · have hs : scalB t = true := by rw [hsp, hi]; rfl
      have e1 : splaceE L p q t k = 0 := by simp [splaceE, hlen, hm, hs, hi]
      have e2 : splaceA L p q t k = p := by simp [splaceA, e1, hi]
      have e3 : splaceW L p q t k = q := by simp [splaceW, e1, hi]
      rw [e1, e2, e3]; clear e1 e2 e3 hlen h1 h2 h3 hsp hs
      go_enter Try.func56, Try.ntmps56
      go_wp2_with (first | (go_at_call 89; refine (rmay_any _ _ _ _ L _ _ _ _ _ (D.below zw)).mono ?_; rintro e w1 ⟨rfl, hb1⟩; obtain ⟨hc1, hf1, hl1⟩ := bcell hb1; (try simp only [zdz] at hc1 hf1 hl1); have hz1 := hb1.size; (try simp only [zsz] at hz1); (try have g0 : w.heap.size < w1.heap.size := by omega); (try have g1 : w.heap.size + 1 < w1.heap.size := by omega); (try have g2 : w.heap.size + 2 < w1.heap.size := by omega); (try have gb : b < w1.heap.size := by omega); (try have g3 : w.heap.size + 3 < w1.heap.size := by omega); (try have hbb : Below w.heap.size w w1 := zw); (try obtain ⟨hco, hfo, _⟩ := bcell hbb); (try have hb1 := hb1)) | (go_at_call 53; refine (rinline_any _ _).mono ?_; rintro e w1 ⟨rfl, rfl⟩))
      go_region
      all_goals go_wp2
      all_goals go_returns
      all_goals exact ⟨rfl, by exact zw⟩
    have hi' : inlineB t = false := by simpa using hi
    clear hi
    by_cases hs : scalB t = false
    · have e1 : splaceE L p q t k = 60 := by simp [splaceE, hlen, hm, hs]
      obtain ⟨e2, e3⟩ := splace_bad e1 (by decide)
      rw [hs, hi'] at hsp
      have t6 : (t != 6) = true := by cases h : (t == 6) <;> simp_all
      have t7 : (t != 7) = true := by cases h : (t == 7) <;> simp_all
      rw [e1, e2, e3]; clear e1 e2 e3 hlen h1 h2 h3 hsp hs
      go_enter Try.func56, Try.ntmps56
      go_wp2_with (first | (go_at_call 89; refine (rmay_any _ _ _ _ L _ _ _ _ _ (D.below zw)).mono ?_; rintro e w1 ⟨rfl, hb1⟩; obtain ⟨hc1, hf1, hl1⟩ := bcell hb1; (try simp only [zdz] at hc1 hf1 hl1); have hz1 := hb1.size; (try simp only [zsz] at hz1); (try have g0 : w.heap.size < w1.heap.size := by omega); (try have g1 : w.heap.size + 1 < w1.heap.size := by omega); (try have g2 : w.heap.size + 2 < w1.heap.size := by omega); (try have gb : b < w1.heap.size := by omega); (try have g3 : w.heap.size + 3 < w1.heap.size := by omega); (try have hbb : Below w.heap.size w w1 := zw); (try obtain ⟨hco, hfo, _⟩ := bcell hbb); (try have hb1 := hb1)) | (go_at_call 53; refine (rinline_any _ _).mono ?_; rintro e w1 ⟨rfl, rfl⟩))
      go_returns
      exact ⟨rfl, by exact zw⟩
    have hs' : scalB t = true := by simpa using hs
    have h67 : t = 6 ∨ t = 7 := by
      rw [hs', hi'] at hsp
      by_cases h6 : t = 6
      · exact .inl h6
      · right; by_cases h7 : t = 7
        · exact h7
        · have a6 : (t == 6) = false := by simpa using h6
          have a7 : (t == 7) = false := by simpa using h7
          rw [a6, a7] at hsp; cases hsp
    clear hsp hs
    by_cases ht' : targetE L p q t k = 0
    · obtain ⟨-, -, g1, g2⟩ := targetE_zero ht'
      by_cases hal : targetV L p q t k % k = 0
      · have hal1 : (targetV L p q t k % k != 0) = false := by simpa using hal
        cases hn : insideB n (targetV L p q t k) k with
        | false =>
          have e1 : splaceE L p q t k = 211 := by simp [splaceE, hlen, hm, hs', hi', ht', hal, hn]
          obtain ⟨e2, e3⟩ := splace_bad e1 (by decide)
          rw [e1, e2, e3]; clear e1 e2 e3 hlen h1 h2 h3 hal hs'
          rcases h67 with rfl | rfl
          all_goals go_enter Try.func56, Try.ntmps56
          all_goals go_wp2_with (first | ((first | (go_at_call 89; refine (rmay_any _ _ _ _ L _ _ _ _ _ (D.below zw)).mono ?_) | (go_at_call 90; refine (rtarget_any _ _ _ _ L _ _ _ _ _ (D.below zw)).mono ?_)); rintro e w1 ⟨rfl, hb1⟩; obtain ⟨hc1, hf1, hl1⟩ := bcell hb1; (try simp only [zdz] at hc1 hf1 hl1); have hz1 := hb1.size; (try simp only [zsz] at hz1); (try have g0 : w.heap.size < w1.heap.size := by omega); (try have g1 : w.heap.size + 1 < w1.heap.size := by omega); (try have g2 : w.heap.size + 2 < w1.heap.size := by omega); (try have gb : b < w1.heap.size := by omega); (try have g3 : w.heap.size + 3 < w1.heap.size := by omega); (try have hbb : Below w.heap.size w w1 := zw); (try obtain ⟨hco, hfo, _⟩ := bcell hbb); (try have hb1 := hb1)) | (go_at_call 53; refine (rinline_any _ _).mono ?_; rintro e w1 ⟨rfl, rfl⟩) | (go_at_call 91; refine (rinside_any _ _ _ hmax _ _ _).mono ?_; rintro e w1 ⟨rfl, rfl⟩))
          all_goals go_returns
          all_goals exact ⟨rfl, by exact zw⟩
        | true =>
          have e1 : splaceE L p q t k = 0 := by simp [splaceE, hlen, hm, hs', hi', ht', hal, hn]
          have e2 : splaceA L p q t k = targetV L p q t k := by simp [splaceA, e1, hi']
          have e3 : splaceW L p q t k = k := by simp [splaceW, e1, hi']
          rw [e1, e2, e3]; clear e1 e2 e3 hlen h1 h2 h3 hal hs'
          rcases h67 with rfl | rfl
          all_goals go_enter Try.func56, Try.ntmps56
          all_goals go_wp2_with (first | ((first | (go_at_call 89; refine (rmay_any _ _ _ _ L _ _ _ _ _ (D.below zw)).mono ?_) | (go_at_call 90; refine (rtarget_any _ _ _ _ L _ _ _ _ _ (D.below zw)).mono ?_)); rintro e w1 ⟨rfl, hb1⟩; obtain ⟨hc1, hf1, hl1⟩ := bcell hb1; (try simp only [zdz] at hc1 hf1 hl1); have hz1 := hb1.size; (try simp only [zsz] at hz1); (try have g0 : w.heap.size < w1.heap.size := by omega); (try have g1 : w.heap.size + 1 < w1.heap.size := by omega); (try have g2 : w.heap.size + 2 < w1.heap.size := by omega); (try have gb : b < w1.heap.size := by omega); (try have g3 : w.heap.size + 3 < w1.heap.size := by omega); (try have hbb : Below w.heap.size w w1 := zw); (try obtain ⟨hco, hfo, _⟩ := bcell hbb); (try have hb1 := hb1)) | (go_at_call 53; refine (rinline_any _ _).mono ?_; rintro e w1 ⟨rfl, rfl⟩) | (go_at_call 91; refine (rinside_any _ _ _ hmax _ _ _).mono ?_; rintro e w1 ⟨rfl, rfl⟩))
          all_goals go_region
          all_goals go_wp2
          all_goals go_returns
          all_goals exact ⟨rfl, by exact zw⟩
      · have hal1 : (targetV L p q t k % k != 0) = true := by simpa using hal
        have e1 : splaceE L p q t k = 212 := by simp [splaceE, hlen, hm, hs', hi', ht', hal]
        obtain ⟨e2, e3⟩ := splace_bad e1 (by decide)
        rw [e1, e2, e3]; clear e1 e2 e3 hlen h1 h2 h3 hal hs'
        rcases h67 with rfl | rfl
        all_goals go_enter Try.func56, Try.ntmps56
        all_goals go_wp2_with (first | ((first | (go_at_call 89; refine (rmay_any _ _ _ _ L _ _ _ _ _ (D.below zw)).mono ?_) | (go_at_call 90; refine (rtarget_any _ _ _ _ L _ _ _ _ _ (D.below zw)).mono ?_)); rintro e w1 ⟨rfl, hb1⟩; obtain ⟨hc1, hf1, hl1⟩ := bcell hb1; (try simp only [zdz] at hc1 hf1 hl1); have hz1 := hb1.size; (try simp only [zsz] at hz1); (try have g0 : w.heap.size < w1.heap.size := by omega); (try have g1 : w.heap.size + 1 < w1.heap.size := by omega); (try have g2 : w.heap.size + 2 < w1.heap.size := by omega); (try have gb : b < w1.heap.size := by omega); (try have g3 : w.heap.size + 3 < w1.heap.size := by omega); (try have hbb : Below w.heap.size w w1 := zw); (try obtain ⟨hco, hfo, _⟩ := bcell hbb); (try have hb1 := hb1)) | (go_at_call 53; refine (rinline_any _ _).mono ?_; rintro e w1 ⟨rfl, rfl⟩) | (go_at_call 91; refine (rinside_any _ _ _ hmax _ _ _).mono ?_; rintro e w1 ⟨rfl, rfl⟩))
        all_goals go_returns
        all_goals exact ⟨rfl, by exact zw⟩
    · have e1 : splaceE L p q t k = targetE L p q t k := by simp [splaceE, hlen, hm, hs', hi', ht']
      obtain ⟨e2, e3⟩ := splace_bad e1 ht'
      have ht1 : (targetE L p q t k != 0) = true := by simpa using ht'
      rw [e1, e2, e3]; clear e1 e2 e3 hlen h1 h2 h3 ht' hs'
      rcases h67 with rfl | rfl
      all_goals go_enter Try.func56, Try.ntmps56
      all_goals go_wp2_with (first | ((first | (go_at_call 89; refine (rmay_any _ _ _ _ L _ _ _ _ _ (D.below zw)).mono ?_) | (go_at_call 90; refine (rtarget_any _ _ _ _ L _ _ _ _ _ (D.below zw)).mono ?_)); rintro e w1 ⟨rfl, hb1⟩; obtain ⟨hc1, hf1, hl1⟩ := bcell hb1; (try simp only [zdz] at hc1 hf1 hl1); have hz1 := hb1.size; (try simp only [zsz] at hz1); (try have g0 : w.heap.size < w1.heap.size := by omega); (try have g1 : w.heap.size + 1 < w1.heap.size := by omega); (try have g2 : w.heap.size + 2 < w1.heap.size := by omega); (try have gb : b < w1.heap.size := by omega); (try have g3 : w.heap.size + 3 < w1.heap.size := by omega); (try have hbb : Below w.heap.size w w1 := zw); (try obtain ⟨hco, hfo, _⟩ := bcell hbb); (try have hb1 := hb1)) | (go_at_call 53; refine (rinline_any _ _).mono ?_; rintro e w1 ⟨rfl, rfl⟩) | (go_at_call 91; refine (rinside_any _ _ _ hmax _ _ _).mono ?_; rintro e w1 ⟨rfl, rfl⟩))
      all_goals go_returns
      all_goals exact ⟨rfl, by exact zw⟩
  · have e1 : splaceE L p q t k = mayE n p q t k := by simp [splaceE, hlen, hm]
    obtain ⟨e2, e3⟩ := splace_bad e1 hm
    have hm' : (mayE n p q t k != 0) = true := by simpa using hm
    rw [e1, e2, e3]; clear e1 e2 e3 hlen hm
    go_enter Try.func56, Try.ntmps56
    go_wp2_with (go_at_call 89; refine (rmay_any _ _ _ _ L _ _ _ _ _ (D.below zw)).mono ?_; rintro e w1 ⟨rfl, hb1⟩; obtain ⟨hc1, hf1, hl1⟩ := bcell hb1; (try simp only [zdz] at hc1 hf1 hl1); have hz1 := hb1.size; (try simp only [zsz] at hz1); (try have g0 : w.heap.size < w1.heap.size := by omega); (try have g1 : w.heap.size + 1 < w1.heap.size := by omega); (try have g2 : w.heap.size + 2 < w1.heap.size := by omega); (try have gb : b < w1.heap.size := by omega); (try have g3 : w.heap.size + 3 < w1.heap.size := by omega); (try have hbb : Below w.heap.size w w1 := zw); (try obtain ⟨hco, hfo, _⟩ := bcell hbb); (try have hb1 := hb1))
    go_returns
    exact ⟨rfl, by exact zw⟩
end Go.Proofs.Ytmpflnlajakibaa
