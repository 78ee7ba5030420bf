/- May, Tree and Doc at the nil document, the program's and the reference's. -/
import Derived.Test.YtmpflnlajakibaaClm
namespace Go.Proofs.Ytmpflnlajakibaa
set_option linter.unusedVariables false
set_option linter.unusedSimpArgs false
open Go.RowKit
set_option maxHeartbeats 1000000 in
theorem may_nil (p q t k : Int) (w : World) :
    Calls Try.prog 32 #[.slice none 0 0, .agg #[.int .i64 p, .int .i64 q, .int .i64 t, .int .i64 k]] w fun e w' => e = .returned (.int .i64 (mayE 0 p q t k)) ∧ Below w.heap.size w w' := by
  have hmax : (0 : Nat) ≤ maxLen := Nat.zero_le _
  by_cases h1 : legalB t = true
  · by_cases h2 : wideB q = true
    · by_cases h3 : wideB k = true
      · by_cases h4 : insideB 0 p q = true
        · have e1 : mayE 0 p q t k = 0 := by simp [mayE, h1, h2, h3, h4]
          rw [e1]; clear e1
          go_enter Try.func32, Try.ntmps32
          go_wp2
          refine wp_loop_rounds 3 ?_
          rw [rounds_succ]
          go_wp2_with (first | (go_at_call 61; refine (legal_any _ _).mono ?_; rintro e w1 ⟨rfl, hb1⟩; obtain ⟨hc1, hf1, hl1⟩ := bcell hb1; (try simp only [zdz] at hc1 hf1 hl1); have hz1 := hb1.size; (try simp only [zsz] at hz1); (try have g0 : w.heap.size < w1.heap.size := by omega); (try have g1 : w.heap.size + 1 < w1.heap.size := by omega); (try have g2 : w.heap.size + 2 < w1.heap.size := by omega); (try have gb : b < w1.heap.size := by omega); (try have g3 : w.heap.size + 3 < w1.heap.size := by omega); (try have hbb : Below w.heap.size w w1 := zw); (try obtain ⟨hco, hfo, _⟩ := bcell hbb); (try have hb1 := hb1)) | (go_at_call 42; refine (isWidth_any _ _).mono ?_; rintro e w1 ⟨rfl, rfl⟩) | (go_at_call 63; refine (inside_any _ _ _ hmax _ _ _).mono ?_; rintro e w1 ⟨rfl, rfl⟩) | (go_at_call 60; go_in) | (go_at_call 62; go_in))
          rw [rounds_succ]
          go_wp2_with (first | (go_at_call 61; refine (legal_any _ _).mono ?_; rintro e w1 ⟨rfl, hb1⟩; obtain ⟨hc1, hf1, hl1⟩ := bcell hb1; (try simp only [zdz] at hc1 hf1 hl1); have hz1 := hb1.size; (try simp only [zsz] at hz1); (try have g0 : w.heap.size < w1.heap.size := by omega); (try have g1 : w.heap.size + 1 < w1.heap.size := by omega); (try have g2 : w.heap.size + 2 < w1.heap.size := by omega); (try have gb : b < w1.heap.size := by omega); (try have g3 : w.heap.size + 3 < w1.heap.size := by omega); (try have hbb : Below w.heap.size w w1 := zw); (try obtain ⟨hco, hfo, _⟩ := bcell hbb); (try have hb1 := hb1)) | (go_at_call 42; refine (isWidth_any _ _).mono ?_; rintro e w1 ⟨rfl, rfl⟩) | (go_at_call 63; refine (inside_any _ _ _ hmax _ _ _).mono ?_; rintro e w1 ⟨rfl, rfl⟩) | (go_at_call 60; go_in) | (go_at_call 62; go_in))
          rw [rounds_succ]
          go_wp2_with (first | (go_at_call 61; refine (legal_any _ _).mono ?_; rintro e w1 ⟨rfl, hb1⟩; obtain ⟨hc1, hf1, hl1⟩ := bcell hb1; (try simp only [zdz] at hc1 hf1 hl1); have hz1 := hb1.size; (try simp only [zsz] at hz1); (try have g0 : w.heap.size < w1.heap.size := by omega); (try have g1 : w.heap.size + 1 < w1.heap.size := by omega); (try have g2 : w.heap.size + 2 < w1.heap.size := by omega); (try have gb : b < w1.heap.size := by omega); (try have g3 : w.heap.size + 3 < w1.heap.size := by omega); (try have hbb : Below w.heap.size w w1 := zw); (try obtain ⟨hco, hfo, _⟩ := bcell hbb); (try have hb1 := hb1)) | (go_at_call 42; refine (isWidth_any _ _).mono ?_; rintro e w1 ⟨rfl, rfl⟩) | (go_at_call 63; refine (inside_any _ _ _ hmax _ _ _).mono ?_; rintro e w1 ⟨rfl, rfl⟩) | (go_at_call 60; go_in) | (go_at_call 62; go_in))
          go_returns
          exact ⟨rfl, by exact zw⟩
        · have h4' : insideB 0 p q = false := by simpa using h4
          have e1 : mayE 0 p q t k = 6 := by simp [mayE, h1, h2, h3, h4']
          rw [e1]; clear e1 h4
          go_enter Try.func32, Try.ntmps32
          go_wp2
          refine wp_loop_rounds 3 ?_
          rw [rounds_succ]
          go_wp2_with (first | (go_at_call 61; refine (legal_any _ _).mono ?_; rintro e w1 ⟨rfl, hb1⟩; obtain ⟨hc1, hf1, hl1⟩ := bcell hb1; (try simp only [zdz] at hc1 hf1 hl1); have hz1 := hb1.size; (try simp only [zsz] at hz1); (try have g0 : w.heap.size < w1.heap.size := by omega); (try have g1 : w.heap.size + 1 < w1.heap.size := by omega); (try have g2 : w.heap.size + 2 < w1.heap.size := by omega); (try have gb : b < w1.heap.size := by omega); (try have g3 : w.heap.size + 3 < w1.heap.size := by omega); (try have hbb : Below w.heap.size w w1 := zw); (try obtain ⟨hco, hfo, _⟩ := bcell hbb); (try have hb1 := hb1)) | (go_at_call 42; refine (isWidth_any _ _).mono ?_; rintro e w1 ⟨rfl, rfl⟩) | (go_at_call 63; refine (inside_any _ _ _ hmax _ _ _).mono ?_; rintro e w1 ⟨rfl, rfl⟩) | (go_at_call 60; go_in) | (go_at_call 62; go_in))
          rw [rounds_succ]
          go_wp2_with (first | (go_at_call 61; refine (legal_any _ _).mono ?_; rintro e w1 ⟨rfl, hb1⟩; obtain ⟨hc1, hf1, hl1⟩ := bcell hb1; (try simp only [zdz] at hc1 hf1 hl1); have hz1 := hb1.size; (try simp only [zsz] at hz1); (try have g0 : w.heap.size < w1.heap.size := by omega); (try have g1 : w.heap.size + 1 < w1.heap.size := by omega); (try have g2 : w.heap.size + 2 < w1.heap.size := by omega); (try have gb : b < w1.heap.size := by omega); (try have g3 : w.heap.size + 3 < w1.heap.size := by omega); (try have hbb : Below w.heap.size w w1 := zw); (try obtain ⟨hco, hfo, _⟩ := bcell hbb); (try have hb1 := hb1)) | (go_at_call 42; refine (isWidth_any _ _).mono ?_; rintro e w1 ⟨rfl, rfl⟩) | (go_at_call 63; refine (inside_any _ _ _ hmax _ _ _).mono ?_; rintro e w1 ⟨rfl, rfl⟩) | (go_at_call 60; go_in) | (go_at_call 62; go_in))
          go_returns
          exact ⟨rfl, by exact zw⟩
      · have h3' : wideB k = false := by simpa using h3
        have e1 : mayE 0 p q t k = 2 := by simp [mayE, h3']
        rw [e1]; clear e1 h3
        go_enter Try.func32, Try.ntmps32
        go_wp2
        refine wp_loop_rounds 3 ?_
        rw [rounds_succ]
        go_wp2_with (first | (go_at_call 61; refine (legal_any _ _).mono ?_; rintro e w1 ⟨rfl, hb1⟩; obtain ⟨hc1, hf1, hl1⟩ := bcell hb1; (try simp only [zdz] at hc1 hf1 hl1); have hz1 := hb1.size; (try simp only [zsz] at hz1); (try have g0 : w.heap.size < w1.heap.size := by omega); (try have g1 : w.heap.size + 1 < w1.heap.size := by omega); (try have g2 : w.heap.size + 2 < w1.heap.size := by omega); (try have gb : b < w1.heap.size := by omega); (try have g3 : w.heap.size + 3 < w1.heap.size := by omega); (try have hbb : Below w.heap.size w w1 := zw); (try obtain ⟨hco, hfo, _⟩ := bcell hbb); (try have hb1 := hb1)) | (go_at_call 42; refine (isWidth_any _ _).mono ?_; rintro e w1 ⟨rfl, rfl⟩) | (go_at_call 63; refine (inside_any _ _ _ hmax _ _ _).mono ?_; rintro e w1 ⟨rfl, rfl⟩) | (go_at_call 60; go_in) | (go_at_call 62; go_in))
        go_returns
        exact ⟨rfl, by exact zw⟩
    · have h2' : wideB q = false := by simpa using h2
      have e1 : mayE 0 p q t k = 2 := by simp [mayE, h2']
      rw [e1]; clear e1 h2
      go_enter Try.func32, Try.ntmps32
      go_wp2
      refine wp_loop_rounds 3 ?_
      rw [rounds_succ]
      go_wp2_with (first | (go_at_call 61; refine (legal_any _ _).mono ?_; rintro e w1 ⟨rfl, hb1⟩; obtain ⟨hc1, hf1, hl1⟩ := bcell hb1; (try simp only [zdz] at hc1 hf1 hl1); have hz1 := hb1.size; (try simp only [zsz] at hz1); (try have g0 : w.heap.size < w1.heap.size := by omega); (try have g1 : w.heap.size + 1 < w1.heap.size := by omega); (try have g2 : w.heap.size + 2 < w1.heap.size := by omega); (try have gb : b < w1.heap.size := by omega); (try have g3 : w.heap.size + 3 < w1.heap.size := by omega); (try have hbb : Below w.heap.size w w1 := zw); (try obtain ⟨hco, hfo, _⟩ := bcell hbb); (try have hb1 := hb1)) | (go_at_call 42; refine (isWidth_any _ _).mono ?_; rintro e w1 ⟨rfl, rfl⟩) | (go_at_call 63; refine (inside_any _ _ _ hmax _ _ _).mono ?_; rintro e w1 ⟨rfl, rfl⟩) | (go_at_call 60; go_in) | (go_at_call 62; go_in))
      go_returns
      exact ⟨rfl, by exact zw⟩
  · have h1' : legalB t = false := by simpa using h1
    have e1 : mayE 0 p q t k = 2 := by simp [mayE, h1']
    rw [e1]; clear e1 h1
    go_enter Try.func32, Try.ntmps32
    go_wp2
    refine wp_loop_rounds 3 ?_
    rw [rounds_succ]
    go_wp2_with (first | (go_at_call 61; refine (legal_any _ _).mono ?_; rintro e w1 ⟨rfl, hb1⟩; obtain ⟨hc1, hf1, hl1⟩ := bcell hb1; (try simp only [zdz] at hc1 hf1 hl1); have hz1 := hb1.size; (try simp only [zsz] at hz1); (try have g0 : w.heap.size < w1.heap.size := by omega); (try have g1 : w.heap.size + 1 < w1.heap.size := by omega); (try have g2 : w.heap.size + 2 < w1.heap.size := by omega); (try have gb : b < w1.heap.size := by omega); (try have g3 : w.heap.size + 3 < w1.heap.size := by omega); (try have hbb : Below w.heap.size w w1 := zw); (try obtain ⟨hco, hfo, _⟩ := bcell hbb); (try have hb1 := hb1)) | (go_at_call 42; refine (isWidth_any _ _).mono ?_; rintro e w1 ⟨rfl, rfl⟩) | (go_at_call 63; refine (inside_any _ _ _ hmax _ _ _).mono ?_; rintro e w1 ⟨rfl, rfl⟩) | (go_at_call 60; go_in) | (go_at_call 62; go_in))
    go_returns
    exact ⟨rfl, by exact zw⟩
theorem mayE_nil (p q t k : Int) : mayE 0 p q t k ≠ 0 := fun h => by
  obtain ⟨-, -, -, h1, h2, -, -, -, h3⟩ := mayE_zero h
  omega
theorem treeD_nil (dp fuel p q t k : Int) : treeD [] dp fuel p q t k = (zeroT, 0, 0, mayE 0 p q t k) := by
  unfold treeD
  rw [show ((([] : List UInt8).length : Nat) : Int) = 0 from rfl, if_pos (mayE_nil p q t k)]
theorem docD_nil (fuel : Int) : docD [] fuel = (zeroT, 0, 0, 210) := by
  unfold docD
  rfl
theorem dtree_nil (w : World) (p q t k dp fuel : Int) :
    Calls Try.prog 19 #[.slice none 0 0, .agg #[.int .i64 p, .int .i64 q, .int .i64 t, .int .i64 k], .int .i64 dp, .int .i64 fuel] w (TPost w (treeD [] dp fuel p q t k)) := by
  rw [treeD_nil]
  have hm1 : (mayE 0 p q t k != 0) = true := by simpa using mayE_nil p q t k
  have HM := Lib.hid (fun W => may_nil p q t k W)
  generalize mayE 0 p q t k = E at *
  go_enter Try.func19, Try.ntmps19
  go_wp2_with (go_at_call 32; refine (HM.out _).mono ?_; rintro e w1 ⟨rfl, hb1⟩; obtain ⟨hc1, hf1, hl1⟩ := bcell hb1; (try simp only [zdz] at hc1 hf1 hl1); have hz1 := hb1.size; (try simp only [zsz] at hz1); (try have g0 : w.heap.size < w1.heap.size := by omega); (try have g1 : w.heap.size + 1 < w1.heap.size := by omega); (try have g2 : w.heap.size + 2 < w1.heap.size := by omega); (try have gb : b < w1.heap.size := by omega); (try have g3 : w.heap.size + 3 < w1.heap.size := by omega); (try have hbb : Below w.heap.size w w1 := zw); (try obtain ⟨hco, hfo, _⟩ := bcell hbb); (try have hb1 := hb1))
  refine bodyPost_ret (v := .tuple #[.agg #[.int .i64 0, .int .i64 0, .int .u64 0, .string ⟨#[]⟩, .slice none 0 0, .slice none 0 0], .int .i64 0, .int .i64 0, .int .i64 E]) (by simp [results, Try.results19, go_sem, *]) rfl ?_
  exact tpost_zero zw
theorem ddoc_nil (w : World) (fuel : Int) : Calls Try.prog 27 #[.slice none 0 0, .int .i64 fuel] w (TPost w (docD [] fuel)) := by
  rw [docD_nil]
  go_enter Try.func27, Try.ntmps27
  go_upto_region 7 with (go_at_call 28; refine (root_nil _).mono ?_; rintro e w1 ⟨rfl, hb1⟩; obtain ⟨hc1, hf1, hl1⟩ := bcell hb1; (try simp only [zdz] at hc1 hf1 hl1); have hz1 := hb1.size; (try simp only [zsz] at hz1); (try have g0 : w.heap.size < w1.heap.size := by omega); (try have g1 : w.heap.size + 1 < w1.heap.size := by omega); (try have g2 : w.heap.size + 2 < w1.heap.size := by omega); (try have gb : b < w1.heap.size := by omega); (try have g3 : w.heap.size + 3 < w1.heap.size := by omega); (try have hbb : Below w.heap.size w w1 := zw); (try obtain ⟨hco, hfo, _⟩ := bcell hbb); (try have hb1 := hb1))
  refine wp_named (fun wn => Below w.heap.size w wn ∧ wn.heap[w.heap.size]? = some (.cells #[.int .i64 0, .int .i64 0, .int .u64 0, .string ⟨#[]⟩, .slice none 0 0, .slice none 0 0] 44 (0, 0))) ⟨by exact zw, ((((Below.refl w1.heap.size w1).alloc (Nat.le_refl _) _).block _ (by omega)).trans (hb1.block _ (by simp))).trans (heap_alloc_new _ _)⟩ ?_
  clear hb1 hc1 hf1 hl1 hz1
  rintro wn ⟨hbn, hY1⟩
  have hfz := fun (j : Nat) => frozen_of_row _ _ j _ _ hY1
  have n0 : wn.cell? ⟨w.heap.size, 0, none⟩ = some (.int .i64 0) := cell_of_row _ _ _ _ _ _ hY1
  have n1 : wn.cell? ⟨w.heap.size, 1, none⟩ = some (.int .i64 0) := cell_of_row _ _ _ _ _ _ hY1
  have n2 : wn.cell? ⟨w.heap.size, 2, none⟩ = some (.int .u64 0) := cell_of_row _ _ _ _ _ _ hY1
  have n3 : wn.cell? ⟨w.heap.size, 3, none⟩ = some (.string ⟨#[]⟩) := cell_of_row _ _ _ _ _ _ hY1
  have n4 : wn.cell? ⟨w.heap.size, 4, none⟩ = some (.slice none 0 0) := cell_of_row _ _ _ _ _ _ hY1
  have n5 : wn.cell? ⟨w.heap.size, 5, none⟩ = some (.slice none 0 0) := cell_of_row _ _ _ _ _ _ hY1
  clear hY1
  go_wp2_with fail
  refine bodyPost_ret (v := .tuple #[.agg #[.int .i64 0, .int .i64 0, .int .u64 0, .string ⟨#[]⟩, .slice none 0 0, .slice none 0 0], .int .i64 0, .int .i64 0, .int .i64 210]) (by simp [results, Try.results27, go_sem, *]) rfl ?_
  exact tpost_zero6 hbn (Nat.le_refl _)
end Go.Proofs.Ytmpflnlajakibaa
