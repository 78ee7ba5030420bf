/- The reference's text: Place, of, Key. -/
import Derived.Test.YtmpflnlajakibaaGreatA9
import Derived.Test.YtmpflnlajakibaaGreatWalk7
namespace Go.Proofs.YtmpflnlajakibaaGreat
set_option linter.unusedVariables false
set_option linter.unusedSimpArgs false
open Go.RowKit
theorem conv_part (b o n cap : Nat) (L : List UInt8) (w : World) (D : Doc w b o n cap L) (a k c : Nat) (h : a + k ≤ n) :
    (convert 22 9 (.slice (some ⟨b, o + a, none⟩) k c)).run Tryz.prog w = .ok (strV (window L a k)) w := by
  have hl : (window L a k).length = k := window_length (by rw [D.len]; exact h)
  have hW := D.at_.win a k (by rw [D.len]; exact h)
  have hlen : ((window L a k).map fun (y : UInt8) => (y.toNat : Int)).length = k := by simp [hl]
  rw [run_convert_bytes_arg w 22 5 Tryz.underlying22 Tryz.underlying5 b (o + a) k c _ hlen (fun i hi => by
    rw [hW i (by omega), List.getD_eq_getElem?_getD, List.getElem?_eq_getElem (by omega)]; simp) 9 Tryz.underlying9]
  congr 2
  simp only [strOfNums]
  congr 2
  rw [List.map_map]
  conv => rhs; rw [← List.map_id (window L a k)]
  apply List.map_congr_left
  intro y _
  simp
set_option maxHeartbeats 4000000 in
theorem rkplace_loop (b o n cap : Nat) (L : List UInt8) (p q k : Int) (a : Nat) (w : World) (D : Doc w b o n cap L) (hm : mayE n p q 4 k = 0) (ht : targetE L p q 4 k = 0) (ha : targetV L p q 4 k = a) (han : a < n) (A N E : Int)
    (h : (zeroAt L a < n ∧ A = a ∧ N = (zeroAt L a : Nat) - a ∧ E = 0) ∨ (¬ zeroAt L a < n ∧ A = 0 ∧ N = 0 ∧ E = 213)) :
    Calls Tryz.prog 91 #[.slice (some ⟨b, o, none⟩) n cap, .agg #[.int .i64 p, .int .i64 q, .int .i64 4, .int .i64 k]] w fun e w' =>
      e = .returned (.tuple #[.int .i64 A, .int .i64 N, .int .i64 E]) ∧ Below w.heap.size w w' := by
  obtain ⟨hn1, hn2⟩ := D.bd
  have Hn := Lib.hid D.len
  have hbw := D.lt
  have H := Lib.hid h
  clear h
  go_enter Tryz.func91, Tryz.ntmps91
  go_wp2_with ((first | (go_at_call 16; refine (rmay_any _ _ _ _ L _ _ _ _ _ (D.below zw)).mono ?_) | (go_at_call 104; refine (rtarget_any _ _ _ _ L _ _ _ _ _ (D.below zw)).mono ?_)); rintro e w1 ⟨rfl, hb1⟩; obtain ⟨hc1, hf1, hl1⟩ := bcell hb1; (try simp only [zdz] at hc1 hf1 hl1); have hz1 := hb1.size; (try simp only [zsz] at hz1); (try have g0 : w.heap.size < w1.heap.size := by omega); (try have g1 : w.heap.size + 1 < w1.heap.size := by omega); (try have g2 : w.heap.size + 2 < w1.heap.size := by omega); (try have gb : b < w1.heap.size := by omega); (try have g3 : w.heap.size + 3 < w1.heap.size := by omega); (try have hbb : Below w.heap.size w w1 := zw); (try obtain ⟨hco, hfo, _⟩ := bcell hbb); (try have hb1 := hb1))
  have D1 : Doc w1 b o n cap L := D.below zw
  go_loop [10] (fun i => ∃ j : Nat, a ≤ j ∧ j ≤ n ∧ i = .int .i64 j ∧ zeroAt L a = zeroAt L j) (fun i => n - (intOf i).toNat)
  case atStart => exact ⟨a, Nat.le_refl _, by omega, rfl, rfl⟩
  case round =>
    obtain ⟨j, haj, hj, rfl, hz⟩ := hrel
    have Hz := Lib.hid hz; clear hz
    by_cases hlt : j < n
    · have hlk : j < L.length := by rw [Hn.out]; exact hlt
      have hc := D1.at_ j hlk
      have hcw := D.at_ j hlk
      have hlt' : (j : Int) < (n : Int) := by omega
      by_cases h0 : L[j] = 0
      · have hz0 := Lib.hid (zeroAt_hit hlk h0)
        have h0' : (L[j].toNat : Int) = 0 := by rw [h0]; rfl
        rw [h0'] at hc hcw
        have hwr : IntKind.i64.wrap ((j : Int) - a) = j - a := IntWalk.i64_in _ (by omega)
        clear h0 h0'
        go_wp2
        go_returns
        have hzz : zeroAt L a = j := by rw [Hz.out, hz0.out]
        rcases H.out with ⟨-, rfl, rfl, rfl⟩ | ⟨hx, -⟩
        · exact ⟨by rw [hzz]; rfl, by exact zw⟩
        · omega
      · have hz0 := Lib.hid (zeroAt_step hlk h0)
        have h0' : ((L[j].toNat : Int) == 0) = false := by
          simp only [beq_eq_false_iff_ne, ne_eq]; intro h; apply h0; apply UInt8.toNat_inj.1; show L[j].toNat = 0; omega
        clear h0
        go_wp2
        go_round
        case rel => exact ⟨j + 1, by omega, by omega, by go_num, by rw [Hz.out, hz0.out]⟩
        case measure => simp only [intOf]; omega
    · have hlt' : ¬ (j : Int) < (n : Int) := by omega
      have hz0 := Lib.hid (zeroAt_end (L := L) (a := j) (by rw [Hn.out]; omega))
      go_wp2
      go_returns
      have hzz : zeroAt L a = n := by rw [Hz.out, hz0.out]; omega
      rcases H.out with ⟨hx, -⟩ | ⟨-, rfl, rfl, rfl⟩
      · omega
      · exact ⟨rfl, by exact zw⟩
/-- Place at a key. -/
theorem rkplace_any (b o n cap : Nat) (L : List UInt8) (p q k : Int) (w : World) (D : Doc w b o n cap L) :
    Calls Tryz.prog 91 #[.slice (some ⟨b, o, none⟩) n cap, .agg #[.int .i64 p, .int .i64 q, .int .i64 4, .int .i64 k]] w fun e w' =>
      e = .returned (.tuple #[.int .i64 (findAt L p q 4 k true), .int .i64 (if findE L p q 4 k true = 0 then (findN L p q 4 k : Int) else 0), .int .i64 (findE L p q 4 k true)]) ∧ Below w.heap.size w w' := by
  have hlen := D.len
  have hbw := D.lt
  by_cases hm : mayE n p q 4 k = 0
  · by_cases ht : targetE L p q 4 k = 0
    · obtain ⟨-, -, g1, g2⟩ := targetE_zero ht
      obtain ⟨m1, m2, m3, m4, m5, m6, m7, m8, m9⟩ := mayE_zero hm
      obtain ⟨a, ha⟩ := Int.eq_ofNat_of_zero_le g1
      have hf : findE L p q 4 k true = keyE L a := by simp [findE, hlen, hm, ht, ha]
      have hz0 := zeroAt_ge L a
      refine rkplace_loop b o n cap L p q k a w D hm ht ha (by omega) _ _ _ ?_
      by_cases hz : zeroAt L a < n
      · left
        have e1 : findE L p q 4 k true = 0 := by rw [hf]; simp [keyE, hlen, hz]
        exact ⟨hz, by simp [findAt, e1, ha], by rw [if_pos e1]; simp [findN, ha]; omega, e1⟩
      · right
        have e1 : findE L p q 4 k true = 213 := by rw [hf]; simp [keyE, hlen, hz]
        exact ⟨hz, by simp [findAt, e1], by simp [e1], e1⟩
    · have e1 : findE L p q 4 k true = targetE L p q 4 k := by simp [findE, hlen, hm, ht]
      rw [show findAt L p q 4 k true = 0 by simp [findAt, e1, ht], if_neg (by rw [e1]; exact ht), e1]
      have ht1 : (targetE L p q 4 k != 0) = true := by simpa using ht
      clear e1 ht hlen
      go_enter Tryz.func91, Tryz.ntmps91
      go_wp2_with ((first | (go_at_call 16; refine (rmay_any _ _ _ _ L _ _ _ _ _ (D.below zw)).mono ?_) | (go_at_call 104; refine (rtarget_any _ _ _ _ L _ _ _ _ _ (D.below zw)).mono ?_)); rintro e w1 ⟨rfl, hb1⟩; obtain ⟨hc1, hf1, hl1⟩ := bcell hb1; (try simp only [zdz] at hc1 hf1 hl1); have hz1 := hb1.size; (try simp only [zsz] at hz1); (try have g0 : w.heap.size < w1.heap.size := by omega); (try have g1 : w.heap.size + 1 < w1.heap.size := by omega); (try have g2 : w.heap.size + 2 < w1.heap.size := by omega); (try have gb : b < w1.heap.size := by omega); (try have g3 : w.heap.size + 3 < w1.heap.size := by omega); (try have hbb : Below w.heap.size w w1 := zw); (try obtain ⟨hco, hfo, _⟩ := bcell hbb); (try have hb1 := hb1))
      go_returns
      exact ⟨rfl, by exact zw⟩
  · have e1 : findE L p q 4 k true = mayE n p q 4 k := by simp [findE, hlen, hm]
    rw [show findAt L p q 4 k true = 0 by simp [findAt, e1, hm], if_neg (by rw [e1]; exact hm), e1]
    have ht1 : (mayE n p q 4 k != 0) = true := by simpa using hm
    clear e1 hm hlen
    go_enter Tryz.func91, Tryz.ntmps91
    go_wp2_with ((first | (go_at_call 16; refine (rmay_any _ _ _ _ L _ _ _ _ _ (D.below zw)).mono ?_) | (go_at_call 104; refine (rtarget_any _ _ _ _ L _ _ _ _ _ (D.below zw)).mono ?_)); rintro e w1 ⟨rfl, hb1⟩; obtain ⟨hc1, hf1, hl1⟩ := bcell hb1; (try simp only [zdz] at hc1 hf1 hl1); have hz1 := hb1.size; (try simp only [zsz] at hz1); (try have g0 : w.heap.size < w1.heap.size := by omega); (try have g1 : w.heap.size + 1 < w1.heap.size := by omega); (try have g2 : w.heap.size + 2 < w1.heap.size := by omega); (try have gb : b < w1.heap.size := by omega); (try have g3 : w.heap.size + 3 < w1.heap.size := by omega); (try have hbb : Below w.heap.size w w1 := zw); (try obtain ⟨hco, hfo, _⟩ := bcell hbb); (try have hb1 := hb1))
    go_returns
    exact ⟨rfl, by exact zw⟩
set_option maxHeartbeats 4000000 in
/-- Key. -/
theorem rkof_any (b o n cap : Nat) (L : List UInt8) (p q k : Int) (w : World) (D : Doc w b o n cap L) :
    Calls Tryz.prog 68 #[.slice (some ⟨b, o, none⟩) n cap, .agg #[.int .i64 p, .int .i64 q, .int .i64 4, .int .i64 k], .int .i64 4, .int .i64 4] w fun e w' =>
      e = .returned (.tuple #[strV (findS L p q 4 k true), .int .i64 (findE L p q 4 k true)]) ∧ Below w.heap.size w w' := by
  obtain ⟨hn1, hn2⟩ := D.bd
  have hlen := D.len
  have hbw := D.lt
  have hle := D.le
  by_cases hf : findE L p q 4 k true = 0
  · obtain ⟨f1, f2, f3⟩ := findE_zero hf
    have hm : mayE n p q 4 k = 0 := by
      by_cases hm : mayE n p q 4 k = 0
      · exact hm
      · simp [findE, hlen, hm] at hf
    have ht : targetE L p q 4 k = 0 := by
      by_cases ht : targetE L p q 4 k = 0
      · exact ht
      · simp [findE, hlen, hm, ht] at hf
    obtain ⟨-, -, g1, g2⟩ := targetE_zero ht
    obtain ⟨m1, m2, m3, m4, m5, m6, m7, m8, m9⟩ := mayE_zero hm
    obtain ⟨a, ha⟩ := Int.eq_ofNat_of_zero_le g1
    have e1 : findAt L p q 4 k true = a := by simp [findAt, hf, ha]
    have e2 : findS L p q 4 k true = window L a (findN L p q 4 k) := by unfold findS; rw [if_pos hf, ha]; rfl
    have hP := Lib.hid (fun W (hW : Doc W b o n cap L) => rkplace_any b o n cap L p q k W hW)
    rw [e1, if_pos hf, hf] at hP
    rw [e2, hf]
    rw [ha] at f2
    generalize findN L p q 4 k = v at *
    have f2' : a + v ≤ n := by rw [← hlen]; exact f2
    have Hc := Lib.hid (fun W (hW : Doc W b o n cap L) c => conv_part b o n cap L W hW a v c f2')
    have hsl : ∀ W : World, (Instr.slice 22 (.slice (some ⟨b, o, none⟩) n cap) (some (.int .i64 a)) (some (.int .i64 ((a : Int) + v))) none).run Tryz.prog W = .ok (.slice (some ⟨b, o + a, none⟩) v (cap - a)) W := fun W => by
      rw [slice_run b o n cap _ _ a (a + v) (by omega) (by omega) (by omega) (by omega), if_neg (by omega), Nat.add_sub_cancel_left]
    have hwr : IntKind.i64.wrap ((a : Int) + v) = a + v := IntWalk.i64_in _ (by omega)
    clear e1 e2 hf hlen f1 f2 f3 ht ha g1 g2
    go_enter Tryz.func68, Tryz.ntmps68
    go_wp2_with (first | (go_at_call 16; refine (rmay_any _ _ _ _ L _ _ _ _ _ (D.below zw)).mono ?_; rintro e w1 ⟨rfl, hb1⟩; obtain ⟨hc1, hf1, hl1⟩ := bcell hb1; (try simp only [zdz] at hc1 hf1 hl1); have hz1 := hb1.size; (try simp only [zsz] at hz1); (try have g0 : w.heap.size < w1.heap.size := by omega); (try have g1 : w.heap.size + 1 < w1.heap.size := by omega); (try have g2 : w.heap.size + 2 < w1.heap.size := by omega); (try have gb : b < w1.heap.size := by omega); (try have g3 : w.heap.size + 3 < w1.heap.size := by omega); (try have hbb : Below w.heap.size w w1 := zw); (try obtain ⟨hco, hfo, _⟩ := bcell hbb); (try have hb1 := hb1)) | (go_at_call 91; refine (hP.out _ (D.below zw)).mono ?_; rintro e w1 ⟨rfl, hb1⟩; obtain ⟨hc1, hf1, hl1⟩ := bcell hb1; (try simp only [zdz] at hc1 hf1 hl1); have hz1 := hb1.size; (try simp only [zsz] at hz1); (try have g0 : w.heap.size < w1.heap.size := by omega); (try have g1 : w.heap.size + 1 < w1.heap.size := by omega); (try have g2 : w.heap.size + 2 < w1.heap.size := by omega); (try have gb : b < w1.heap.size := by omega); (try have g3 : w.heap.size + 3 < w1.heap.size := by omega); (try have hbb : Below w.heap.size w w1 := zw); (try obtain ⟨hco, hfo, _⟩ := bcell hbb); (try have hb1 := hb1)) | ((with_reducible refine conv_to (o := ⟨some 46, .convert 22 9 (.tmp 45), _, _, _, _⟩) ?_ 22 9 (.tmp 45) ?_ (.slice (some ⟨b, o + a, none⟩) v (cap - a)) (strV (window L a v)) ?_ ?_ ?_); rfl; rfl; rfl; (exact Hc.out _ (D.below zw) _)))
    go_returns
    exact ⟨rfl, by exact zw⟩
  · have e1 : findS L p q 4 k true = [] := by simp [findS, hf]
    have hP := Lib.hid (fun W (hW : Doc W b o n cap L) => rkplace_any b o n cap L p q k W hW)
    rw [if_neg hf] at hP
    rw [e1]
    by_cases hm : mayE n p q 4 k = 0
    · have hf1 : (findE L p q 4 k true != 0) = true := by simpa using hf
      clear e1 hf
      go_enter Tryz.func68, Tryz.ntmps68
      go_wp2_with ((first | (go_at_call 16; refine (rmay_any _ _ _ _ L _ _ _ _ _ (D.below zw)).mono ?_) | (go_at_call 91; refine (hP.out _ (D.below zw)).mono ?_)); rintro e w1 ⟨rfl, hb1⟩; obtain ⟨hc1, hf1, hl1⟩ := bcell hb1; (try simp only [zdz] at hc1 hf1 hl1); have hz1 := hb1.size; (try simp only [zsz] at hz1); (try have g0 : w.heap.size < w1.heap.size := by omega); (try have g1 : w.heap.size + 1 < w1.heap.size := by omega); (try have g2 : w.heap.size + 2 < w1.heap.size := by omega); (try have gb : b < w1.heap.size := by omega); (try have g3 : w.heap.size + 3 < w1.heap.size := by omega); (try have hbb : Below w.heap.size w w1 := zw); (try obtain ⟨hco, hfo, _⟩ := bcell hbb); (try have hb1 := hb1))
      go_returns
      exact ⟨rfl, by exact zw⟩
    · have hf1 : (mayE n p q 4 k != 0) = true := by simpa using hm
      have e2 : findE L p q 4 k true = mayE n p q 4 k := by simp [findE, hlen, hm]
      rw [e2]
      clear e1 e2 hf hm hP
      go_enter Tryz.func68, Tryz.ntmps68
      go_wp2_with (first | (go_at_call 16; refine (rmay_any _ _ _ _ L _ _ _ _ _ (D.below zw)).mono ?_; rintro e w1 ⟨rfl, hb1⟩; obtain ⟨hc1, hf1, hl1⟩ := bcell hb1; (try simp only [zdz] at hc1 hf1 hl1); have hz1 := hb1.size; (try simp only [zsz] at hz1); (try have g0 : w.heap.size < w1.heap.size := by omega); (try have g1 : w.heap.size + 1 < w1.heap.size := by omega); (try have g2 : w.heap.size + 2 < w1.heap.size := by omega); (try have gb : b < w1.heap.size := by omega); (try have g3 : w.heap.size + 3 < w1.heap.size := by omega); (try have hbb : Below w.heap.size w w1 := zw); (try obtain ⟨hco, hfo, _⟩ := bcell hbb); (try have hb1 := hb1)))
      go_returns
      exact ⟨rfl, by exact zw⟩
theorem rkey_any (b o n cap : Nat) (L : List UInt8) (p q k : Int) (w : World) (D : Doc w b o n cap L) :
    Calls Tryz.prog 45 #[.slice (some ⟨b, o, none⟩) n cap, .agg #[.int .i64 p, .int .i64 q, .int .i64 4, .int .i64 k]] w fun e w' =>
      e = .returned (.tuple #[strV (findS L p q 4 k true), .int .i64 (findE L p q 4 k true)]) ∧ Below w.heap.size w w' := by
  have hbw := D.lt
  go_enter Tryz.func45, Tryz.ntmps45
  go_wp2_with (go_at_call 68; refine (rkof_any _ _ _ _ L p q k _ (D.below zw)).mono ?_; rintro e w1 ⟨rfl, hb1⟩; obtain ⟨hc1, hf1, hl1⟩ := bcell hb1; (try simp only [zdz] at hc1 hf1 hl1); have hz1 := hb1.size; (try simp only [zsz] at hz1); (try have g0 : w.heap.size < w1.heap.size := by omega); (try have g1 : w.heap.size + 1 < w1.heap.size := by omega); (try have g2 : w.heap.size + 2 < w1.heap.size := by omega); (try have gb : b < w1.heap.size := by omega); (try have g3 : w.heap.size + 3 < w1.heap.size := by omega); (try have hbb : Below w.heap.size w w1 := zw); (try obtain ⟨hco, hfo, _⟩ := bcell hbb); (try have hb1 := hb1))
  go_returns
  exact ⟨rfl, by exact zw⟩
set_option maxHeartbeats 4000000 in
/-- Place at a string or a blob: the error. -/
theorem rtplace_any (b o n cap : Nat) (L : List UInt8) (p q t k : Int) (w : World) (D : Doc w b o n cap L) (ht5 : t = 5 ∨ t = 25) :
    Calls Tryz.prog 91 #[.slice (some ⟨b, o, none⟩) n cap, .agg #[.int .i64 p, .int .i64 q, .int .i64 t, .int .i64 k]] w fun e w' =>
      (∃ a l, e = .returned (.tuple #[.int .i64 a, .int .i64 l, .int .i64 (findE L p q t k true)])) ∧ Below w.heap.size w w' := by
  obtain ⟨hn1, hn2⟩ := D.bd
  have hlen := D.len
  have hbw := D.lt
  by_cases hm : mayE n p q t k = 0
  rotate_left
  · have e1 : findE L p q t k true = mayE n p q t k := by simp [findE, hlen, hm]
    have ht1 : (mayE n p q t k != 0) = true := by simpa using hm
    rw [e1]
    clear e1 hm hlen ht5
    go_enter Tryz.func91, Tryz.ntmps91
    go_wp2_with ((first | (go_at_call 16; refine (rmay_any _ _ _ _ L _ _ _ _ _ (D.below zw)).mono ?_) | (go_at_call 104; refine (rtarget_any _ _ _ _ L _ _ _ _ _ (D.below zw)).mono ?_)); rintro e w1 ⟨rfl, hb1⟩; obtain ⟨hc1, hf1, hl1⟩ := bcell hb1; (try simp only [zdz] at hc1 hf1 hl1); have hz1 := hb1.size; (try simp only [zsz] at hz1); (try have g0 : w.heap.size < w1.heap.size := by omega); (try have g1 : w.heap.size + 1 < w1.heap.size := by omega); (try have g2 : w.heap.size + 2 < w1.heap.size := by omega); (try have gb : b < w1.heap.size := by omega); (try have g3 : w.heap.size + 3 < w1.heap.size := by omega); (try have hbb : Below w.heap.size w w1 := zw); (try obtain ⟨hco, hfo, _⟩ := bcell hbb); (try have hb1 := hb1))
    go_returns
    exact ⟨⟨_, _, rfl⟩, by exact zw⟩
  by_cases ht : targetE L p q t k = 0
  rotate_left
  · have e1 : findE L p q t k true = targetE L p q t k := by simp [findE, hlen, hm, ht]
    have ht1 : (targetE L p q t k != 0) = true := by simpa using ht
    rw [e1]
    clear e1 ht hlen
    rcases ht5 with rfl | rfl
    all_goals go_enter Tryz.func91, Tryz.ntmps91
    all_goals go_wp2_with ((first | (go_at_call 16; refine (rmay_any _ _ _ _ L _ _ _ _ _ (D.below zw)).mono ?_) | (go_at_call 104; refine (rtarget_any _ _ _ _ L _ _ _ _ _ (D.below zw)).mono ?_)); rintro e w1 ⟨rfl, hb1⟩; obtain ⟨hc1, hf1, hl1⟩ := bcell hb1; (try simp only [zdz] at hc1 hf1 hl1); have hz1 := hb1.size; (try simp only [zsz] at hz1); (try have g0 : w.heap.size < w1.heap.size := by omega); (try have g1 : w.heap.size + 1 < w1.heap.size := by omega); (try have g2 : w.heap.size + 2 < w1.heap.size := by omega); (try have gb : b < w1.heap.size := by omega); (try have g3 : w.heap.size + 3 < w1.heap.size := by omega); (try have hbb : Below w.heap.size w w1 := zw); (try obtain ⟨hco, hfo, _⟩ := bcell hbb); (try have hb1 := hb1))
    all_goals go_returns
    all_goals exact ⟨⟨_, _, rfl⟩, by exact zw⟩
  obtain ⟨-, -, g1, g2⟩ := targetE_zero ht
  obtain ⟨m1, m2, m3, m4, m5, m6, m7, m8, m9⟩ := mayE_zero hm
  obtain ⟨a, ha⟩ := Int.eq_ofNat_of_zero_le g1
  obtain ⟨kk, rfl⟩ := Int.eq_ofNat_of_zero_le (show 0 ≤ k by omega)
  have hf : findE L p q t kk true = cntE L a kk (if t = 5 then 1 else 0) := by
    have h4 : t ≠ 4 := by omega
    simp [findE, hlen, hm, ht, ha, h4]
  rw [hf]
  clear hf
  have han : a < n := by omega
  have hkk : 1 ≤ kk ∧ kk ≤ 8 := by omega
  by_cases h1 : a % kk = 0
  rotate_left
  · have e1 : cntE L a kk (if t = 5 then 1 else 0) = 212 := by simp [cntE, h1]
    have hal : ((a : Int) % kk != 0) = true := by
      simp only [bne_iff_ne, ne_eq]; rw [← Int.natCast_emod]; omega
    rw [e1]; clear e1 h1 hlen
    rcases ht5 with rfl | rfl
    all_goals go_enter Tryz.func91, Tryz.ntmps91
    all_goals go_wp2_with ((first | (go_at_call 16; refine (rmay_any _ _ _ _ L _ _ _ _ _ (D.below zw)).mono ?_) | (go_at_call 104; refine (rtarget_any _ _ _ _ L _ _ _ _ _ (D.below zw)).mono ?_)); rintro e w1 ⟨rfl, hb1⟩; obtain ⟨hc1, hf1, hl1⟩ := bcell hb1; (try simp only [zdz] at hc1 hf1 hl1); have hz1 := hb1.size; (try simp only [zsz] at hz1); (try have g0 : w.heap.size < w1.heap.size := by omega); (try have g1 : w.heap.size + 1 < w1.heap.size := by omega); (try have g2 : w.heap.size + 2 < w1.heap.size := by omega); (try have gb : b < w1.heap.size := by omega); (try have g3 : w.heap.size + 3 < w1.heap.size := by omega); (try have hbb : Below w.heap.size w w1 := zw); (try obtain ⟨hco, hfo, _⟩ := bcell hbb); (try have hb1 := hb1))
    all_goals go_returns
    all_goals exact ⟨⟨_, _, rfl⟩, by exact zw⟩
  have hal : ((a : Int) % kk != 0) = false := by
    simp only [bne_eq_false_iff_eq]; rw [← Int.natCast_emod]; omega
  by_cases h2 : a < kk
  · have e1 : cntE L a kk (if t = 5 then 1 else 0) = 211 := by simp [cntE, h1, h2]
    rw [e1]; clear e1 h1 hlen
    rcases ht5 with rfl | rfl
    all_goals go_enter Tryz.func91, Tryz.ntmps91
    all_goals go_wp2_with ((first | (go_at_call 16; refine (rmay_any _ _ _ _ L _ _ _ _ _ (D.below zw)).mono ?_) | (go_at_call 104; refine (rtarget_any _ _ _ _ L _ _ _ _ _ (D.below zw)).mono ?_)); rintro e w1 ⟨rfl, hb1⟩; obtain ⟨hc1, hf1, hl1⟩ := bcell hb1; (try simp only [zdz] at hc1 hf1 hl1); have hz1 := hb1.size; (try simp only [zsz] at hz1); (try have g0 : w.heap.size < w1.heap.size := by omega); (try have g1 : w.heap.size + 1 < w1.heap.size := by omega); (try have g2 : w.heap.size + 2 < w1.heap.size := by omega); (try have gb : b < w1.heap.size := by omega); (try have g3 : w.heap.size + 3 < w1.heap.size := by omega); (try have hbb : Below w.heap.size w w1 := zw); (try obtain ⟨hco, hfo, _⟩ := bcell hbb); (try have hb1 := hb1))
    all_goals go_returns
    all_goals exact ⟨⟨_, _, rfl⟩, by exact zw⟩
  obtain ⟨v, hv⟩ := Int.eq_ofNat_of_zero_le (loadV_nonneg L ((a : Int) - kk) kk)
  have hv1 := loadV_lt L ((a : Int) - kk) kk
  have hV : cntN L a kk = v := by unfold cntN; rw [hv]; rfl
  have hwl : IntKind.u64.wrap ((n : Int) - a) = n - a := IntWalk.u64_in _ (by omega)
  by_cases h3 : n - a < v
  · have e1 : cntE L a kk (if t = 5 then 1 else 0) = 211 := by
      unfold cntE; rw [if_neg (by omega), if_neg (by omega), if_pos (by rw [hlen, hV]; omega)]
    have h3' : (n : Int) - a < v := by omega
    rw [e1]; clear e1 h1 hlen hV
    rcases ht5 with rfl | rfl
    all_goals go_enter Tryz.func91, Tryz.ntmps91
    all_goals go_wp2_with (first | ((first | (go_at_call 16; refine (rmay_any _ _ _ _ L _ _ _ _ _ (D.below zw)).mono ?_) | (go_at_call 104; refine (rtarget_any _ _ _ _ L _ _ _ _ _ (D.below zw)).mono ?_)); rintro e w1 ⟨rfl, hb1⟩; obtain ⟨hc1, hf1, hl1⟩ := bcell hb1; (try simp only [zdz] at hc1 hf1 hl1); have hz1 := hb1.size; (try simp only [zsz] at hz1); (try have g0 : w.heap.size < w1.heap.size := by omega); (try have g1 : w.heap.size + 1 < w1.heap.size := by omega); (try have g2 : w.heap.size + 2 < w1.heap.size := by omega); (try have gb : b < w1.heap.size := by omega); (try have g3 : w.heap.size + 3 < w1.heap.size := by omega); (try have hbb : Below w.heap.size w w1 := zw); (try obtain ⟨hco, hfo, _⟩ := bcell hbb); (try have hb1 := hb1)) | (go_at_call 65; refine (rload_any _ _ _ _ L _ _ _ (D.below zw)).mono ?_; rintro e w1 ⟨rfl, rfl⟩))
    all_goals go_returns
    all_goals exact ⟨⟨_, _, rfl⟩, by exact zw⟩
  have h3' : ¬ (n : Int) - a < v := by omega
  have hcv : IntKind.i64.wrap (v : Int) = v := IntWalk.i64_in _ (by omega)
  rcases ht5 with rfl | rfl
  · rw [if_pos rfl]
    have hwm : IntKind.u64.wrap ((v : Int) + 1) = v + 1 := IntWalk.u64_in _ (by omega)
    by_cases h4 : n - a < v + 1
    · have e1 : cntE L a kk 1 = 211 := by
        unfold cntE; rw [if_neg (by omega), if_neg (by omega), if_pos (by rw [hlen, hV]; omega)]
      have h4' : (n : Int) - a < v + 1 := by omega
      rw [e1]; clear e1 h1 hlen hV
      go_enter Tryz.func91, Tryz.ntmps91
      go_wp2_with (first | ((first | (go_at_call 16; refine (rmay_any _ _ _ _ L _ _ _ _ _ (D.below zw)).mono ?_) | (go_at_call 104; refine (rtarget_any _ _ _ _ L _ _ _ _ _ (D.below zw)).mono ?_)); rintro e w1 ⟨rfl, hb1⟩; obtain ⟨hc1, hf1, hl1⟩ := bcell hb1; (try simp only [zdz] at hc1 hf1 hl1); have hz1 := hb1.size; (try simp only [zsz] at hz1); (try have g0 : w.heap.size < w1.heap.size := by omega); (try have g1 : w.heap.size + 1 < w1.heap.size := by omega); (try have g2 : w.heap.size + 2 < w1.heap.size := by omega); (try have gb : b < w1.heap.size := by omega); (try have g3 : w.heap.size + 3 < w1.heap.size := by omega); (try have hbb : Below w.heap.size w w1 := zw); (try obtain ⟨hco, hfo, _⟩ := bcell hbb); (try have hb1 := hb1)) | (go_at_call 65; refine (rload_any _ _ _ _ L _ _ _ (D.below zw)).mono ?_; rintro e w1 ⟨rfl, rfl⟩))
      go_returns
      exact ⟨⟨_, _, rfl⟩, by exact zw⟩
    · have h4' : ¬ (n : Int) - a < v + 1 := by omega
      have hby := D.byte (a + v) (by omega)
      have hwa : IntKind.i64.wrap ((a : Int) + v) = a + v := IntWalk.i64_in _ (by omega)
      have b0 : (0 : Int) ≤ (a : Int) + v := by omega
      have b1 : (a : Int) + v < n := by omega
      have b2 : ((a : Int) + v).toNat = a + v := by omega
      by_cases h5 : L.getD (a + v) 0 = 0
      · have e1 : cntE L a kk 1 = 0 := by
          unfold cntE; rw [if_neg (by omega), if_neg (by omega), if_neg (by rw [hlen, hV]; omega), hV, if_neg (by rw [h5]; simp)]
        rw [h5] at hby
        have hby' : w.cell? ⟨b, o + (a + v), none⟩ = some (.int .u8 0) := hby
        rw [e1]; clear e1 h1 hlen hV h5 hby
        go_enter Tryz.func91, Tryz.ntmps91
        go_wp2_with (first | ((first | (go_at_call 16; refine (rmay_any _ _ _ _ L _ _ _ _ _ (D.below zw)).mono ?_) | (go_at_call 104; refine (rtarget_any _ _ _ _ L _ _ _ _ _ (D.below zw)).mono ?_)); rintro e w1 ⟨rfl, hb1⟩; obtain ⟨hc1, hf1, hl1⟩ := bcell hb1; (try simp only [zdz] at hc1 hf1 hl1); have hz1 := hb1.size; (try simp only [zsz] at hz1); (try have g0 : w.heap.size < w1.heap.size := by omega); (try have g1 : w.heap.size + 1 < w1.heap.size := by omega); (try have g2 : w.heap.size + 2 < w1.heap.size := by omega); (try have gb : b < w1.heap.size := by omega); (try have g3 : w.heap.size + 3 < w1.heap.size := by omega); (try have hbb : Below w.heap.size w w1 := zw); (try obtain ⟨hco, hfo, _⟩ := bcell hbb); (try have hb1 := hb1)) | (go_at_call 65; refine (rload_any _ _ _ _ L _ _ _ (D.below zw)).mono ?_; rintro e w1 ⟨rfl, rfl⟩))
        go_returns
        exact ⟨⟨_, _, rfl⟩, by exact zw⟩
      · have e1 : cntE L a kk 1 = 213 := by
          unfold cntE; rw [if_neg (by omega), if_neg (by omega), if_neg (by rw [hlen, hV]; omega), hV, if_pos ⟨rfl, h5⟩]
        have h5' : (((L.getD (a + v) 0).toNat : Int) != 0) = true := by
          simp only [bne_iff_ne, ne_eq]; intro h; apply h5; apply UInt8.toNat_inj.1; show (L.getD (a + v) 0).toNat = 0; omega
        generalize L.getD (a + v) 0 = c at *
        rw [e1]; clear e1 h1 hlen hV h5
        go_enter Tryz.func91, Tryz.ntmps91
        go_wp2_with (first | ((first | (go_at_call 16; refine (rmay_any _ _ _ _ L _ _ _ _ _ (D.below zw)).mono ?_) | (go_at_call 104; refine (rtarget_any _ _ _ _ L _ _ _ _ _ (D.below zw)).mono ?_)); rintro e w1 ⟨rfl, hb1⟩; obtain ⟨hc1, hf1, hl1⟩ := bcell hb1; (try simp only [zdz] at hc1 hf1 hl1); have hz1 := hb1.size; (try simp only [zsz] at hz1); (try have g0 : w.heap.size < w1.heap.size := by omega); (try have g1 : w.heap.size + 1 < w1.heap.size := by omega); (try have g2 : w.heap.size + 2 < w1.heap.size := by omega); (try have gb : b < w1.heap.size := by omega); (try have g3 : w.heap.size + 3 < w1.heap.size := by omega); (try have hbb : Below w.heap.size w w1 := zw); (try obtain ⟨hco, hfo, _⟩ := bcell hbb); (try have hb1 := hb1)) | (go_at_call 65; refine (rload_any _ _ _ _ L _ _ _ (D.below zw)).mono ?_; rintro e w1 ⟨rfl, rfl⟩))
        go_returns
        exact ⟨⟨_, _, rfl⟩, by exact zw⟩
  · rw [if_neg (by decide)]
    have e1 : cntE L a kk 0 = 0 := by
      unfold cntE; rw [if_neg (by omega), if_neg (by omega), if_neg (by rw [hlen, hV]; omega), hV, if_neg (by rintro ⟨h, -⟩; omega)]
    have hwm : IntKind.u64.wrap ((v : Int) + 0) = v := IntWalk.u64_in _ (by omega)
    rw [e1]; clear e1 h1 hlen hV
    go_enter Tryz.func91, Tryz.ntmps91
    go_wp2_with (first | ((first | (go_at_call 16; refine (rmay_any _ _ _ _ L _ _ _ _ _ (D.below zw)).mono ?_) | (go_at_call 104; refine (rtarget_any _ _ _ _ L _ _ _ _ _ (D.below zw)).mono ?_)); rintro e w1 ⟨rfl, hb1⟩; obtain ⟨hc1, hf1, hl1⟩ := bcell hb1; (try simp only [zdz] at hc1 hf1 hl1); have hz1 := hb1.size; (try simp only [zsz] at hz1); (try have g0 : w.heap.size < w1.heap.size := by omega); (try have g1 : w.heap.size + 1 < w1.heap.size := by omega); (try have g2 : w.heap.size + 2 < w1.heap.size := by omega); (try have gb : b < w1.heap.size := by omega); (try have g3 : w.heap.size + 3 < w1.heap.size := by omega); (try have hbb : Below w.heap.size w w1 := zw); (try obtain ⟨hco, hfo, _⟩ := bcell hbb); (try have hb1 := hb1)) | (go_at_call 65; refine (rload_any _ _ _ _ L _ _ _ (D.below zw)).mono ?_; rintro e w1 ⟨rfl, rfl⟩))
    go_returns
    exact ⟨⟨_, _, rfl⟩, by exact zw⟩
end Go.Proofs.YtmpflnlajakibaaGreat
