/- The walks of the reference's numbers. The kinds. -/
import Derived.Test.YtmpflnlajakibaaGreatC5
import Derived.Test.YtmpflnlajakibaaGreatRef7
namespace Go.Proofs.YtmpflnlajakibaaGreat
set_option linter.unusedVariables false
set_option linter.unusedSimpArgs false
set_option linter.unusedSectionVars false
open Go.RowKit
section
variable (b o n cap : Nat) (L : List UInt8) (w : World)
set_option maxHeartbeats 1000000 in
theorem rloadInt_any (a k : Int) (D : Doc w b o n cap L) (hk : wideB k = true) (he : loadE L a k = 0) :
    Calls Tryz.prog 90 #[.slice (some ⟨b, o, none⟩) n cap, .int .i64 a, .int .i64 k] w fun e w' => e = .returned (.tuple #[.int .i64 (sext k (loadV L a k)), .int .i64 0]) ∧ Below w.heap.size w w' := by
  have v0 := loadV_nonneg L a k
  have v1 := loadV_pow L a k hk
  have HL := Lib.hid (show ∀ W, Doc W b o n cap L → Calls Tryz.prog 65 #[.slice (some ⟨b, o, none⟩) n cap, .int .i64 a, .int .i64 k] W fun e w' => e = .returned (.tuple #[.int .u64 (loadV L a k), .int .i64 0]) ∧ W = w' from fun W hW => by
    have := rload_any b o n cap L a k W hW
    rw [he] at this; exact this)
  clear he
  generalize loadV L a k = v at *
  rcases wideB_cases hk with rfl | rfl | rfl | rfl
  all_goals clear hk
  all_goals simp (config := { decide := true }) only [sext] at v1 ⊢
  all_goals simp at v1
  · by_cases hv : v < 128
    · have h1 : (128 ≤ v) = False := by simp; omega
      go_enter Tryz.func90, Tryz.ntmps90
      go_wp2_with (go_at_call 65; refine (HL.out _ D).mono ?_; rintro e w1 ⟨rfl, rfl⟩)
      go_returns
      exact ⟨by simp [hv], by exact zw⟩
    · have h1 : (128 ≤ v) := by omega
      go_enter Tryz.func90, Tryz.ntmps90
      go_wp2_with (go_at_call 65; refine (HL.out _ D).mono ?_; rintro e w1 ⟨rfl, rfl⟩)
      go_returns
      exact ⟨by simp [hv], by exact zw⟩
  · by_cases hv : v < 32768
    · have h1 : (32768 ≤ v) = False := by simp; omega
      go_enter Tryz.func90, Tryz.ntmps90
      go_wp2_with (go_at_call 65; refine (HL.out _ D).mono ?_; rintro e w1 ⟨rfl, rfl⟩)
      go_returns
      exact ⟨by simp [hv], by exact zw⟩
    · have h1 : (32768 ≤ v) := by omega
      go_enter Tryz.func90, Tryz.ntmps90
      go_wp2_with (go_at_call 65; refine (HL.out _ D).mono ?_; rintro e w1 ⟨rfl, rfl⟩)
      go_returns
      exact ⟨by simp [hv], by exact zw⟩
  · by_cases hv : v < 2147483648
    · have h1 : (2147483648 ≤ v) = False := by simp; omega
      go_enter Tryz.func90, Tryz.ntmps90
      go_wp2_with (go_at_call 65; refine (HL.out _ D).mono ?_; rintro e w1 ⟨rfl, rfl⟩)
      go_returns
      exact ⟨by simp [hv], by exact zw⟩
    · have h1 : (2147483648 ≤ v) := by omega
      go_enter Tryz.func90, Tryz.ntmps90
      go_wp2_with (go_at_call 65; refine (HL.out _ D).mono ?_; rintro e w1 ⟨rfl, rfl⟩)
      go_returns
      exact ⟨by simp [hv], by exact zw⟩
  · go_enter Tryz.func90, Tryz.ntmps90
    go_wp2_with (go_at_call 65; refine (HL.out _ D).mono ?_; rintro e w1 ⟨rfl, rfl⟩)
    go_returns
    exact ⟨by simp, by exact zw⟩
set_option maxHeartbeats 1000000 in
theorem rnumber_no (p q t k : Int) (D : Doc w b o n cap L) (he : splaceE L p q t k ≠ 0) :
    Calls Tryz.prog 67 #[.slice (some ⟨b, o, none⟩) n cap, .agg #[.int .i64 p, .int .i64 q, .int .i64 t, .int .i64 k]] w fun e w' => e = .returned (.tuple #[.bool false, .int .u64 0, .int .i64 (splaceE L p q t k)]) ∧ Below w.heap.size w w' := by
  have he' : (splaceE L p q t k != 0) = true := by simpa using he
  go_enter Tryz.func67, Tryz.ntmps67
  go_wp2_with (go_at_call 89; refine (rsplace_any b o n cap L p q t k _ (D.below zw)).mono ?_; rintro e w1 ⟨rfl, hb1⟩; obtain ⟨hc1, hf1, hl1⟩ := bcell hb1; (try simp only [zdz] at hc1 hf1 hl1); have hz1 := hb1.size; (try simp only [zsz] at hz1); (try have g0 : w.heap.size < w1.heap.size := by omega); (try have g1 : w.heap.size + 1 < w1.heap.size := by omega); (try have g2 : w.heap.size + 2 < w1.heap.size := by omega); (try have gb : b < w1.heap.size := by omega); (try have g3 : w.heap.size + 3 < w1.heap.size := by omega); (try have hbb : Below w.heap.size w w1 := zw); (try obtain ⟨hco, hfo, _⟩ := bcell hbb); (try have hb1 := hb1))
  go_returns
  exact ⟨rfl, by exact zw⟩
def RNumb (b o n cap : Nat) (L : List UInt8) (p q t k x : Int) : Prop := ∀ W, Doc W b o n cap L →
  Calls Tryz.prog 67 #[.slice (some ⟨b, o, none⟩) n cap, .agg #[.int .i64 p, .int .i64 q, .int .i64 t, .int .i64 k]] W fun e w' => e = .returned (.tuple #[.bool (decide (x < 0)), .int .u64 (if x < 0 then -x else x), .int .i64 0]) ∧ Below W.heap.size W w'
set_option maxHeartbeats 4000000 in
theorem rnumb_s (p q t k : Int) (ht : t = 1 ∨ t = 6) (he : splaceE L p q t k = 0) : RNumb b o n cap L p q t k (sext (splaceW L p q t k) (loadV L (splaceA L p q t k) (splaceW L p q t k))) := by
  intro w D
  have HP := Lib.hid (fun W (hW : Doc W b o n cap L) => rsplace_any b o n cap L p q t k W hW)
  obtain ⟨z1, z2⟩ := splace_zero he
  have sb := sext_bd z1 L (splaceA L p q t k)
  have HL := Lib.hid (fun W (hW : Doc W b o n cap L) => rload_any b o n cap L (splaceA L p q t k) (splaceW L p q t k) W hW)
  have HI := Lib.hid (fun W (hW : Doc W b o n cap L) => rloadInt_any b o n cap L W (splaceA L p q t k) (splaceW L p q t k) hW z1 z2)
  rw [he] at HP
  rw [z2] at HL
  clear he z1 z2
  generalize splaceA L p q t k = A at *
  generalize splaceW L p q t k = K at *
  generalize sext K (loadV L A K) = x at *
  generalize loadV L A K = v at *
  obtain ⟨s1, s2⟩ := sb
  by_cases hx : x < 0
  · rw [decide_eq_true hx, if_pos hx]
    have c1 : IntKind.i64.wrap (x + 1) = x + 1 := IntWalk.i64_in _ (by omega)
    have c2 : IntKind.i64.wrap (-(x + 1)) = -(x + 1) := IntWalk.i64_in _ (by omega)
    have c3 : IntKind.u64.wrap (-(x + 1)) = -(x + 1) := IntWalk.u64_in _ (by omega)
    have c4 : IntKind.u64.wrap (-(x + 1) + 1) = -(x + 1) + 1 := IntWalk.u64_in _ (by omega)
    rcases ht with rfl | rfl
    all_goals go_enter Tryz.func67, Tryz.ntmps67
    all_goals go_wp2_with (first | ((first | (go_at_call 89; refine (HP.out _ (D.below zw)).mono ?_) | (go_at_call 90; refine (HI.out _ (D.below zw)).mono ?_)); rintro e w1 ⟨rfl, hb1⟩; obtain ⟨hc1, hf1, hl1⟩ := bcell hb1; (try simp only [zdz] at hc1 hf1 hl1); have hz1 := hb1.size; (try simp only [zsz] at hz1); (try have g0 : w.heap.size < w1.heap.size := by omega); (try have g1 : w.heap.size + 1 < w1.heap.size := by omega); (try have g2 : w.heap.size + 2 < w1.heap.size := by omega); (try have gb : b < w1.heap.size := by omega); (try have g3 : w.heap.size + 3 < w1.heap.size := by omega); (try have hbb : Below w.heap.size w w1 := zw); (try obtain ⟨hco, hfo, _⟩ := bcell hbb); (try have hb1 := hb1)) | (go_at_call 65; refine (HL.out _ (D.below zw)).mono ?_; rintro e w1 ⟨rfl, rfl⟩))
    all_goals go_returns
    all_goals exact ⟨by simp; omega, by exact zw⟩
  · rw [decide_eq_false hx, if_neg hx]
    have c1 : IntKind.u64.wrap x = x := IntWalk.u64_in _ (by omega)
    rcases ht with rfl | rfl
    all_goals go_enter Tryz.func67, Tryz.ntmps67
    all_goals go_wp2_with (first | ((first | (go_at_call 89; refine (HP.out _ (D.below zw)).mono ?_) | (go_at_call 90; refine (HI.out _ (D.below zw)).mono ?_)); rintro e w1 ⟨rfl, hb1⟩; obtain ⟨hc1, hf1, hl1⟩ := bcell hb1; (try simp only [zdz] at hc1 hf1 hl1); have hz1 := hb1.size; (try simp only [zsz] at hz1); (try have g0 : w.heap.size < w1.heap.size := by omega); (try have g1 : w.heap.size + 1 < w1.heap.size := by omega); (try have g2 : w.heap.size + 2 < w1.heap.size := by omega); (try have gb : b < w1.heap.size := by omega); (try have g3 : w.heap.size + 3 < w1.heap.size := by omega); (try have hbb : Below w.heap.size w w1 := zw); (try obtain ⟨hco, hfo, _⟩ := bcell hbb); (try have hb1 := hb1)) | (go_at_call 65; refine (HL.out _ (D.below zw)).mono ?_; rintro e w1 ⟨rfl, rfl⟩))
    all_goals go_returns
    all_goals exact ⟨rfl, by exact zw⟩
set_option maxHeartbeats 4000000 in
theorem rnumb_u (p q t k : Int) (ht : t = 26 ∨ t = 2 ∨ t = 7) (he : splaceE L p q t k = 0) : RNumb b o n cap L p q t k (if t = 26 then min (loadV L (splaceA L p q t k) (splaceW L p q t k)) 1 else loadV L (splaceA L p q t k) (splaceW L p q t k)) := by
  intro w D
  have HP := Lib.hid (fun W (hW : Doc W b o n cap L) => rsplace_any b o n cap L p q t k W hW)
  obtain ⟨z1, z2⟩ := splace_zero he
  have v0 := loadV_nonneg L (splaceA L p q t k) (splaceW L p q t k)
  have v1 := loadV_lt L (splaceA L p q t k) (splaceW L p q t k)
  have HL := Lib.hid (fun W (hW : Doc W b o n cap L) => rload_any b o n cap L (splaceA L p q t k) (splaceW L p q t k) W hW)
  rw [he] at HP
  rw [z2] at HL
  clear he z1 z2
  generalize splaceA L p q t k = A at *
  generalize splaceW L p q t k = K at *
  generalize loadV L A K = v at *
  have hx : ¬ (if t = 26 then min v 1 else v) < 0 := by split <;> omega
  rw [decide_eq_false hx, if_neg hx]
  clear hx
  rcases ht with rfl | rfl | rfl
  all_goals simp (config := { decide := true }) only [if_true, if_false]
  all_goals go_enter Tryz.func67, Tryz.ntmps67
  all_goals go_wp2_with (first | (go_at_call 89; refine (HP.out _ (D.below zw)).mono ?_; rintro e w1 ⟨rfl, hb1⟩; obtain ⟨hc1, hf1, hl1⟩ := bcell hb1; (try simp only [zdz] at hc1 hf1 hl1); have hz1 := hb1.size; (try simp only [zsz] at hz1); (try have g0 : w.heap.size < w1.heap.size := by omega); (try have g1 : w.heap.size + 1 < w1.heap.size := by omega); (try have g2 : w.heap.size + 2 < w1.heap.size := by omega); (try have gb : b < w1.heap.size := by omega); (try have g3 : w.heap.size + 3 < w1.heap.size := by omega); (try have hbb : Below w.heap.size w w1 := zw); (try obtain ⟨hco, hfo, _⟩ := bcell hbb); (try have hb1 := hb1)) | (go_at_call 65; refine (HL.out _ (D.below zw)).mono ?_; rintro e w1 ⟨rfl, rfl⟩))
  all_goals go_returns
  all_goals exact ⟨rfl, by exact zw⟩
set_option maxHeartbeats 1000000 in
theorem rint_any (p q t k : Int) (D : Doc w b o n cap L) (ht : t = 1 ∨ t = 6 ∨ t = 26) :
    Calls Tryz.prog 43 #[.slice (some ⟨b, o, none⟩) n cap, .agg #[.int .i64 p, .int .i64 q, .int .i64 t, .int .i64 k]] w fun e w' => e = .returned (.tuple #[.int .i64 (intV L p q t k), .int .i64 (splaceE L p q t k)]) ∧ Below w.heap.size w w' := by
  by_cases he : splaceE L p q t k = 0
  · have hr : Hid (RNumb b o n cap L p q t k (intV L p q t k)) := Lib.hid (by
      unfold intV
      rw [if_neg (by omega)]
      rcases ht with rfl | rfl | rfl
      · rw [if_neg (by decide)]; exact rnumb_s b o n cap L p q 1 k (by omega) he
      · rw [if_neg (by decide)]; exact rnumb_s b o n cap L p q 6 k (by omega) he
      · exact rnumb_u b o n cap L p q 26 k (by omega) he)
    obtain ⟨s1, s2⟩ := intV_bd L p q t k
    rw [he]
    clear ht he
    generalize intV L p q t k = x at *
    by_cases hx : x < 0
    · unfold RNumb at hr
      rw [decide_eq_true hx, if_pos hx] at hr
      have c1 : IntKind.u64.wrap (-x - 1) = -x - 1 := IntWalk.u64_in _ (by omega)
      have c2 : IntKind.i64.wrap (-x - 1) = -x - 1 := IntWalk.i64_in _ (by omega)
      have c3 : IntKind.i64.wrap (-(-x - 1)) = -(-x - 1) := IntWalk.i64_in _ (by omega)
      have c4 : IntKind.i64.wrap (-(-x - 1) - 1) = -(-x - 1) - 1 := IntWalk.i64_in _ (by omega)
      go_enter Tryz.func43, Tryz.ntmps43
      go_wp2_with (go_at_call 67; refine (hr.out _ (D.below zw)).mono ?_; rintro e w1 ⟨rfl, hb1⟩; obtain ⟨hc1, hf1, hl1⟩ := bcell hb1; (try simp only [zdz] at hc1 hf1 hl1); have hz1 := hb1.size; (try simp only [zsz] at hz1); (try have g0 : w.heap.size < w1.heap.size := by omega); (try have g1 : w.heap.size + 1 < w1.heap.size := by omega); (try have g2 : w.heap.size + 2 < w1.heap.size := by omega); (try have gb : b < w1.heap.size := by omega); (try have g3 : w.heap.size + 3 < w1.heap.size := by omega); (try have hbb : Below w.heap.size w w1 := zw); (try obtain ⟨hco, hfo, _⟩ := bcell hbb); (try have hb1 := hb1))
      go_returns
      exact ⟨by simp; omega, by exact zw⟩
    · unfold RNumb at hr
      rw [decide_eq_false hx, if_neg hx] at hr
      have c2 : IntKind.i64.wrap x = x := IntWalk.i64_in _ (by omega)
      have c3 : ¬ 9223372036854775807 < x := by omega
      go_enter Tryz.func43, Tryz.ntmps43
      go_wp2_with (go_at_call 67; refine (hr.out _ (D.below zw)).mono ?_; rintro e w1 ⟨rfl, hb1⟩; obtain ⟨hc1, hf1, hl1⟩ := bcell hb1; (try simp only [zdz] at hc1 hf1 hl1); have hz1 := hb1.size; (try simp only [zsz] at hz1); (try have g0 : w.heap.size < w1.heap.size := by omega); (try have g1 : w.heap.size + 1 < w1.heap.size := by omega); (try have g2 : w.heap.size + 2 < w1.heap.size := by omega); (try have gb : b < w1.heap.size := by omega); (try have g3 : w.heap.size + 3 < w1.heap.size := by omega); (try have hbb : Below w.heap.size w w1 := zw); (try obtain ⟨hco, hfo, _⟩ := bcell hbb); (try have hb1 := hb1))
      go_returns
      exact ⟨rfl, by exact zw⟩
  · have hv : intV L p q t k = 0 := by simp [intV, he]
    have he' : (splaceE L p q t k != 0) = true := by simpa using he
    rw [hv]
    go_enter Tryz.func43, Tryz.ntmps43
    go_wp2_with (go_at_call 67; refine (rnumber_no b o n cap L _ p q t k (D.below zw) he).mono ?_; rintro e w1 ⟨rfl, hb1⟩; obtain ⟨hc1, hf1, hl1⟩ := bcell hb1; (try simp only [zdz] at hc1 hf1 hl1); have hz1 := hb1.size; (try simp only [zsz] at hz1); (try have g0 : w.heap.size < w1.heap.size := by omega); (try have g1 : w.heap.size + 1 < w1.heap.size := by omega); (try have g2 : w.heap.size + 2 < w1.heap.size := by omega); (try have gb : b < w1.heap.size := by omega); (try have g3 : w.heap.size + 3 < w1.heap.size := by omega); (try have hbb : Below w.heap.size w w1 := zw); (try obtain ⟨hco, hfo, _⟩ := bcell hbb); (try have hb1 := hb1))
    go_returns
    exact ⟨rfl, by exact zw⟩
theorem ruint_any (p q t k : Int) (D : Doc w b o n cap L) (ht : t = 2 ∨ t = 7) :
    Calls Tryz.prog 44 #[.slice (some ⟨b, o, none⟩) n cap, .agg #[.int .i64 p, .int .i64 q, .int .i64 t, .int .i64 k]] w fun e w' => e = .returned (.tuple #[.int .u64 (uintV L p q t k), .int .i64 (splaceE L p q t k)]) ∧ Below w.heap.size w w' := by
  by_cases he : splaceE L p q t k = 0
  · have hr : Hid (RNumb b o n cap L p q t k (uintV L p q t k)) := Lib.hid (by
      unfold uintV
      rw [if_neg (by omega)]
      have := rnumb_u b o n cap L p q t k (by omega) he
      rw [if_neg (by omega)] at this
      exact this)
    obtain ⟨s1, s2⟩ := uintV_bd L p q t k
    rw [he]
    clear ht he
    generalize uintV L p q t k = x at *
    have hx : ¬ x < 0 := by omega
    unfold RNumb at hr
    rw [decide_eq_false hx, if_neg hx] at hr
    go_enter Tryz.func44, Tryz.ntmps44
    go_wp2_with (go_at_call 67; refine (hr.out _ (D.below zw)).mono ?_; rintro e w1 ⟨rfl, hb1⟩; obtain ⟨hc1, hf1, hl1⟩ := bcell hb1; (try simp only [zdz] at hc1 hf1 hl1); have hz1 := hb1.size; (try simp only [zsz] at hz1); (try have g0 : w.heap.size < w1.heap.size := by omega); (try have g1 : w.heap.size + 1 < w1.heap.size := by omega); (try have g2 : w.heap.size + 2 < w1.heap.size := by omega); (try have gb : b < w1.heap.size := by omega); (try have g3 : w.heap.size + 3 < w1.heap.size := by omega); (try have hbb : Below w.heap.size w w1 := zw); (try obtain ⟨hco, hfo, _⟩ := bcell hbb); (try have hb1 := hb1))
    go_returns
    exact ⟨rfl, by exact zw⟩
  · have hv : uintV L p q t k = 0 := by simp [uintV, he]
    have he' : (splaceE L p q t k != 0) = true := by simpa using he
    rw [hv]
    go_enter Tryz.func44, Tryz.ntmps44
    go_wp2_with (go_at_call 67; refine (rnumber_no b o n cap L _ p q t k (D.below zw) he).mono ?_; rintro e w1 ⟨rfl, hb1⟩; obtain ⟨hc1, hf1, hl1⟩ := bcell hb1; (try simp only [zdz] at hc1 hf1 hl1); have hz1 := hb1.size; (try simp only [zsz] at hz1); (try have g0 : w.heap.size < w1.heap.size := by omega); (try have g1 : w.heap.size + 1 < w1.heap.size := by omega); (try have g2 : w.heap.size + 2 < w1.heap.size := by omega); (try have gb : b < w1.heap.size := by omega); (try have g3 : w.heap.size + 3 < w1.heap.size := by omega); (try have hbb : Below w.heap.size w w1 := zw); (try obtain ⟨hco, hfo, _⟩ := bcell hbb); (try have hb1 := hb1))
    go_returns
    exact ⟨rfl, by exact zw⟩
end
end Go.Proofs.YtmpflnlajakibaaGreat
