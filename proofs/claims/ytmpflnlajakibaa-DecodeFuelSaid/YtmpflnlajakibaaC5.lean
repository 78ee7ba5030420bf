/- The walks of scalar.Int and Uint, and of the reference's. -/
import Derived.Test.YtmpflnlajakibaaC4
import Derived.Test.YtmpflnlajakibaaRef4
namespace Go.Proofs.Ytmpflnlajakibaa
set_option linter.unusedVariables false
set_option linter.unusedSimpArgs false
set_option linter.unusedSectionVars false
open Go.RowKit
theorem sext_bd {k : Int} (hk : wideB k = true) (L : List UInt8) (a : Int) : -9223372036854775808 ≤ sext k (loadV L a k) ∧ sext k (loadV L a k) ≤ 9223372036854775807 := by
  have v0 := loadV_nonneg L a k
  have v1 := loadV_pow L a k hk
  generalize loadV L a k = v at *
  rcases wideB_cases hk with rfl | rfl | rfl | rfl
  all_goals simp (config := { decide := true }) only [sext] at v1 ⊢
  all_goals simp at v1
  all_goals simp
  all_goals (try unfold wrap64)
  all_goals (try split)
  all_goals omega
theorem intV_bd (L : List UInt8) (p q t k : Int) : -9223372036854775808 ≤ intV L p q t k ∧ intV L p q t k ≤ 9223372036854775807 := by
  unfold intV
  split
  · omega
  · rename_i h
    have h : splaceE L p q t k = 0 := by simpa using h
    split
    · have := loadV_nonneg L (splaceA L p q t k) (splaceW L p q t k); omega
    · exact sext_bd (splace_zero h).1 _ _
theorem uintV_bd (L : List UInt8) (p q t k : Int) : 0 ≤ uintV L p q t k ∧ uintV L p q t k ≤ 18446744073709551615 := by
  unfold uintV
  split
  · omega
  · have := loadV_nonneg L (splaceA L p q t k) (splaceW L p q t k)
    have := loadV_lt L (splaceA L p q t k) (splaceW L p q t k)
    omega
section
variable (b o n cap : Nat) (L : List UInt8) (w : World)
/-- scalar.read at a type of signed numbers. -/
def SRead (b o n cap : Nat) (L : List UInt8) (p q t k x : Int) : Prop := ∀ W, Doc W b o n cap L →
  Calls Try.prog 138 #[.slice (some ⟨b, o, none⟩) n cap, .agg #[.int .i64 p, .int .i64 q, .int .i64 t, .int .i64 k]] W fun e w' => e = .returned (.tuple #[.agg #[.bool (decide (x < 0)), .int .u64 (if x < 0 then -x else x)], .int .i64 0]) ∧ Below W.heap.size W w'
theorem sread_int (p q t k : Int) (ht : t = 1 ∨ t = 6 ∨ t = 26) (he : splaceE L p q t k = 0) : SRead b o n cap L p q t k (intV L p q t k) := by
  intro W D
  obtain ⟨z1, z2⟩ := splace_zero he
  rcases ht with rfl | rfl | rfl
  · have hv : intV L p q 1 k = sext (splaceW L p q 1 k) (loadV L (splaceA L p q 1 k) (splaceW L p q 1 k)) := by simp [intV, he]
    rw [hv]
    exact sread_w b o n cap L W p q 1 k D he _ _ (by decide) (by decide) rfl (fun W' hW => with_any b o n cap L W' _ _ hW z1 z2)
  · have hv : intV L p q 6 k = sext (splaceW L p q 6 k) (loadV L (splaceA L p q 6 k) (splaceW L p q 6 k)) := by simp [intV, he]
    rw [hv]
    exact sread_w b o n cap L W p q 6 k D he _ _ (by decide) (by decide) rfl (fun W' hW => with_any b o n cap L W' _ _ hW z1 z2)
  · have hv : intV L p q 26 k = min (loadV L (splaceA L p q 26 k) (splaceW L p q 26 k)) 1 := by simp [intV, he]
    rw [hv]
    have v0 := loadV_nonneg L (splaceA L p q 26 k) (splaceW L p q 26 k)
    have hn : ¬ min (loadV L (splaceA L p q 26 k) (splaceW L p q 26 k)) 1 < 0 := by omega
    rw [decide_eq_false hn, if_neg hn]
    exact sread_b b o n cap L W p q 26 k D he _ _ (by decide) (by decide) rfl (fun W' hW => rbool_any b o n cap L W' _ _ hW)
theorem sread_uint (p q t k : Int) (ht : t = 2 ∨ t = 7) (he : splaceE L p q t k = 0) : SRead b o n cap L p q t k (uintV L p q t k) := by
  intro W D
  have hn : ¬ uintV L p q t k < 0 := by have := uintV_bd L p q t k; omega
  rw [decide_eq_false hn, if_neg hn]
  have hv : uintV L p q t k = loadV L (splaceA L p q t k) (splaceW L p q t k) := by simp [uintV, he]
  rw [hv]
  rcases ht with rfl | rfl
  · exact sread_o b o n cap L W p q 2 k D he _ _ (by decide) (by decide) rfl (fun W' hW => without_any b o n cap L W' _ _ hW)
  · exact sread_o b o n cap L W p q 7 k D he _ _ (by decide) (by decide) rfl (fun W' hW => without_any b o n cap L W' _ _ hW)
set_option maxHeartbeats 1000000 in
theorem sint_any (p q t k : Int) (D : Doc w b o n cap L) (ht : t = 1 ∨ t = 6 ∨ t = 26) :
    Calls Try.prog 123 #[.slice (some ⟨b, o, none⟩) n cap, .agg #[.int .i64 p, .int .i64 q, .int .i64 t, .int .i64 k]] w fun e w' => e = .returned (.tuple #[.int .i64 (intV L p q t k), .int .i64 (splaceE L p q t k)]) ∧ Below w.heap.size w w' := by
  by_cases he : splaceE L p q t k = 0
  · have hr := Lib.hid (sread_int b o n cap L p q t k ht he)
    obtain ⟨s1, s2⟩ := intV_bd L p q t k
    rw [he]
    clear ht he
    generalize intV L p q t k = x at *
    by_cases hx : x < 0
    · unfold SRead at hr
      rw [decide_eq_true hx, if_pos hx] at hr
      have c1 : IntKind.u64.wrap (-(-x)) = x + 18446744073709551616 := by rw [u64_mod]; omega
      have c3 : IntKind.u64.wrap x = x + 18446744073709551616 := by rw [u64_mod]; omega
      have c2 : IntKind.i64.wrap (x + 18446744073709551616) = x := by rw [IntKind.wrap_i64]; omega
      have c4 : wrap64 (x + 18446744073709551616) = x := by unfold wrap64; omega
      go_enter Try.func123, Try.ntmps123
      go_wp2_with (go_at_call 138; refine (hr.out _ (D.below zw)).mono ?_; rintro e w1 ⟨rfl, hb1⟩; obtain ⟨hc1, hf1, hl1⟩ := bcell hb1; (try simp only [zdz] at hc1 hf1 hl1); have hz1 := hb1.size; (try simp only [zsz] at hz1); (try have g0 : w.heap.size < w1.heap.size := by omega); (try have g1 : w.heap.size + 1 < w1.heap.size := by omega); (try have g2 : w.heap.size + 2 < w1.heap.size := by omega); (try have gb : b < w1.heap.size := by omega); (try have g3 : w.heap.size + 3 < w1.heap.size := by omega); (try have hbb : Below w.heap.size w w1 := zw); (try obtain ⟨hco, hfo, _⟩ := bcell hbb); (try have hb1 := hb1))
      go_returns
      exact ⟨by simp [c1, c2, c3, c4], by exact zw⟩
    · unfold SRead at hr
      rw [decide_eq_false hx, if_neg hx] at hr
      have c2 : IntKind.i64.wrap x = x := IntWalk.i64_in _ (by omega)
      have c3 : ¬ 9223372036854775808 ≤ x := by omega
      go_enter Try.func123, Try.ntmps123
      go_wp2_with (go_at_call 138; refine (hr.out _ (D.below zw)).mono ?_; rintro e w1 ⟨rfl, hb1⟩; obtain ⟨hc1, hf1, hl1⟩ := bcell hb1; (try simp only [zdz] at hc1 hf1 hl1); have hz1 := hb1.size; (try simp only [zsz] at hz1); (try have g0 : w.heap.size < w1.heap.size := by omega); (try have g1 : w.heap.size + 1 < w1.heap.size := by omega); (try have g2 : w.heap.size + 2 < w1.heap.size := by omega); (try have gb : b < w1.heap.size := by omega); (try have g3 : w.heap.size + 3 < w1.heap.size := by omega); (try have hbb : Below w.heap.size w w1 := zw); (try obtain ⟨hco, hfo, _⟩ := bcell hbb); (try have hb1 := hb1))
      go_returns
      exact ⟨rfl, by exact zw⟩
  · have hv : intV L p q t k = 0 := by simp [intV, he]
    have he' : (splaceE L p q t k != 0) = true := by simpa using he
    rw [hv]
    go_enter Try.func123, Try.ntmps123
    go_wp2_with (go_at_call 138; refine (sread_no b o n cap L _ p q t k (D.below zw) he).mono ?_; rintro e w1 ⟨rfl, hb1⟩; obtain ⟨hc1, hf1, hl1⟩ := bcell hb1; (try simp only [zdz] at hc1 hf1 hl1); have hz1 := hb1.size; (try simp only [zsz] at hz1); (try have g0 : w.heap.size < w1.heap.size := by omega); (try have g1 : w.heap.size + 1 < w1.heap.size := by omega); (try have g2 : w.heap.size + 2 < w1.heap.size := by omega); (try have gb : b < w1.heap.size := by omega); (try have g3 : w.heap.size + 3 < w1.heap.size := by omega); (try have hbb : Below w.heap.size w w1 := zw); (try obtain ⟨hco, hfo, _⟩ := bcell hbb); (try have hb1 := hb1))
    go_returns
    exact ⟨rfl, by exact zw⟩
theorem suint_any (p q t k : Int) (D : Doc w b o n cap L) (ht : t = 2 ∨ t = 7) :
    Calls Try.prog 124 #[.slice (some ⟨b, o, none⟩) n cap, .agg #[.int .i64 p, .int .i64 q, .int .i64 t, .int .i64 k]] w fun e w' => e = .returned (.tuple #[.int .u64 (uintV L p q t k), .int .i64 (splaceE L p q t k)]) ∧ Below w.heap.size w w' := by
  by_cases he : splaceE L p q t k = 0
  · have hr := Lib.hid (sread_uint b o n cap L p q t k ht he)
    obtain ⟨s1, s2⟩ := uintV_bd L p q t k
    rw [he]
    clear ht he
    generalize uintV L p q t k = x at *
    have hx : ¬ x < 0 := by omega
    unfold SRead at hr
    rw [decide_eq_false hx, if_neg hx] at hr
    go_enter Try.func124, Try.ntmps124
    go_wp2_with (go_at_call 138; refine (hr.out _ (D.below zw)).mono ?_; rintro e w1 ⟨rfl, hb1⟩; obtain ⟨hc1, hf1, hl1⟩ := bcell hb1; (try simp only [zdz] at hc1 hf1 hl1); have hz1 := hb1.size; (try simp only [zsz] at hz1); (try have g0 : w.heap.size < w1.heap.size := by omega); (try have g1 : w.heap.size + 1 < w1.heap.size := by omega); (try have g2 : w.heap.size + 2 < w1.heap.size := by omega); (try have gb : b < w1.heap.size := by omega); (try have g3 : w.heap.size + 3 < w1.heap.size := by omega); (try have hbb : Below w.heap.size w w1 := zw); (try obtain ⟨hco, hfo, _⟩ := bcell hbb); (try have hb1 := hb1))
    go_returns
    exact ⟨rfl, by exact zw⟩
  · have hv : uintV L p q t k = 0 := by simp [uintV, he]
    have he' : (splaceE L p q t k == 0) = false := by simpa using he
    rw [hv]
    go_enter Try.func124, Try.ntmps124
    go_wp2_with (go_at_call 138; refine (sread_no b o n cap L _ p q t k (D.below zw) he).mono ?_; rintro e w1 ⟨rfl, hb1⟩; obtain ⟨hc1, hf1, hl1⟩ := bcell hb1; (try simp only [zdz] at hc1 hf1 hl1); have hz1 := hb1.size; (try simp only [zsz] at hz1); (try have g0 : w.heap.size < w1.heap.size := by omega); (try have g1 : w.heap.size + 1 < w1.heap.size := by omega); (try have g2 : w.heap.size + 2 < w1.heap.size := by omega); (try have gb : b < w1.heap.size := by omega); (try have g3 : w.heap.size + 3 < w1.heap.size := by omega); (try have hbb : Below w.heap.size w w1 := zw); (try obtain ⟨hco, hfo, _⟩ := bcell hbb); (try have hb1 := hb1))
    go_returns
    exact ⟨rfl, by exact zw⟩
end
end Go.Proofs.Ytmpflnlajakibaa
