/- The walks of scalar.Int and Uint. -/
import Derived.Test.YtmpflnlajakibaaC12
namespace Go.Proofs.Ytmpflnlajakibaa
set_option linter.unusedVariables false
set_option linter.unusedSimpArgs false
set_option linter.unusedSectionVars false
open Go.RowKit
theorem loadV_pow (L : List UInt8) (a k : Int) (hk : wideB k = true) : loadV L a k < 2 ^ (8 * k.toNat) := by
  have hb := wideB_bd hk
  unfold loadV
  split
  · have h1 := leVal_lt (window L a.toNat k.toNat)
    have hl : (window L a.toNat k.toNat).length ≤ k.toNat := by simp [window]; omega
    have hp : 256 ^ (window L a.toNat k.toNat).length ≤ 256 ^ k.toNat := Nat.pow_le_pow_right (by omega) hl
    have h2 : (256 : Nat) ^ k.toNat = 2 ^ (8 * k.toNat) := by rw [show (256 : Nat) = 2 ^ 8 from rfl, ← Nat.pow_mul]
    have h3 : leVal (window L a.toNat k.toNat) < 2 ^ (8 * k.toNat) := by omega
    exact_mod_cast h3
  · have : (0 : Int) < 2 ^ (8 * k.toNat) := Int.pow_pos (by decide)
    omega
set_option maxHeartbeats 1000000 in
theorem loadInt_any (b o n cap : Nat) (L : List UInt8) (a k : Int) (w : World) (D : Doc w b o n cap L) (hk : wideB k = true) (he : loadE L a k = 0) :
    Calls Try.prog 139 #[.slice (some ⟨b, o, none⟩) n cap, .int .i64 a, .int .i64 k] w fun e w' => e = .returned (.tuple #[.int .i64 (sext k (loadV L a k)), .int .i64 0]) ∧ Below w.heap.size w w' := by
  have v0 := loadV_nonneg L a k
  have v1 := loadV_pow L a k hk
  have HL := Lib.hid (show ∀ W, Doc W b o n cap L → Calls Try.prog 79 #[.slice (some ⟨b, o, none⟩) n cap, .int .i64 a, .int .i64 k] W fun e w' => e = .returned (.tuple #[.int .u64 (loadV L a k), .int .i64 0]) ∧ Below W.heap.size W w' from fun W hW => by
    have := load_any b o n cap L a k W hW
    rw [he] at this; exact this)
  clear he
  generalize loadV L a k = v at *
  rcases wideB_cases hk with rfl | rfl | rfl | rfl
  all_goals clear hk
  all_goals simp (config := { decide := true }) only [sext] at v1 ⊢
  all_goals go_enter Try.func139, Try.ntmps139
  all_goals go_wp2_with (go_at_call 79; refine (HL.out _ (D.below zw)).mono ?_; rintro e w1 ⟨rfl, hb1⟩; obtain ⟨hc1, hf1, hl1⟩ := bcell hb1; (try simp only [zdz] at hc1 hf1 hl1); have hz1 := hb1.size; (try simp only [zsz] at hz1); (try have g0 : w.heap.size < w1.heap.size := by omega); (try have g1 : w.heap.size + 1 < w1.heap.size := by omega); (try have g2 : w.heap.size + 2 < w1.heap.size := by omega); (try have gb : b < w1.heap.size := by omega); (try have g3 : w.heap.size + 3 < w1.heap.size := by omega); (try have hbb : Below w.heap.size w w1 := zw); (try obtain ⟨hco, hfo, _⟩ := bcell hbb); (try have hb1 := hb1))
  all_goals go_returns
  all_goals refine ⟨?_, by exact zw⟩
  all_goals simp at v1
  all_goals simp
  all_goals rw [IntWalk.u64_in _ (by omega)]
  all_goals (try unfold wrap64)
  all_goals omega
/-- The numbers of a row: what Place found lies within. -/
theorem splace_zero {L : List UInt8} {p q t k : Int} (h : splaceE L p q t k = 0) : wideB (splaceW L p q t k) = true ∧ loadE L (splaceA L p q t k) (splaceW L p q t k) = 0 := by
  have h0 := h
  unfold splaceE at h
  unfold splaceW splaceA
  rw [if_pos h0, if_pos h0]
  split at h
  · omega
  · rename_i hm
    have hm : mayE L.length p q t k = 0 := by simpa using hm
    obtain ⟨m1, m2, m3, m4, m5, m6, m7, m8, m9⟩ := mayE_zero hm
    split at h
    · omega
    · by_cases hi : inlineB t = true
      · rw [if_pos hi, if_pos hi]
        exact ⟨m2, loadE_zero m2 m4 m9⟩
      · rw [if_neg hi, if_neg hi]
        rw [if_neg hi] at h
        split at h
        · omega
        · split at h
          · omega
          · split at h
            · omega
            · rename_i hn
              simp only [insideB, Bool.not_eq_false, Bool.and_eq_true, decide_eq_true_eq] at hn
              exact ⟨m3, loadE_zero m3 hn.1 (by omega)⟩
theorem u64_mod (n : Int) : IntKind.u64.wrap n = n % 18446744073709551616 := by
  unfold IntKind.wrap; simp [IntKind.bits, IntKind.signed]
theorem splace_wide {L : List UInt8} {p q t k : Int} (h : splaceE L p q t k = 0) : 1 ≤ splaceW L p q t k ∧ splaceW L p q t k ≤ 8 := wideB_bd (splace_zero h).1
section
variable (b o n cap : Nat) (L : List UInt8) (w : World)
set_option maxHeartbeats 1000000 in
/-- with, without, and the reader of a truth value. -/
theorem with_any (a k : Int) (D : Doc w b o n cap L) (hk : wideB k = true) (he : loadE L a k = 0) :
    Calls Try.prog 131 #[.slice (some ⟨b, o, none⟩) n cap, .int .i64 a, .int .i64 k] w fun e w' =>
      e = .returned (.agg #[.bool (decide (sext k (loadV L a k) < 0)), .int .u64 (if sext k (loadV L a k) < 0 then - sext k (loadV L a k) else sext k (loadV L a k))]) ∧ Below w.heap.size w w' := by
  have HL := Lib.hid (fun W (hW : Doc W b o n cap L) => loadInt_any b o n cap L a k W hW hk he)
  have hs : -9223372036854775808 ≤ sext k (loadV L a k) ∧ sext k (loadV L a k) ≤ 9223372036854775807 := by
    have v0 := loadV_nonneg L a k
    have v1 := loadV_pow L a k hk
    generalize loadV L a k = v at *
    rcases wideB_cases hk with rfl | rfl | rfl | rfl
    all_goals simp (config := { decide := true }) only [sext] at v1 ⊢
    all_goals simp at v1
    all_goals simp
    all_goals (try unfold wrap64)
    all_goals (try split)
    all_goals omega
  clear hk he
  generalize sext k (loadV L a k) = v at *
  obtain ⟨s1, s2⟩ := hs
  by_cases hv : v < 0
  · rw [decide_eq_true hv, if_pos hv]
    have c1 : IntKind.u64.wrap v = v + 18446744073709551616 := by rw [u64_mod]; omega
    have c2 : IntKind.u64.wrap (-(v + 18446744073709551616)) = -v := by rw [u64_mod]; omega
    go_enter Try.func131, Try.ntmps131
    go_wp2_with (go_at_call 139; refine (HL.out _ (D.below zw)).mono ?_; rintro e w1 ⟨rfl, hb1⟩; obtain ⟨hc1, hf1, hl1⟩ := bcell hb1; (try simp only [zdz] at hc1 hf1 hl1); have hz1 := hb1.size; (try simp only [zsz] at hz1); (try have g0 : w.heap.size < w1.heap.size := by omega); (try have g1 : w.heap.size + 1 < w1.heap.size := by omega); (try have g2 : w.heap.size + 2 < w1.heap.size := by omega); (try have gb : b < w1.heap.size := by omega); (try have g3 : w.heap.size + 3 < w1.heap.size := by omega); (try have hbb : Below w.heap.size w w1 := zw); (try obtain ⟨hco, hfo, _⟩ := bcell hbb); (try have hb1 := hb1))
    (refine bodyPost_ret (v := .agg #[.bool true, .int .u64 (-v)]) (by simp [results, Try.results131, go_sem, *]) rfl ?_)
    exact ⟨rfl, by exact zw⟩
  · rw [decide_eq_false hv, if_neg hv]
    have c1 : IntKind.u64.wrap v = v := IntWalk.u64_in _ (by omega)
    go_enter Try.func131, Try.ntmps131
    go_wp2_with (go_at_call 139; refine (HL.out _ (D.below zw)).mono ?_; rintro e w1 ⟨rfl, hb1⟩; obtain ⟨hc1, hf1, hl1⟩ := bcell hb1; (try simp only [zdz] at hc1 hf1 hl1); have hz1 := hb1.size; (try simp only [zsz] at hz1); (try have g0 : w.heap.size < w1.heap.size := by omega); (try have g1 : w.heap.size + 1 < w1.heap.size := by omega); (try have g2 : w.heap.size + 2 < w1.heap.size := by omega); (try have gb : b < w1.heap.size := by omega); (try have g3 : w.heap.size + 3 < w1.heap.size := by omega); (try have hbb : Below w.heap.size w w1 := zw); (try obtain ⟨hco, hfo, _⟩ := bcell hbb); (try have hb1 := hb1))
    (refine bodyPost_ret (v := .agg #[.bool false, .int .u64 v]) (by simp [results, Try.results131, go_sem, *]) rfl ?_)
    exact ⟨rfl, by exact zw⟩
theorem without_any (a k : Int) (D : Doc w b o n cap L) :
    Calls Try.prog 130 #[.slice (some ⟨b, o, none⟩) n cap, .int .i64 a, .int .i64 k] w fun e w' => e = .returned (.agg #[.bool false, .int .u64 (loadV L a k)]) ∧ Below w.heap.size w w' := by
  go_enter Try.func130, Try.ntmps130
  go_wp2_with (go_at_call 79; refine (load_any b o n cap L a k _ (D.below zw)).mono ?_; rintro e w1 ⟨rfl, hb1⟩; obtain ⟨hc1, hf1, hl1⟩ := bcell hb1; (try simp only [zdz] at hc1 hf1 hl1); have hz1 := hb1.size; (try simp only [zsz] at hz1); (try have g0 : w.heap.size < w1.heap.size := by omega); (try have g1 : w.heap.size + 1 < w1.heap.size := by omega); (try have g2 : w.heap.size + 2 < w1.heap.size := by omega); (try have gb : b < w1.heap.size := by omega); (try have g3 : w.heap.size + 3 < w1.heap.size := by omega); (try have hbb : Below w.heap.size w w1 := zw); (try obtain ⟨hco, hfo, _⟩ := bcell hbb); (try have hb1 := hb1))
  (refine bodyPost_ret (v := .agg #[.bool false, .int .u64 (loadV L a k)]) (by simp [results, Try.results130, go_sem, *]) rfl ?_)
  exact ⟨rfl, by exact zw⟩
theorem val_f1 (a c : Value) (w : World) : (Instr.field 165 (.agg #[a, c]) 1).run Try.prog w = .ok c w := by kernel_rfl
theorem rbool_any (a k : Int) (D : Doc w b o n cap L) :
    Calls Try.prog 129 #[.slice (some ⟨b, o, none⟩) n cap, .int .i64 a, .int .i64 k] w fun e w' => e = .returned (.agg #[.bool false, .int .u64 (min (loadV L a k) 1)]) ∧ Below w.heap.size w w' := by
  have v0 := loadV_nonneg L a k
  have v1 := loadV_lt L a k
  have HL := Lib.hid (fun W (hW : Doc W b o n cap L) => without_any b o n cap L W a k hW)
  generalize loadV L a k = v at *
  have hfd := val_f1
  go_enter Try.func129, Try.ntmps129
  go_wp2_with (go_at_call 130; refine (HL.out _ (D.below zw)).mono ?_; rintro e w1 ⟨rfl, hb1⟩; obtain ⟨hc1, hf1, hl1⟩ := bcell hb1; (try simp only [zdz] at hc1 hf1 hl1); have hz1 := hb1.size; (try simp only [zsz] at hz1); (try have g0 : w.heap.size < w1.heap.size := by omega); (try have g1 : w.heap.size + 1 < w1.heap.size := by omega); (try have g2 : w.heap.size + 2 < w1.heap.size := by omega); (try have gb : b < w1.heap.size := by omega); (try have g3 : w.heap.size + 3 < w1.heap.size := by omega); (try have hbb : Below w.heap.size w w1 := zw); (try obtain ⟨hco, hfo, _⟩ := bcell hbb); (try have hb1 := hb1))
  (refine bodyPost_ret (v := .agg #[.bool false, .int .u64 (min v 1)]) (by simp [results, Try.results129, go_sem, *]) rfl ?_)
  exact ⟨rfl, by exact zw⟩
theorem sread_no (p q t k : Int) (D : Doc w b o n cap L) (he : splaceE L p q t k ≠ 0) :
    Calls Try.prog 138 #[.slice (some ⟨b, o, none⟩) n cap, .agg #[.int .i64 p, .int .i64 q, .int .i64 t, .int .i64 k]] w fun e w' => e = .returned (.tuple #[.agg #[.bool false, .int .u64 0], .int .i64 (splaceE L p q t k)]) ∧ Below w.heap.size w w' := by
  have he' : (splaceE L p q t k != 0) = true := by simpa using he
  go_enter Try.func138, Try.ntmps138
  go_wp2_with (go_at_call 81; refine (splace_any b o n cap L p q t k _ (D.below zw)).mono ?_; rintro e w1 ⟨rfl, hb1⟩; obtain ⟨hc1, hf1, hl1⟩ := bcell hb1; (try simp only [zdz] at hc1 hf1 hl1); have hz1 := hb1.size; (try simp only [zsz] at hz1); (try have g0 : w.heap.size < w1.heap.size := by omega); (try have g1 : w.heap.size + 1 < w1.heap.size := by omega); (try have g2 : w.heap.size + 2 < w1.heap.size := by omega); (try have gb : b < w1.heap.size := by omega); (try have g3 : w.heap.size + 3 < w1.heap.size := by omega); (try have hbb : Below w.heap.size w w1 := zw); (try obtain ⟨hco, hfo, _⟩ := bcell hbb); (try have hb1 := hb1))
  (refine bodyPost_ret (v := .tuple #[.agg #[.bool false, .int .u64 0], .int .i64 (splaceE L p q t k)]) (by simp [results, Try.results138, go_sem, *]) rfl ?_)
  exact ⟨rfl, by exact zw⟩
set_option maxHeartbeats 1000000 in
theorem sread_w (p q t k : Int) (D : Doc w b o n cap L) (he : splaceE L p q t k = 0) (z : Bool) (u : Int) (h0 : 0 ≤ t) (h1 : t < 37) (hf : rdFn t = fnS 131)
    (HR : ∀ W, Doc W b o n cap L → Calls Try.prog 131 #[.slice (some ⟨b, o, none⟩) n cap, .int .i64 (splaceA L p q t k), .int .i64 (splaceW L p q t k)] W fun e w' => e = .returned (.agg #[.bool z, .int .u64 u]) ∧ Below W.heap.size W w') :
    Calls Try.prog 138 #[.slice (some ⟨b, o, none⟩) n cap, .agg #[.int .i64 p, .int .i64 q, .int .i64 t, .int .i64 k]] w fun e w' => e = .returned (.tuple #[.agg #[.bool z, .int .u64 u], .int .i64 0]) ∧ Below w.heap.size w w' := by
  have HP := Lib.hid (fun W (hW : Doc W b o n cap L) => splace_any b o n cap L p q t k W hW)
  rw [he] at HP
  have hlk := fun w => look_rd t h0 h1 w false
  have hlk2 := fun w => look_rd_drew t h0 h1 w false
  simp only [Bool.false_eq_true, if_false, hf, fnS] at hlk hlk2
  have hR := Lib.hid HR
  clear he HR hf
  generalize splaceA L p q t k = A at *
  generalize splaceW L p q t k = K at *
  go_enter Try.func138, Try.ntmps138
  go_wp2_with (go_at_call 81; refine (HP.out _ (D.below zw)).mono ?_; rintro e w1 ⟨rfl, hb1⟩; obtain ⟨hc1, hf1, hl1⟩ := bcell hb1; (try simp only [zdz] at hc1 hf1 hl1); have hz1 := hb1.size; (try simp only [zsz] at hz1); (try have g0 : w.heap.size < w1.heap.size := by omega); (try have g1 : w.heap.size + 1 < w1.heap.size := by omega); (try have g2 : w.heap.size + 2 < w1.heap.size := by omega); (try have gb : b < w1.heap.size := by omega); (try have g3 : w.heap.size + 3 < w1.heap.size := by omega); (try have hbb : Below w.heap.size w w1 := zw); (try obtain ⟨hco, hfo, _⟩ := bcell hbb); (try have hb1 := hb1))
  go_region_with (first | (go_at_call 110; refine (readers_any _).mono ?_; rintro e w1 ⟨rfl, rfl⟩) | (go_at_call 131; refine (hR.out _ (D.below zw)).mono ?_; rintro e w1 ⟨rfl, hb1⟩; obtain ⟨hc1, hf1, hl1⟩ := bcell hb1; (try simp only [zdz] at hc1 hf1 hl1); have hz1 := hb1.size; (try simp only [zsz] at hz1); (try have g0 : w.heap.size < w1.heap.size := by omega); (try have g1 : w.heap.size + 1 < w1.heap.size := by omega); (try have g2 : w.heap.size + 2 < w1.heap.size := by omega); (try have gb : b < w1.heap.size := by omega); (try have g3 : w.heap.size + 3 < w1.heap.size := by omega); (try have hbb : Below w.heap.size w w1 := zw); (try obtain ⟨hco, hfo, _⟩ := bcell hbb); (try have hb1 := hb1)))
  all_goals go_wp2
  all_goals (refine bodyPost_ret (v := .tuple #[.agg #[.bool z, .int .u64 u], .int .i64 0]) (by simp [results, Try.results138, go_sem, *]) rfl ?_)
  all_goals exact ⟨rfl, by exact zw⟩
set_option maxHeartbeats 1000000 in
theorem sread_o (p q t k : Int) (D : Doc w b o n cap L) (he : splaceE L p q t k = 0) (z : Bool) (u : Int) (h0 : 0 ≤ t) (h1 : t < 37) (hf : rdFn t = fnS 130)
    (HR : ∀ W, Doc W b o n cap L → Calls Try.prog 130 #[.slice (some ⟨b, o, none⟩) n cap, .int .i64 (splaceA L p q t k), .int .i64 (splaceW L p q t k)] W fun e w' => e = .returned (.agg #[.bool z, .int .u64 u]) ∧ Below W.heap.size W w') :
    Calls Try.prog 138 #[.slice (some ⟨b, o, none⟩) n cap, .agg #[.int .i64 p, .int .i64 q, .int .i64 t, .int .i64 k]] w fun e w' => e = .returned (.tuple #[.agg #[.bool z, .int .u64 u], .int .i64 0]) ∧ Below w.heap.size w w' := by
  have HP := Lib.hid (fun W (hW : Doc W b o n cap L) => splace_any b o n cap L p q t k W hW)
  rw [he] at HP
  have hlk := fun w => look_rd t h0 h1 w false
  have hlk2 := fun w => look_rd_drew t h0 h1 w false
  simp only [Bool.false_eq_true, if_false, hf, fnS] at hlk hlk2
  have hR := Lib.hid HR
  clear he HR hf
  generalize splaceA L p q t k = A at *
  generalize splaceW L p q t k = K at *
  go_enter Try.func138, Try.ntmps138
  go_wp2_with (go_at_call 81; refine (HP.out _ (D.below zw)).mono ?_; rintro e w1 ⟨rfl, hb1⟩; obtain ⟨hc1, hf1, hl1⟩ := bcell hb1; (try simp only [zdz] at hc1 hf1 hl1); have hz1 := hb1.size; (try simp only [zsz] at hz1); (try have g0 : w.heap.size < w1.heap.size := by omega); (try have g1 : w.heap.size + 1 < w1.heap.size := by omega); (try have g2 : w.heap.size + 2 < w1.heap.size := by omega); (try have gb : b < w1.heap.size := by omega); (try have g3 : w.heap.size + 3 < w1.heap.size := by omega); (try have hbb : Below w.heap.size w w1 := zw); (try obtain ⟨hco, hfo, _⟩ := bcell hbb); (try have hb1 := hb1))
  go_region_with (first | (go_at_call 110; refine (readers_any _).mono ?_; rintro e w1 ⟨rfl, rfl⟩) | (go_at_call 130; refine (hR.out _ (D.below zw)).mono ?_; rintro e w1 ⟨rfl, hb1⟩; obtain ⟨hc1, hf1, hl1⟩ := bcell hb1; (try simp only [zdz] at hc1 hf1 hl1); have hz1 := hb1.size; (try simp only [zsz] at hz1); (try have g0 : w.heap.size < w1.heap.size := by omega); (try have g1 : w.heap.size + 1 < w1.heap.size := by omega); (try have g2 : w.heap.size + 2 < w1.heap.size := by omega); (try have gb : b < w1.heap.size := by omega); (try have g3 : w.heap.size + 3 < w1.heap.size := by omega); (try have hbb : Below w.heap.size w w1 := zw); (try obtain ⟨hco, hfo, _⟩ := bcell hbb); (try have hb1 := hb1)))
  all_goals go_wp2
  all_goals (refine bodyPost_ret (v := .tuple #[.agg #[.bool z, .int .u64 u], .int .i64 0]) (by simp [results, Try.results138, go_sem, *]) rfl ?_)
  all_goals exact ⟨rfl, by exact zw⟩
set_option maxHeartbeats 1000000 in
theorem sread_b (p q t k : Int) (D : Doc w b o n cap L) (he : splaceE L p q t k = 0) (z : Bool) (u : Int) (h0 : 0 ≤ t) (h1 : t < 37) (hf : rdFn t = fnS 129)
    (HR : ∀ W, Doc W b o n cap L → Calls Try.prog 129 #[.slice (some ⟨b, o, none⟩) n cap, .int .i64 (splaceA L p q t k), .int .i64 (splaceW L p q t k)] W fun e w' => e = .returned (.agg #[.bool z, .int .u64 u]) ∧ Below W.heap.size W w') :
    Calls Try.prog 138 #[.slice (some ⟨b, o, none⟩) n cap, .agg #[.int .i64 p, .int .i64 q, .int .i64 t, .int .i64 k]] w fun e w' => e = .returned (.tuple #[.agg #[.bool z, .int .u64 u], .int .i64 0]) ∧ Below w.heap.size w w' := by
  have HP := Lib.hid (fun W (hW : Doc W b o n cap L) => splace_any b o n cap L p q t k W hW)
  rw [he] at HP
  have hlk := fun w => look_rd t h0 h1 w false
  have hlk2 := fun w => look_rd_drew t h0 h1 w false
  simp only [Bool.false_eq_true, if_false, hf, fnS] at hlk hlk2
  have hR := Lib.hid HR
  clear he HR hf
  generalize splaceA L p q t k = A at *
  generalize splaceW L p q t k = K at *
  go_enter Try.func138, Try.ntmps138
  go_wp2_with (go_at_call 81; refine (HP.out _ (D.below zw)).mono ?_; rintro e w1 ⟨rfl, hb1⟩; obtain ⟨hc1, hf1, hl1⟩ := bcell hb1; (try simp only [zdz] at hc1 hf1 hl1); have hz1 := hb1.size; (try simp only [zsz] at hz1); (try have g0 : w.heap.size < w1.heap.size := by omega); (try have g1 : w.heap.size + 1 < w1.heap.size := by omega); (try have g2 : w.heap.size + 2 < w1.heap.size := by omega); (try have gb : b < w1.heap.size := by omega); (try have g3 : w.heap.size + 3 < w1.heap.size := by omega); (try have hbb : Below w.heap.size w w1 := zw); (try obtain ⟨hco, hfo, _⟩ := bcell hbb); (try have hb1 := hb1))
  go_region_with (first | (go_at_call 110; refine (readers_any _).mono ?_; rintro e w1 ⟨rfl, rfl⟩) | (go_at_call 129; refine (hR.out _ (D.below zw)).mono ?_; rintro e w1 ⟨rfl, hb1⟩; obtain ⟨hc1, hf1, hl1⟩ := bcell hb1; (try simp only [zdz] at hc1 hf1 hl1); have hz1 := hb1.size; (try simp only [zsz] at hz1); (try have g0 : w.heap.size < w1.heap.size := by omega); (try have g1 : w.heap.size + 1 < w1.heap.size := by omega); (try have g2 : w.heap.size + 2 < w1.heap.size := by omega); (try have gb : b < w1.heap.size := by omega); (try have g3 : w.heap.size + 3 < w1.heap.size := by omega); (try have hbb : Below w.heap.size w w1 := zw); (try obtain ⟨hco, hfo, _⟩ := bcell hbb); (try have hb1 := hb1)))
  all_goals go_wp2
  all_goals (refine bodyPost_ret (v := .tuple #[.agg #[.bool z, .int .u64 u], .int .i64 0]) (by simp [results, Try.results138, go_sem, *]) rfl ?_)
  all_goals exact ⟨rfl, by exact zw⟩
end
end Go.Proofs.Ytmpflnlajakibaa
