/- The reference's packages 01, 02, 21: the same numbers as the program's. The reference's Load, Unpack, May, Target. The reference's Target and Root. -/
import Derived.Test.YtmpflnlajakibaaA2
namespace Go.Proofs.Ytmpflnlajakibaa
set_option linter.unusedVariables false
set_option linter.unusedSimpArgs false
section
open Go.RowKit
theorem rwide_any (n : Int) (w : World) : Calls Try.prog 49 #[.int .i64 n] w fun e w' => e = .returned (.bool (wideB n)) ∧ w = w' := by
  have hw : wideB n = (n == 1 || n == 2 || n == 4 || n == 8) := rfl
  by_cases h1 : n = 1
  · subst h1; go_enter Try.func49, Try.ntmps49; go_wp2; go_returns; exact ⟨rfl, rfl⟩
  · by_cases h2 : n = 2
    · subst h2; go_enter Try.func49, Try.ntmps49; go_wp2; go_returns; exact ⟨rfl, rfl⟩
    · by_cases h4 : n = 4
      · subst h4; go_enter Try.func49, Try.ntmps49; go_wp2; go_returns; exact ⟨rfl, rfl⟩
      · by_cases h8 : n = 8
        · subst h8; go_enter Try.func49, Try.ntmps49; go_wp2; go_returns; exact ⟨rfl, rfl⟩
        · have e : wideB n = false := by simp [wideB, h1, h2, h4, h8]
          have e1 : (n == 1) = false := by simpa using h1
          have e2 : (n == 2) = false := by simpa using h2
          have e4 : (n == 4) = false := by simpa using h4
          have e8 : (n == 8) = false := by simpa using h8
          rw [e]; clear hw e
          go_enter Try.func49, Try.ntmps49; go_wp2; go_returns; exact ⟨rfl, rfl⟩
theorem rinline_any (t : Int) (w : World) : Calls Try.prog 53 #[.int .i64 t] w fun e w' => e = .returned (.bool (inlineB t)) ∧ w = w' := by
  by_cases h : t < 0 ∨ 37 ≤ t
  · have e : inlineB t = false := by simp [inlineB, isOf_out h]
    rw [e]; clear e
    have e0 : (t == 0) = false := by simpa using (show t ≠ 0 by omega)
    have e1 : (t == 1) = false := by simpa using (show t ≠ 1 by omega)
    have e2 : (t == 2) = false := by simpa using (show t ≠ 2 by omega)
    have e26 : (t == 26) = false := by simpa using (show t ≠ 26 by omega)
    clear h
    go_enter Try.func53, Try.ntmps53; go_wp2; go_returns; exact ⟨rfl, rfl⟩
  have h37 : t = 0 ∨ t = 1 ∨ t = 2 ∨ t = 3 ∨ t = 4 ∨ t = 5 ∨ t = 6 ∨ t = 7 ∨ t = 8 ∨ t = 9 ∨ t = 10 ∨ t = 11 ∨ t = 12 ∨ t = 13 ∨ t = 14 ∨ t = 15 ∨ t = 16 ∨ t = 17 ∨ t = 18 ∨ t = 19 ∨ t = 20 ∨ t = 21 ∨ t = 22 ∨ t = 23 ∨ t = 24 ∨ t = 25 ∨ t = 26 ∨ t = 27 ∨ t = 28 ∨ t = 29 ∨ t = 30 ∨ t = 31 ∨ t = 32 ∨ t = 33 ∨ t = 34 ∨ t = 35 ∨ t = 36 := by omega
  rcases h37 with rfl | rfl | rfl | rfl | rfl | rfl | rfl | rfl | rfl | rfl | rfl | rfl | rfl | rfl | rfl | rfl | rfl | rfl | rfl | rfl | rfl | rfl | rfl | rfl | rfl | rfl | rfl | rfl | rfl | rfl | rfl | rfl | rfl | rfl | rfl | rfl | rfl
  all_goals (go_enter Try.func53, Try.ntmps53; go_wp2; go_returns; exact ⟨rfl, rfl⟩)
theorem rlegal_out (t : Int) (h : t < 0 ∨ 37 ≤ t) (w : World) : Calls Try.prog 85 #[.int .i64 t] w fun e w' => e = .returned (.bool (legalB t)) ∧ w = w' := by
  have e : legalB t = false := by simp [legalB, isOf_out h]
  rw [e]; clear e
  have e0 : (t == 0) = false := by simpa using (show t ≠ 0 by omega)
  have e1 : (t == 1) = false := by simpa using (show t ≠ 1 by omega)
  have e2 : (t == 2) = false := by simpa using (show t ≠ 2 by omega)
  have e4 : (t == 4) = false := by simpa using (show t ≠ 4 by omega)
  have e5 : (t == 5) = false := by simpa using (show t ≠ 5 by omega)
  have e6 : (t == 6) = false := by simpa using (show t ≠ 6 by omega)
  have e7 : (t == 7) = false := by simpa using (show t ≠ 7 by omega)
  have e9 : (t == 9) = false := by simpa using (show t ≠ 9 by omega)
  have e10 : (t == 10) = false := by simpa using (show t ≠ 10 by omega)
  have e11 : (t == 11) = false := by simpa using (show t ≠ 11 by omega)
  have e12 : (t == 12) = false := by simpa using (show t ≠ 12 by omega)
  have e14 : (t == 14) = false := by simpa using (show t ≠ 14 by omega)
  have e16 : (t == 16) = false := by simpa using (show t ≠ 16 by omega)
  have e17 : (t == 17) = false := by simpa using (show t ≠ 17 by omega)
  have e19 : (t == 19) = false := by simpa using (show t ≠ 19 by omega)
  have e20 : (t == 20) = false := by simpa using (show t ≠ 20 by omega)
  have e22 : (t == 22) = false := by simpa using (show t ≠ 22 by omega)
  have e23 : (t == 23) = false := by simpa using (show t ≠ 23 by omega)
  have e25 : (t == 25) = false := by simpa using (show t ≠ 25 by omega)
  have e26 : (t == 26) = false := by simpa using (show t ≠ 26 by omega)
  have e36 : (t == 36) = false := by simpa using (show t ≠ 36 by omega)
  clear h
  go_enter Try.func85, Try.ntmps85; go_wp2; go_returns; exact ⟨rfl, rfl⟩
theorem rlegal_any (t : Int) (w : World) : Calls Try.prog 85 #[.int .i64 t] w fun e w' => e = .returned (.bool (legalB t)) ∧ w = w' := by
  by_cases h : t < 0 ∨ 37 ≤ t
  · exact rlegal_out t h w
  have h37 : t = 0 ∨ t = 1 ∨ t = 2 ∨ t = 3 ∨ t = 4 ∨ t = 5 ∨ t = 6 ∨ t = 7 ∨ t = 8 ∨ t = 9 ∨ t = 10 ∨ t = 11 ∨ t = 12 ∨ t = 13 ∨ t = 14 ∨ t = 15 ∨ t = 16 ∨ t = 17 ∨ t = 18 ∨ t = 19 ∨ t = 20 ∨ t = 21 ∨ t = 22 ∨ t = 23 ∨ t = 24 ∨ t = 25 ∨ t = 26 ∨ t = 27 ∨ t = 28 ∨ t = 29 ∨ t = 30 ∨ t = 31 ∨ t = 32 ∨ t = 33 ∨ t = 34 ∨ t = 35 ∨ t = 36 := by omega
  rcases h37 with rfl | rfl | rfl | rfl | rfl | rfl | rfl | rfl | rfl | rfl | rfl | rfl | rfl | rfl | rfl | rfl | rfl | rfl | rfl | rfl | rfl | rfl | rfl | rfl | rfl | rfl | rfl | rfl | rfl | rfl | rfl | rfl | rfl | rfl | rfl | rfl | rfl
  all_goals (go_enter Try.func85, Try.ntmps85; go_wp2; go_returns; exact ⟨rfl, rfl⟩)
theorem relem_out (t : Int) (h : t < 0 ∨ 37 ≤ t) (w : World) : Calls Try.prog 120 #[.int .i64 t] w fun e w' => e = .returned (.tuple #[.int .i64 (elemOf t), .int .i64 (manyOf t), .bool (vecB t)]) ∧ w = w' := by
  have e1 : elemOf t = 0 := elemOf_out h
  have e2 : manyOf t = 0 := manyOf_out h
  have e3 : vecB t = false := by simp [vecB, isOf_out h]
  rw [e1, e2, e3]; clear e1 e2 e3
  have e11 : (t == 11) = false := by simpa using (show t ≠ 11 by omega)
  have e12 : (t == 12) = false := by simpa using (show t ≠ 12 by omega)
  have e14 : (t == 14) = false := by simpa using (show t ≠ 14 by omega)
  have e36 : (t == 36) = false := by simpa using (show t ≠ 36 by omega)
  have e16 : (t == 16) = false := by simpa using (show t ≠ 16 by omega)
  have e19 : (t == 19) = false := by simpa using (show t ≠ 19 by omega)
  have e22 : (t == 22) = false := by simpa using (show t ≠ 22 by omega)
  have e17 : (t == 17) = false := by simpa using (show t ≠ 17 by omega)
  have e20 : (t == 20) = false := by simpa using (show t ≠ 20 by omega)
  have e23 : (t == 23) = false := by simpa using (show t ≠ 23 by omega)
  clear h
  go_enter Try.func120, Try.ntmps120; go_wp2; go_returns; exact ⟨rfl, rfl⟩
theorem relem_any (t : Int) (w : World) : Calls Try.prog 120 #[.int .i64 t] w fun e w' => e = .returned (.tuple #[.int .i64 (elemOf t), .int .i64 (manyOf t), .bool (vecB t)]) ∧ w = w' := by
  by_cases h : t < 0 ∨ 37 ≤ t
  · exact relem_out t h w
  have h37 : t = 0 ∨ t = 1 ∨ t = 2 ∨ t = 3 ∨ t = 4 ∨ t = 5 ∨ t = 6 ∨ t = 7 ∨ t = 8 ∨ t = 9 ∨ t = 10 ∨ t = 11 ∨ t = 12 ∨ t = 13 ∨ t = 14 ∨ t = 15 ∨ t = 16 ∨ t = 17 ∨ t = 18 ∨ t = 19 ∨ t = 20 ∨ t = 21 ∨ t = 22 ∨ t = 23 ∨ t = 24 ∨ t = 25 ∨ t = 26 ∨ t = 27 ∨ t = 28 ∨ t = 29 ∨ t = 30 ∨ t = 31 ∨ t = 32 ∨ t = 33 ∨ t = 34 ∨ t = 35 ∨ t = 36 := by omega
  rcases h37 with rfl | rfl | rfl | rfl | rfl | rfl | rfl | rfl | rfl | rfl | rfl | rfl | rfl | rfl | rfl | rfl | rfl | rfl | rfl | rfl | rfl | rfl | rfl | rfl | rfl | rfl | rfl | rfl | rfl | rfl | rfl | rfl | rfl | rfl | rfl | rfl | rfl
  all_goals (go_enter Try.func120, Try.ntmps120; go_wp2; go_returns; exact ⟨rfl, rfl⟩)
theorem rinside_any (v : Option Addr) (n cap : Nat) (hn : n ≤ maxLen) (a k : Int) (w : World) : Calls Try.prog 91 #[.slice v n cap, .int .i64 a, .int .i64 k] w fun e w' => e = .returned (.bool (insideB n a k)) ∧ w = w' := by
  unfold maxLen at hn
  by_cases h1 : 0 ≤ a
  · by_cases h2 : 0 ≤ k
    · by_cases h3 : a ≤ (n : Int)
      · by_cases h4 : k ≤ (n : Int) - a
        · have e : insideB n a k = true := by simp [insideB, h1, h2, h3, h4]
          rw [e]; clear e
          go_enter Try.func91, Try.ntmps91; go_wp2; go_returns; exact ⟨rfl, rfl⟩
        · have e : insideB n a k = false := by simp [insideB, h4]
          rw [e]; clear e
          go_enter Try.func91, Try.ntmps91; go_wp2; go_returns; exact ⟨rfl, rfl⟩
      · have e : insideB n a k = false := by simp [insideB, h3]
        rw [e]; clear e
        go_enter Try.func91, Try.ntmps91; go_wp2; go_returns; exact ⟨rfl, rfl⟩
    · have e : insideB n a k = false := by simp [insideB, h2]
      rw [e]; clear e
      go_enter Try.func91, Try.ntmps91; go_wp2; go_returns; exact ⟨rfl, rfl⟩
  · have e : insideB n a k = false := by simp [insideB, h1]
    rw [e]; clear e
    go_enter Try.func91, Try.ntmps91; go_wp2; go_returns; exact ⟨rfl, rfl⟩
theorem rwidth_any (k : Nat) (h : k < 4) (w : World) : Calls Try.prog 86 #[.int .i64 k] w fun e w' => e = .returned (.int .i64 (2 ^ k)) ∧ w = w' := by
  have h4 : k = 0 ∨ k = 1 ∨ k = 2 ∨ k = 3 := by omega
  rcases h4 with rfl | rfl | rfl | rfl
  all_goals (go_enter Try.func86, Try.ntmps86; go_wp2; go_returns; exact ⟨rfl, rfl⟩)
end
section
open Go.RowKit
theorem leVal_drop (l : List UInt8) (k : Nat) (h : k < l.length) : leVal (l.drop k) = l[k].toNat + 256 * leVal (l.drop (k + 1)) := by
  rw [List.drop_eq_getElem_cons h]; rfl
theorem leVal_drop_lt (l : List UInt8) (k : Nat) (h : l.length ≤ 8) (hk : 1 ≤ k) : leVal (l.drop k) < 72057594037927936 := by
  have := leVal_lt (l.drop k)
  have h2 : (l.drop k).length ≤ 7 := by simp; omega
  have h3 : 256 ^ (l.drop k).length ≤ 256 ^ 7 := Nat.pow_le_pow_right (by omega) h2
  have h4 : (256 : Nat) ^ 7 = 72057594037927936 := by decide
  omega
set_option maxHeartbeats 1000000 in
theorem rload_good (b o n cap : Nat) (L : List UInt8) (i j : Nat) (w : World) (D : Doc w b o n cap L) (hj : wideB j = true) (hij : i + j ≤ n) :
    Calls Try.prog 87 #[.slice (some ⟨b, o, none⟩) n cap, .int .i64 i, .int .i64 j] w fun e w' => e = .returned (.tuple #[.int .u64 (leVal (window L i j)), .int .i64 0]) ∧ w = w' := by
  obtain ⟨hn1, hn2⟩ := D.bd
  have hjb := wideB_bd hj
  have hj8 : (j : Int) ≤ 8 := hjb.2
  have hj1 : (1 : Int) ≤ j := hjb.1
  have Hl := Lib.hid D.len
  have hwl : (window L i j).length = j := window_length (by rw [D.len]; exact hij)
  have Hw := Lib.hid hwl
  clear hwl
  have hlook : Calls Try.prog 114 #[.slice (some ⟨b, o, none⟩) n cap, .int .i64 i, .int .i64 j] w fun e w' => e = .returned (.int .i64 0) ∧ w = w' := by
    clear Hw Hl
    go_enter Try.func114, Try.ntmps114
    go_wp2_with (go_at_call 49; refine (rwide_any _ _).mono ?_; rintro e w1 ⟨rfl, rfl⟩)
    go_returns
    exact ⟨rfl, rfl⟩
  have HJ := Lib.hid hj
  clear hj hjb
  go_enter Try.func87, Try.ntmps87
  go_wp2_with (go_at_call 114; refine (hlook).mono ?_; rintro e w1 ⟨rfl, rfl⟩)
  clear hlook
  go_loop [9, 10] (fun x i' => ∃ k y : Nat, k ≤ j ∧ i' = .int .i64 ((k : Int) - 1) ∧ x = .int .u64 y ∧ y = leVal ((window L i j).drop k)) (fun _ i' => (intOf i' + 1).toNat)
  case atStart => exact ⟨j, 0, Nat.le_refl _, rfl, rfl, by rw [List.drop_eq_nil_of_le (by rw [Hw.out]; omega)]; rfl⟩
  case round =>
    obtain ⟨k, y, hk, rfl, rfl, hy⟩ := hrel
    have Hy := Lib.hid hy; clear hy
    rcases Nat.eq_zero_or_pos k with rfl | hk0
    · have hlt : ¬ ((0 : Nat) : Int) - 1 ≥ 0 := by omega
      simp only [Int.ofNat_zero, Int.zero_sub]
      go_wp2
      go_ret2
      refine ⟨?_, rfl⟩
      rw [Hy.out]; rfl
    · obtain ⟨q, rfl⟩ : ∃ q, k = q + 1 := ⟨k - 1, by omega⟩
      have hq : ((q + 1 : Nat) : Int) - 1 = (q : Int) := by omega
      rw [hq]
      have hyl : (y : Int) < 72057594037927936 := by
        have := leVal_drop_lt (window L i j) (q + 1) (by rw [Hw.out]; omega) (by omega)
        rw [← Hy.out] at this; omega
      have hqn : i + q < n := by omega
      have hqL : q < (window L i j).length := by rw [Hw.out]; omega
      have hc : w.cell? ⟨b, o + (i + q), none⟩ = some (.int .u8 ((window L i j)[q].toNat : Int)) := by
        have := D.at_.win i j (by rw [Hl.out]; exact hij) q hqL
        rw [Nat.add_assoc] at this; exact this
      have hb8 : (((window L i j)[q].toNat : Nat) : Int) < 256 := by have := (window L i j)[q].toNat_lt; omega
      have hs := Lib.hid (leVal_drop (window L i j) q hqL)
      generalize hz : (window L i j)[q].toNat = z at hc hb8 hs
      clear hz hqL hq
      have hq0 : (0 : Int) ≤ (q : Int) := by omega
      have hidx : ((i : Int) + (q : Int)).toNat = i + q := by omega
      go_wp2
      go_round
      case rel => exact ⟨q, z + 256 * y, by omega, rfl, by go_num, by rw [hs.out, Hy.out]⟩
      case measure => simp only [intOf]; omega
theorem rlook_any (v : Option Addr) (n cap : Nat) (hn : n ≤ 1073741824) (L : List UInt8) (hL : L.length = n) (a k : Int) (w : World) :
    Calls Try.prog 114 #[.slice v n cap, .int .i64 a, .int .i64 k] w fun e w' => e = .returned (.int .i64 (loadE L a k)) ∧ w = w' := by
  by_cases hw : wideB k = true
  · have hk := wideB_bd hw
    by_cases ha : a < 0
    · have e1 : loadE L a k = 6 := by simp [loadE, hw, ha]
      rw [e1]; clear e1 hL
      go_enter Try.func114, Try.ntmps114
      go_wp2_with (go_at_call 49; refine (rwide_any _ _).mono ?_; rintro e w1 ⟨rfl, rfl⟩)
      go_returns
      exact ⟨rfl, rfl⟩
    · by_cases ha2 : (n : Int) - k < a
      · have e1 : loadE L a k = 6 := by simp [loadE, hw, hL, ha2]
        rw [e1]; clear e1 hL
        by_cases ha3 : (n : Int) < k
        · go_enter Try.func114, Try.ntmps114
          go_wp2_with (go_at_call 49; refine (rwide_any _ _).mono ?_; rintro e w1 ⟨rfl, rfl⟩)
          go_returns
          exact ⟨rfl, rfl⟩
        · go_enter Try.func114, Try.ntmps114
          go_wp2_with (go_at_call 49; refine (rwide_any _ _).mono ?_; rintro e w1 ⟨rfl, rfl⟩)
          go_returns
          exact ⟨rfl, rfl⟩
      · have e1 : loadE L a k = 0 := by simp [loadE, hw, hL, ha2, ha]
        rw [e1]; clear e1 hL
        go_enter Try.func114, Try.ntmps114
        go_wp2_with (go_at_call 49; refine (rwide_any _ _).mono ?_; rintro e w1 ⟨rfl, rfl⟩)
        go_returns
        exact ⟨rfl, rfl⟩
  · have hw' : wideB k = false := by simpa using hw
    have e1 : loadE L a k = 2 := by simp [loadE, hw']
    rw [e1]; clear e1 hw hL
    go_enter Try.func114, Try.ntmps114
    go_wp2_with (go_at_call 49; refine (rwide_any _ _).mono ?_; rintro e w1 ⟨rfl, rfl⟩)
    go_returns
    exact ⟨rfl, rfl⟩
theorem rload_any (b o n cap : Nat) (L : List UInt8) (a k : Int) (w : World) (D : Doc w b o n cap L) :
    Calls Try.prog 87 #[.slice (some ⟨b, o, none⟩) n cap, .int .i64 a, .int .i64 k] w fun e w' => e = .returned (.tuple #[.int .u64 (loadV L a k), .int .i64 (loadE L a k)]) ∧ w = w' := by
  obtain ⟨hn1, hn2⟩ := D.bd
  have hL := D.len
  by_cases he : loadE L a k = 0
  · have hw : wideB k = true := by
      unfold loadE at he; split at he
      · omega
      · rename_i h'; simpa using h'
    have hk := wideB_bd hw
    have h2 : ¬ (a < 0 ∨ (L.length : Int) - k < a) := by
      intro h; simp [loadE, hw, h] at he
    rw [he, show loadV L a k = leVal (window L a.toNat k.toNat) by simp [loadV, he]]
    obtain ⟨i, rfl⟩ := Int.eq_ofNat_of_zero_le (show 0 ≤ a by omega)
    obtain ⟨j, rfl⟩ := Int.eq_ofNat_of_zero_le (show 0 ≤ k by omega)
    rw [Int.toNat_natCast, Int.toNat_natCast]
    exact rload_good b o n cap L i j w D hw (by omega)
  · have e2 : loadV L a k = 0 := by simp [loadV, he]
    have he' : (loadE L a k != 0) = true := by simpa using he
    have Hc := Lib.hid (rlook_any (some ⟨b, o, none⟩) n cap hn1 L hL a k w)
    rw [e2]
    clear e2 he hL
    go_enter Try.func87, Try.ntmps87
    go_wp2_with (go_at_call 114; refine (Hc.out).mono ?_; rintro e w1 ⟨rfl, rfl⟩)
    go_returns
    exact ⟨rfl, rfl⟩
theorem runpack_any (c : UInt8) (w : World) : Calls Try.prog 50 #[.int .u8 c.toNat] w fun e w' => e = .returned (.tuple #[.int .i64 (unpackT c), .int .i64 (unpackW c), .int .i64 (unpackE c)]) ∧ w = w' := by
  have hc := c.toNat_lt
  have hc' : (c.toNat : Int) < 256 := by omega
  have hm : c.toNat % 4 < 4 := Nat.mod_lt _ (by omega)
  have hq : Int.tdiv (c.toNat : Int) 4 = (c.toNat : Int) / 4 := Int.tdiv_eq_ediv_of_nonneg (by omega)
  have hr : Int.tmod (c.toNat : Int) 4 = ((c.toNat % 4 : Nat) : Int) := by rw [Int.tmod_eq_emod_of_nonneg (by omega)]; omega
  have hd : (0 : Int) ≤ (c.toNat : Int) / 4 ∧ (c.toNat : Int) / 4 < 64 := by omega
  obtain ⟨hd0, hd1⟩ := hd
  have Hm := Lib.hid hm
  clear hm hc
  generalize hx : (c.toNat : Int) / 4 = x at hq hd0 hd1
  by_cases hl : legalB x = true
  · have e1 : unpackT c = x := by simp [unpackT, hx, hl]
    have e2 : unpackW c = 2 ^ (c.toNat % 4) := by simp [unpackW, hx, hl]
    have e3 : unpackE c = 0 := by simp [unpackE, hx, hl]
    rw [e1, e2, e3]; clear e1 e2 e3 hx
    go_enter Try.func50, Try.ntmps50
    go_wp2_with (first | (go_at_call 85; refine (rlegal_any _ _).mono ?_; rintro e w1 ⟨rfl, rfl⟩) | (go_at_call 86; refine (rwidth_any (c.toNat % 4) Hm.out _).mono ?_; rintro e w1 ⟨rfl, rfl⟩))
    go_returns
    exact ⟨rfl, rfl⟩
  · have hl' : legalB x = false := by simpa using hl
    have e1 : unpackT c = 0 := by simp [unpackT, hx, hl']
    have e2 : unpackW c = 0 := by simp [unpackW, hx, hl']
    have e3 : unpackE c = 20 := by simp [unpackE, hx, hl']
    rw [e1, e2, e3]; clear e1 e2 e3 hx hl
    go_enter Try.func50, Try.ntmps50
    go_wp2_with (first | (go_at_call 85; refine (rlegal_any _ _).mono ?_; rintro e w1 ⟨rfl, rfl⟩) | (go_at_call 86; refine (rwidth_any (c.toNat % 4) Hm.out _).mono ?_; rintro e w1 ⟨rfl, rfl⟩))
    go_returns
    exact ⟨rfl, rfl⟩
theorem rmay_any (b o n cap : Nat) (L : List UInt8) (p q t k : Int) (w : World) (D : Doc w b o n cap L) :
    Calls Try.prog 89 #[.slice (some ⟨b, o, none⟩) n cap, .agg #[.int .i64 p, .int .i64 q, .int .i64 t, .int .i64 k]] w fun e w' => e = .returned (.int .i64 (mayE n p q t k)) ∧ Below w.heap.size w w' := by
  obtain ⟨hn1, hn2⟩ := D.bd
  have hmax : n ≤ maxLen := by have := D.max; have := D.le; omega
  have hbw := D.lt
  cases h1 : legalB t with
  | false =>
    have e1 : mayE n p q t k = 2 := by simp [mayE, h1]
    rw [e1]; clear e1
    go_enter Try.func89, Try.ntmps89
    go_wp2_with (first | (go_at_call 85; refine (rlegal_any _ _).mono ?_; rintro e w1 ⟨rfl, rfl⟩) | (go_at_call 49; refine (rwide_any _ _).mono ?_; rintro e w1 ⟨rfl, rfl⟩) | (go_at_call 91; refine (rinside_any _ _ _ hmax _ _ _).mono ?_; rintro e w1 ⟨rfl, rfl⟩))
    go_returns
    exact ⟨rfl, by exact zw⟩
  | true =>
    cases h2 : wideB q with
    | false =>
      have e1 : mayE n p q t k = 2 := by simp [mayE, h2]
      rw [e1]; clear e1
      go_enter Try.func89, Try.ntmps89
      go_wp2_with (first | (go_at_call 85; refine (rlegal_any _ _).mono ?_; rintro e w1 ⟨rfl, rfl⟩) | (go_at_call 49; refine (rwide_any _ _).mono ?_; rintro e w1 ⟨rfl, rfl⟩) | (go_at_call 91; refine (rinside_any _ _ _ hmax _ _ _).mono ?_; rintro e w1 ⟨rfl, rfl⟩))
      go_returns
      exact ⟨rfl, by exact zw⟩
    | true =>
      cases h3 : wideB k with
      | false =>
        have e1 : mayE n p q t k = 2 := by simp [mayE, h3]
        rw [e1]; clear e1
        go_enter Try.func89, Try.ntmps89
        go_wp2_with (first | (go_at_call 85; refine (rlegal_any _ _).mono ?_; rintro e w1 ⟨rfl, rfl⟩) | (go_at_call 49; refine (rwide_any _ _).mono ?_; rintro e w1 ⟨rfl, rfl⟩) | (go_at_call 91; refine (rinside_any _ _ _ hmax _ _ _).mono ?_; rintro e w1 ⟨rfl, rfl⟩))
        go_returns
        exact ⟨rfl, by exact zw⟩
      | true =>
        cases h4 : insideB n p q with
        | false =>
          have e1 : mayE n p q t k = 6 := by simp [mayE, h1, h2, h3, h4]
          rw [e1]; clear e1
          go_enter Try.func89, Try.ntmps89
          go_wp2_with (first | (go_at_call 85; refine (rlegal_any _ _).mono ?_; rintro e w1 ⟨rfl, rfl⟩) | (go_at_call 49; refine (rwide_any _ _).mono ?_; rintro e w1 ⟨rfl, rfl⟩) | (go_at_call 91; refine (rinside_any _ _ _ hmax _ _ _).mono ?_; rintro e w1 ⟨rfl, rfl⟩))
          go_returns
          exact ⟨rfl, by exact zw⟩
        | true =>
          have e1 : mayE n p q t k = 0 := by simp [mayE, h1, h2, h3, h4]
          rw [e1]; clear e1
          go_enter Try.func89, Try.ntmps89
          go_wp2_with (first | (go_at_call 85; refine (rlegal_any _ _).mono ?_; rintro e w1 ⟨rfl, rfl⟩) | (go_at_call 49; refine (rwide_any _ _).mono ?_; rintro e w1 ⟨rfl, rfl⟩) | (go_at_call 91; refine (rinside_any _ _ _ hmax _ _ _).mono ?_; rintro e w1 ⟨rfl, rfl⟩))
          go_returns
          exact ⟨rfl, by exact zw⟩
end
section
open Go.RowKit
set_option maxHeartbeats 1000000 in
theorem rtarget_any (b o n cap : Nat) (L : List UInt8) (p q t k : Int) (w : World) (D : Doc w b o n cap L) :
    Calls Try.prog 90 #[.slice (some ⟨b, o, none⟩) n cap, .agg #[.int .i64 p, .int .i64 q, .int .i64 t, .int .i64 k]] w fun e w' => e = .returned (.tuple #[.int .i64 (targetV L p q t k), .int .i64 (targetE L p q t k)]) ∧ Below w.heap.size w w' := by
  obtain ⟨hn1, hn2⟩ := D.bd
  have hlen := D.len
  by_cases hm : mayE n p q t k = 0
  · obtain ⟨h1, h2, h3, h4, h5, h6, h7, h8, h9⟩ := mayE_zero hm
    have e0 := loadE_zero (L := L) h2 h4 (by rw [hlen]; exact h9)
    have v0 := loadV_nonneg L p q
    by_cases hi : inlineB t = true
    · have e1 : targetE L p q t k = 60 := by simp [targetE, hlen, hm, hi]
      have e2 : targetV L p q t k = 0 := by simp [targetV, e1]
      rw [e1, e2]; clear e1 e2 hlen h1 h2 h3
      go_enter Try.func90, Try.ntmps90
      go_wp2_with (first | (go_at_call 89; refine (rmay_any _ _ _ _ L _ _ _ _ _ (D.below zw)).mono ?_; rintro e w1 ⟨rfl, hb1⟩; obtain ⟨hc1, hf1, hl1⟩ := bcell hb1; (try simp only [zdz] at hc1 hf1 hl1); have hz1 := hb1.size; (try simp only [zsz] at hz1); (try have g0 : w.heap.size < w1.heap.size := by omega); (try have g1 : w.heap.size + 1 < w1.heap.size := by omega); (try have g2 : w.heap.size + 2 < w1.heap.size := by omega); (try have gb : b < w1.heap.size := by omega); (try have g3 : w.heap.size + 3 < w1.heap.size := by omega); (try have hbb : Below w.heap.size w w1 := zw); (try obtain ⟨hco, hfo, _⟩ := bcell hbb); (try have hb1 := hb1)) | (go_at_call 53; refine (rinline_any _ _).mono ?_; rintro e w1 ⟨rfl, rfl⟩) | (go_at_call 87; refine (rload_any _ _ _ _ L _ _ _ (D.below zw)).mono ?_; rintro e w1 ⟨rfl, rfl⟩))
      go_returns
      exact ⟨rfl, by exact zw⟩
    · have hi' : inlineB t = false := by simpa using hi
      clear hi
      by_cases hv : p < loadV L p q
      · have e1 : targetE L p q t k = 211 := by simp [targetE, hlen, hm, hi', hv]
        have e2 : targetV L p q t k = 0 := by simp [targetV, e1]
        rw [e1, e2]; clear e1 e2 hlen h1 h2 h3
        go_enter Try.func90, Try.ntmps90
        go_wp2_with (first | (go_at_call 89; refine (rmay_any _ _ _ _ L _ _ _ _ _ (D.below zw)).mono ?_; rintro e w1 ⟨rfl, hb1⟩; obtain ⟨hc1, hf1, hl1⟩ := bcell hb1; (try simp only [zdz] at hc1 hf1 hl1); have hz1 := hb1.size; (try simp only [zsz] at hz1); (try have g0 : w.heap.size < w1.heap.size := by omega); (try have g1 : w.heap.size + 1 < w1.heap.size := by omega); (try have g2 : w.heap.size + 2 < w1.heap.size := by omega); (try have gb : b < w1.heap.size := by omega); (try have g3 : w.heap.size + 3 < w1.heap.size := by omega); (try have hbb : Below w.heap.size w w1 := zw); (try obtain ⟨hco, hfo, _⟩ := bcell hbb); (try have hb1 := hb1)) | (go_at_call 53; refine (rinline_any _ _).mono ?_; rintro e w1 ⟨rfl, rfl⟩) | (go_at_call 87; refine (rload_any _ _ _ _ L _ _ _ (D.below zw)).mono ?_; rintro e w1 ⟨rfl, rfl⟩))
        go_returns
        exact ⟨rfl, by exact zw⟩
      · have e1 : targetE L p q t k = 0 := by simp [targetE, hlen, hm, hi', hv]
        have e2 : targetV L p q t k = p - loadV L p q := by simp [targetV, e1]
        rw [e1, e2]; clear e1 e2 hlen h1 h2 h3
        go_enter Try.func90, Try.ntmps90
        go_wp2_with (first | (go_at_call 89; refine (rmay_any _ _ _ _ L _ _ _ _ _ (D.below zw)).mono ?_; rintro e w1 ⟨rfl, hb1⟩; obtain ⟨hc1, hf1, hl1⟩ := bcell hb1; (try simp only [zdz] at hc1 hf1 hl1); have hz1 := hb1.size; (try simp only [zsz] at hz1); (try have g0 : w.heap.size < w1.heap.size := by omega); (try have g1 : w.heap.size + 1 < w1.heap.size := by omega); (try have g2 : w.heap.size + 2 < w1.heap.size := by omega); (try have gb : b < w1.heap.size := by omega); (try have g3 : w.heap.size + 3 < w1.heap.size := by omega); (try have hbb : Below w.heap.size w w1 := zw); (try obtain ⟨hco, hfo, _⟩ := bcell hbb); (try have hb1 := hb1)) | (go_at_call 53; refine (rinline_any _ _).mono ?_; rintro e w1 ⟨rfl, rfl⟩) | (go_at_call 87; refine (rload_any _ _ _ _ L _ _ _ (D.below zw)).mono ?_; rintro e w1 ⟨rfl, rfl⟩))
        go_returns
        exact ⟨rfl, by exact zw⟩
  · have e1 : targetE L p q t k = mayE n p q t k := by simp [targetE, hlen, hm]
    have e2 : targetV L p q t k = 0 := by simp [targetV, e1, hm]
    have hm' : (mayE n p q t k != 0) = true := by simpa using hm
    rw [e1, e2]; clear e1 e2 hlen hm
    go_enter Try.func90, Try.ntmps90
    go_wp2_with (first | (go_at_call 89; refine (rmay_any _ _ _ _ L _ _ _ _ _ (D.below zw)).mono ?_; rintro e w1 ⟨rfl, hb1⟩; obtain ⟨hc1, hf1, hl1⟩ := bcell hb1; (try simp only [zdz] at hc1 hf1 hl1); have hz1 := hb1.size; (try simp only [zsz] at hz1); (try have g0 : w.heap.size < w1.heap.size := by omega); (try have g1 : w.heap.size + 1 < w1.heap.size := by omega); (try have g2 : w.heap.size + 2 < w1.heap.size := by omega); (try have gb : b < w1.heap.size := by omega); (try have g3 : w.heap.size + 3 < w1.heap.size := by omega); (try have hbb : Below w.heap.size w w1 := zw); (try obtain ⟨hco, hfo, _⟩ := bcell hbb); (try have hb1 := hb1)) | (go_at_call 53; refine (rinline_any _ _).mono ?_; rintro e w1 ⟨rfl, rfl⟩) | (go_at_call 87; refine (rload_any _ _ _ _ L _ _ _ (D.below zw)).mono ?_; rintro e w1 ⟨rfl, rfl⟩))
    go_returns
    exact ⟨rfl, by exact zw⟩
set_option maxHeartbeats 1000000 in
theorem rroot_any (b o n cap : Nat) (L : List UInt8) (w : World) (D : Doc w b o n cap L) (c d : UInt8) (hc : L.getD (n - 1) 0 = c) (hd : L.getD (n - 2) 0 = d) :
    Calls Try.prog 30 #[.slice (some ⟨b, o, none⟩) n cap] w fun e w' => e = .returned (.tuple #[.agg #[.int .i64 (rootP n c d), .int .i64 (rootQ n c d), .int .i64 (rootT n c d), .int .i64 (rootW n c d)], .int .i64 (rootE n c d)]) ∧ Below w.heap.size w w' := by
  obtain ⟨hn1, hn2⟩ := D.bd
  have hle := D.le
  have hbw := D.lt
  by_cases h3 : n < 3
  · have e1 : rootE n c d = 210 := by unfold rootE; rw [if_pos (Or.inl (by omega))]
    obtain ⟨e2, e3, e4, e5⟩ := root_bad e1 (by decide)
    rw [e1, e2, e3, e4, e5]; clear e1 e2 e3 e4 e5
    go_enter Try.func30, Try.ntmps30
    go_wp2_with (go_at_call 49; refine (rwide_any _ _).mono ?_; rintro e w1 ⟨rfl, rfl⟩)
    (refine bodyPost_ret (v := .tuple #[.agg #[.int .i64 0, .int .i64 0, .int .i64 0, .int .i64 0], .int .i64 210]) (by simp [results, Try.results30, go_sem, *]) rfl ?_)
    exact ⟨rfl, by exact zw⟩
  have hb1 := D.byte (n - 1) (by omega)
  have hb2 := D.byte (n - 2) (by omega)
  rw [hc] at hb1; rw [hd] at hb2
  clear hc hd
  have hcl := c.toNat_lt
  by_cases hw' : wideB c.toNat = false
  · have e1 : rootE n c d = 210 := by unfold rootE; rw [if_pos (Or.inr hw')]
    obtain ⟨e2, e3, e4, e5⟩ := root_bad e1 (by decide)
    rw [e1, e2, e3, e4, e5]; clear e1 e2 e3 e4 e5
    go_enter Try.func30, Try.ntmps30
    go_wp2_with (first | (go_at_call 49; refine (rwide_any _ _).mono ?_; rintro e w1 ⟨rfl, rfl⟩) | (go_at_call 50; refine (runpack_any _ _).mono ?_; rintro e w1 ⟨rfl, rfl⟩))
    (refine bodyPost_ret (v := .tuple #[.agg #[.int .i64 0, .int .i64 0, .int .i64 0, .int .i64 0], .int .i64 210]) (by simp [results, Try.results30, go_sem, *]) rfl ?_)
    exact ⟨rfl, by exact zw⟩
  have hw : wideB c.toNat = true := by simpa using hw'
  have hwb := wideB_bd hw
  have g1 : ¬ ((n : Int) < 3 ∨ wideB c.toNat = false) := by simp [hw]; omega
  clear hw'
  by_cases hl' : legalB ((d.toNat : Int) / 4) = false
  · have e1 : rootE n c d = 20 := by unfold rootE; rw [if_neg g1, if_pos hl']
    have u1 : unpackE d = 20 := by simp [unpackE, hl']
    clear g1
    obtain ⟨e2, e3, e4, e5⟩ := root_bad e1 (by decide)
    rw [e1, e2, e3, e4, e5]; clear e1 e2 e3 e4 e5
    go_enter Try.func30, Try.ntmps30
    go_wp2_with (first | (go_at_call 49; refine (rwide_any _ _).mono ?_; rintro e w1 ⟨rfl, rfl⟩) | (go_at_call 50; refine (runpack_any _ _).mono ?_; rintro e w1 ⟨rfl, rfl⟩))
    (refine bodyPost_ret (v := .tuple #[.agg #[.int .i64 0, .int .i64 0, .int .i64 0, .int .i64 0], .int .i64 20]) (by simp [results, Try.results30, go_sem, *]) rfl ?_)
    exact ⟨rfl, by exact zw⟩
  have hl : legalB ((d.toNat : Int) / 4) = true := by simpa using hl'
  have u1 : unpackE d = 0 := by simp [unpackE, hl]
  by_cases hp : (n : Int) - 2 - c.toNat < 0
  · have e1 : rootE n c d = 210 := by unfold rootE; rw [if_neg g1, if_neg hl', if_pos (Or.inl hp)]
    clear g1 hl'
    obtain ⟨e2, e3, e4, e5⟩ := root_bad e1 (by decide)
    rw [e1, e2, e3, e4, e5]; clear e1 e2 e3 e4 e5
    go_enter Try.func30, Try.ntmps30
    go_wp2_with (first | (go_at_call 49; refine (rwide_any _ _).mono ?_; rintro e w1 ⟨rfl, rfl⟩) | (go_at_call 50; refine (runpack_any _ _).mono ?_; rintro e w1 ⟨rfl, rfl⟩))
    (refine bodyPost_ret (v := .tuple #[.agg #[.int .i64 0, .int .i64 0, .int .i64 0, .int .i64 0], .int .i64 210]) (by simp [results, Try.results30, go_sem, *]) rfl ?_)
    exact ⟨rfl, by exact zw⟩
  have hm2 : ((n : Int) - 2 - c.toNat) % c.toNat = ((n : Int) - 2) % c.toNat := Int.sub_emod_right _ _
  have hm1 : Int.tmod ((n : Int) - 2 - c.toNat) c.toNat = ((n : Int) - 2) % c.toNat := by rw [Int.tmod_eq_emod_of_nonneg (by omega), hm2]
  by_cases hr : ((n : Int) - 2) % c.toNat = 0
  · have e1 : rootE n c d = 0 := by unfold rootE; rw [if_neg g1, if_neg hl', if_neg (by omega)]
    have e2 : rootP n c d = n - 2 - c.toNat := by simp [rootP, e1]
    have e3 : rootQ n c d = c.toNat := by simp [rootQ, e1]
    have e4 : rootT n c d = unpackT d := by simp [rootT, e1]
    have e5 : rootW n c d = unpackW d := by simp [rootW, e1]
    have hr' : (((n : Int) - 2) % c.toNat != 0) = false := by simpa using hr
    rw [e1, e2, e3, e4, e5]; clear e1 e2 e3 e4 e5 g1 hl' hr
    go_enter Try.func30, Try.ntmps30
    go_wp2_with (first | (go_at_call 49; refine (rwide_any _ _).mono ?_; rintro e w1 ⟨rfl, rfl⟩) | (go_at_call 50; refine (runpack_any _ _).mono ?_; rintro e w1 ⟨rfl, rfl⟩))
    (refine bodyPost_ret (v := .tuple #[.agg #[.int .i64 ((n : Int) - 2 - c.toNat), .int .i64 c.toNat, .int .i64 (unpackT d), .int .i64 (unpackW d)], .int .i64 0]) (by simp [results, Try.results30, go_sem, *]) rfl ?_)
    exact ⟨rfl, by exact zw⟩
  · have e1 : rootE n c d = 210 := by unfold rootE; rw [if_neg g1, if_neg hl', if_pos (Or.inr hr)]
    have hr' : (((n : Int) - 2) % c.toNat != 0) = true := by simpa using hr
    clear g1 hl' hr
    obtain ⟨e2, e3, e4, e5⟩ := root_bad e1 (by decide)
    rw [e1, e2, e3, e4, e5]; clear e1 e2 e3 e4 e5
    go_enter Try.func30, Try.ntmps30
    go_wp2_with (first | (go_at_call 49; refine (rwide_any _ _).mono ?_; rintro e w1 ⟨rfl, rfl⟩) | (go_at_call 50; refine (runpack_any _ _).mono ?_; rintro e w1 ⟨rfl, rfl⟩))
    (refine bodyPost_ret (v := .tuple #[.agg #[.int .i64 0, .int .i64 0, .int .i64 0, .int .i64 0], .int .i64 210]) (by simp [results, Try.results30, go_sem, *]) rfl ?_)
    exact ⟨rfl, by exact zw⟩
theorem rroot_nil (w : World) : Calls Try.prog 30 #[.slice none 0 0] w fun e w' => e = .returned (.tuple #[.agg #[.int .i64 0, .int .i64 0, .int .i64 0, .int .i64 0], .int .i64 210]) ∧ Below w.heap.size w w' := by
  go_enter Try.func30, Try.ntmps30
  go_wp2_with (go_at_call 49; refine (rwide_any _ _).mono ?_; rintro e w1 ⟨rfl, rfl⟩)
  (refine bodyPost_ret (v := .tuple #[.agg #[.int .i64 0, .int .i64 0, .int .i64 0, .int .i64 0], .int .i64 210]) (by simp [results, Try.results30, go_sem, *]) rfl ?_)
  exact ⟨rfl, by exact zw⟩
end
end Go.Proofs.Ytmpflnlajakibaa
