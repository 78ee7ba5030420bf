/- The walks of accordionref04's wrong, Rune, tail, long, digit. -/
import Derived.Test.YtlblddeemkefkaaGreatDoorNh
import Derived.Test.YtlblddeemkefkaaGreatDoorKk
import Derived.Deep.RegionLaw
import Derived.Deep.LoopGhost
import Derived.Handy
import Derived.IntWalk
import Derived.WalkSmall
import Derived.Deep.QuietTactic
import Derived.BigQuiet
namespace Go.Proofs.YtlblddeemkefkaaGreatDoor
set_option linter.unusedVariables false
set_option linter.unusedSimpArgs false
open Go.RowKit Go.Shelf
theorem str_eq (a b : List UInt8) : ((⟨a.toArray⟩ : ByteArray).toList == (⟨b.toArray⟩ : ByteArray).toList) = decide (a = b) := by
  rw [Lib.toList_data, Lib.toList_data]
  by_cases h : a = b
  · subst h; simp
  · simp [h]
theorem subr_run (l : List UInt8) (i j : Nat) (hij : i ≤ j) (hj : j ≤ l.length) (W : World) : (Instr.slice 9 (.string ⟨l.toArray⟩) (some (.int .i64 i)) (some (.int .i64 j)) none).run Tryz.prog W = .ok (.string ⟨((l.drop i).take (j - i)).toArray⟩) W := sub_run l i j hij hj W
def urV (r : UR) : Value := .tuple #[strV r.1, .int .i64 r.2.1, .int .i64 r.2.2.1, .int .i64 r.2.2.2]
def wrong4 (l : List UInt8) (i e : Int) : UR := if (l.length : Int) ≤ i then ([], 0, l.length, 3) else ([], 0, i, e)
set_option maxHeartbeats 4000000 in
set_option maxRecDepth 100000 in
theorem wrong4_any (l : List UInt8) (i e : Int) (w : World) : Calls Tryz.prog 121 #[strV l, .int .i64 i, .int .i64 e] w fun o w' => o = .returned (urV (wrong4 l i e)) ∧ w' = w := by
  have hs : (⟨l.toArray⟩ : ByteArray).size = l.length := by simp [ByteArray.size]
  obtain ⟨res, hres⟩ : ∃ r, r = urV (wrong4 l i e) := ⟨_, rfl⟩
  rw [← hres]
  unfold urV wrong4 at hres
  unfold strV at *
  by_cases h : (l.length : Int) ≤ i
  · rw [if_pos h] at hres
    have HR := Lib.hid hres
    clear hres
    go_enter Tryz.func121, Tryz.ntmps121
    go_wp2_with fail
    refine bodyPost_ret (v := urV ([], 0, l.length, 3)) (by simp [results, Tryz.results121, go_sem, urV, strV, *]) rfl ?_
    exact ⟨by rw [HR.out]; first | done | rfl, rfl⟩
  · rw [if_neg h] at hres
    have HR := Lib.hid hres
    clear hres
    go_enter Tryz.func121, Tryz.ntmps121
    go_wp2_with fail
    refine bodyPost_ret (v := urV ([], 0, i, e)) (by simp [results, Tryz.results121, go_sem, urV, strV, *]) rfl ?_
    exact ⟨by rw [HR.out]; first | done | rfl, rfl⟩
set_option maxHeartbeats 4000000 in
set_option maxRecDepth 100000 in
theorem tail_any (n : Int) (h0 : 0 ≤ n) (h1 : n ≤ 1114111) (w : World) : Calls Tryz.prog 153 #[.int .i64 n] w fun o w' => o = .returned (.int .u8 (128 + n % 64)) ∧ w' = w := by
  obtain ⟨m, hm⟩ : ∃ m : Int, m = n % 64 := ⟨_, rfl⟩
  have hm2 : n.tmod 64 = m := by rw [Int.tmod_eq_emod_of_nonneg h0, hm]
  have q1 : IntKind.i64.wrap m = m := IntWalk.i64_in _ (by omega)
  have q2 : IntKind.i64.wrap (128 + m) = 128 + m := IntWalk.i64_in _ (by omega)
  have q3 : IntKind.u8.wrap (128 + m) = 128 + m := IntWalk.u8_in _ (by omega)
  have hm3 : n % 64 = m := hm.symm
  rw [hm3]
  clear hm
  go_enter Tryz.func153, Tryz.ntmps153
  go_wp2_with fail
  go_ret
  exact ⟨rfl, rfl⟩
set_option maxHeartbeats 4000000 in
set_option maxRecDepth 100000 in
theorem rune_any (n : Int) (w : World) : Calls Tryz.prog 152 #[.int .i64 n] w fun o w' => o = .returned (.bool (scalB n)) ∧ w' = w := by
  obtain ⟨res, hres⟩ : ∃ r, r = scalB n := ⟨_, rfl⟩
  rw [← hres]
  unfold scalB at hres
  by_cases h0 : 0 ≤ n
  · by_cases h1 : n ≤ 1114111
    · by_cases h2 : n < 55296
      · have HR := Lib.hid (show res = true by rw [hres]; simp [h0, h1, h2])
        have d0 : decide (0 ≤ n) = true := decide_eq_true h0
        have d1 : decide (n ≤ 1114111) = true := decide_eq_true h1
        have d2 : decide (n < 55296) = true := decide_eq_true h2
        clear hres
        go_enter Tryz.func152, Tryz.ntmps152
        go_wp2_with fail
        go_ret
        exact ⟨by rw [HR.out]; first | done | rfl, rfl⟩
      · by_cases h3 : 57343 < n
        · have HR := Lib.hid (show res = true by rw [hres]; simp [h0, h1, h3])
          have d0 : decide (0 ≤ n) = true := decide_eq_true h0
          have d1 : decide (n ≤ 1114111) = true := decide_eq_true h1
          have d2 : decide (n < 55296) = false := decide_eq_false h2
          have d3 : decide (57343 < n) = true := decide_eq_true h3
          clear hres
          go_enter Tryz.func152, Tryz.ntmps152
          go_wp2_with fail
          go_ret
          exact ⟨by rw [HR.out]; first | done | rfl, rfl⟩
        · have HR := Lib.hid (show res = false by rw [hres]; simp [h2, h3])
          have d0 : decide (0 ≤ n) = true := decide_eq_true h0
          have d1 : decide (n ≤ 1114111) = true := decide_eq_true h1
          have d2 : decide (n < 55296) = false := decide_eq_false h2
          have d3 : decide (57343 < n) = false := decide_eq_false h3
          clear hres
          go_enter Tryz.func152, Tryz.ntmps152
          go_wp2_with fail
          go_ret
          exact ⟨by rw [HR.out]; first | done | rfl, rfl⟩
    · have HR := Lib.hid (show res = false by rw [hres]; simp [h1])
      have d0 : decide (0 ≤ n) = true := decide_eq_true h0
      have d1 : decide (n ≤ 1114111) = false := decide_eq_false h1
      clear hres
      go_enter Tryz.func152, Tryz.ntmps152
      go_wp2_with fail
      go_ret
      exact ⟨by rw [HR.out]; first | done | rfl, rfl⟩
  · have HR := Lib.hid (show res = false by rw [hres]; simp [h0])
    have d0 : decide (0 ≤ n) = false := decide_eq_false h0
    clear hres
    go_enter Tryz.func152, Tryz.ntmps152
    go_wp2_with fail
    go_ret
    exact ⟨by rw [HR.out]; first | done | rfl, rfl⟩
set_option maxHeartbeats 4000000 in
set_option maxRecDepth 100000 in
theorem long_any (c : UInt8) (w : World) : Calls Tryz.prog 136 #[.int .u8 c.toNat] w fun o w' => o = .returned (.int .i64 (longB c.toNat)) ∧ w' = w := by
  obtain ⟨b, hb⟩ : ∃ b, b = c.toNat := ⟨_, rfl⟩
  have hlt := c.toNat_lt
  rw [← hb] at hlt ⊢
  clear hb
  obtain ⟨res, hres⟩ : ∃ r, r = longB b := ⟨_, rfl⟩
  rw [← hres]
  unfold longB at hres
  by_cases h0 : b < 128
  · have HR := Lib.hid (show res = 1 by rw [hres, if_pos h0])
    have z0 : (b : Int) < 128 := by omega
    clear hres
    go_enter Tryz.func136, Tryz.ntmps136
    go_wp2_with fail
    go_ret
    exact ⟨by rw [HR.out]; first | done | rfl, rfl⟩
  have z0 : ¬ (b : Int) < 128 := by omega
  by_cases h1 : b < 194
  · have HR := Lib.hid (show res = 0 by rw [hres, if_neg h0, if_pos h1])
    have z1 : ¬ 194 ≤ (b : Int) := by omega
    have z2 : ¬ 224 ≤ (b : Int) := by omega
    have z3 : ¬ 240 ≤ (b : Int) := by omega
    clear hres
    go_enter Tryz.func136, Tryz.ntmps136
    go_wp2_with fail
    go_ret
    exact ⟨by rw [HR.out]; first | done | rfl, rfl⟩
  have z1 : 194 ≤ (b : Int) := by omega
  by_cases h2 : b < 224
  · have HR := Lib.hid (show res = 2 by rw [hres, if_neg h0, if_neg h1, if_pos h2])
    have z2 : (b : Int) < 224 := by omega
    clear hres
    go_enter Tryz.func136, Tryz.ntmps136
    go_wp2_with fail
    go_ret
    exact ⟨by rw [HR.out]; first | done | rfl, rfl⟩
  have z2 : ¬ (b : Int) < 224 := by omega
  have z2' : 224 ≤ (b : Int) := by omega
  by_cases h3 : b < 240
  · have HR := Lib.hid (show res = 3 by rw [hres, if_neg h0, if_neg h1, if_neg h2, if_pos h3])
    have z3 : (b : Int) < 240 := by omega
    clear hres
    go_enter Tryz.func136, Tryz.ntmps136
    go_wp2_with fail
    go_ret
    exact ⟨by rw [HR.out]; first | done | rfl, rfl⟩
  have z3 : ¬ (b : Int) < 240 := by omega
  have z3' : 240 ≤ (b : Int) := by omega
  by_cases h4 : b < 245
  · have HR := Lib.hid (show res = 4 by rw [hres, if_neg h0, if_neg h1, if_neg h2, if_neg h3, if_pos h4])
    have z4 : (b : Int) < 245 := by omega
    clear hres
    go_enter Tryz.func136, Tryz.ntmps136
    go_wp2_with fail
    go_ret
    exact ⟨by rw [HR.out]; first | done | rfl, rfl⟩
  · have HR := Lib.hid (show res = 0 by rw [hres, if_neg h0, if_neg h1, if_neg h2, if_neg h3, if_neg h4])
    have z4 : ¬ (b : Int) < 245 := by omega
    clear hres
    go_enter Tryz.func136, Tryz.ntmps136
    go_wp2_with fail
    go_ret
    exact ⟨by rw [HR.out]; first | done | rfl, rfl⟩
def smallL : List UInt8 := [48, 49, 50, 51, 52, 53, 54, 55, 56, 57, 97, 98, 99, 100, 101, 102]
def greatL : List UInt8 := [48, 49, 50, 51, 52, 53, 54, 55, 56, 57, 65, 66, 67, 68, 69, 70]
theorem small_idx {j : Nat} (hj : j < 16) (h : j < (⟨#[48, 49, 50, 51, 52, 53, 54, 55, 56, 57, 97, 98, 99, 100, 101, 102]⟩ : ByteArray).size) : (⟨#[48, 49, 50, 51, 52, 53, 54, 55, 56, 57, 97, 98, 99, 100, 101, 102]⟩ : ByteArray)[j]'h = smallL.getD j 0 := by
  show (#[48, 49, 50, 51, 52, 53, 54, 55, 56, 57, 97, 98, 99, 100, 101, 102] : Array UInt8)[j]'h = _
  simp [smallL, List.getD_eq_getElem?_getD, hj]
theorem great_idx {j : Nat} (hj : j < 16) (h : j < (⟨#[48, 49, 50, 51, 52, 53, 54, 55, 56, 57, 65, 66, 67, 68, 69, 70]⟩ : ByteArray).size) : (⟨#[48, 49, 50, 51, 52, 53, 54, 55, 56, 57, 65, 66, 67, 68, 69, 70]⟩ : ByteArray)[j]'h = greatL.getD j 0 := by
  show (#[48, 49, 50, 51, 52, 53, 54, 55, 56, 57, 65, 66, 67, 68, 69, 70] : Array UInt8)[j]'h = _
  simp [greatL, List.getD_eq_getElem?_getD, hj]
theorem hex_at {c : UInt8} {j : Nat} (hj : j < 16) (h : c = smallL.getD j 0 ∨ c = greatL.getD j 0) : hexV c = j := by
  have hall : ∀ i : Fin 16, hexV (smallL.getD i.val 0) = (i.val : Int) ∧ hexV (greatL.getD i.val 0) = (i.val : Int) := by decide +kernel
  rcases h with rfl | rfl
  · exact (hall ⟨j, hj⟩).1
  · exact (hall ⟨j, hj⟩).2
theorem hex_none {c : UInt8} (h : ∀ i, i < 16 → c ≠ smallL.getD i 0 ∧ c ≠ greatL.getD i 0) : hexV c = -1 := by
  have hall : ∀ n : Fin 256, hexV (UInt8.ofNat n.val) = -1 ∨ ∃ i : Fin 16, UInt8.ofNat n.val = smallL.getD i.val 0 ∨ UInt8.ofNat n.val = greatL.getD i.val 0 := by decide +kernel
  have h2 := hall ⟨c.toNat, c.toNat_lt⟩
  have e : UInt8.ofNat c.toNat = c := by simp
  simp only [e] at h2
  rcases h2 with h2 | ⟨i, h2⟩
  · exact h2
  · have := h i.val i.isLt
    rcases h2 with h2 | h2
    · exact absurd h2 this.1
    · exact absurd h2 this.2
set_option maxHeartbeats 4000000 in
set_option maxRecDepth 100000 in
theorem digit_any (c : UInt8) (w : World) : Calls Tryz.prog 158 #[.int .u8 c.toNat] w fun o w' => o = .returned (.int .i64 (hexV c)) ∧ w' = w := by
  obtain ⟨res, hres⟩ : ∃ r, r = hexV c := ⟨_, rfl⟩
  rw [← hres]
  have HX := Lib.hid hres
  clear hres
  go_enter Tryz.func158, Tryz.ntmps158
  go_wp2_with fail
  have hs1 : (⟨#[48, 49, 50, 51, 52, 53, 54, 55, 56, 57, 97, 98, 99, 100, 101, 102]⟩ : ByteArray).size = 16 := rfl
  have hs2 : (⟨#[48, 49, 50, 51, 52, 53, 54, 55, 56, 57, 65, 66, 67, 68, 69, 70]⟩ : ByteArray).size = 16 := rfl
  go_loopw [3] (fun i wr => ∃ (j : Nat), i = .int .i64 j ∧ j ≤ 16 ∧ wr = w ∧ Hid (∀ i, i < j → c ≠ smallL.getD i 0 ∧ c ≠ greatL.getD i 0)) (fun i _ => 16 - (intOf i).toNat)
  case atStart => exact ⟨0, rfl, by omega, rfl, Lib.hid (fun i h => by omega)⟩
  case round =>
    obtain ⟨j, rfl, hj, rfl, hm⟩ := hrel
    by_cases hlt : j < 16
    · have hjz : (j : Int) < 16 := by omega
      have hidx1 := small_idx hlt (by omega)
      have hidx2 := great_idx hlt (by omega)
      have q1 : IntKind.i64.wrap ((j : Int) + 1) = j + 1 := IntWalk.i64_in _ (by omega)
      by_cases h1 : c = smallL.getD j 0
      · have HD := Lib.hid (show res = (j : Int) by rw [HX.out, hex_at hlt (.inl h1)])
        have hz1 : (((smallL.getD j 0).toNat : Int) == (c.toNat : Int)) = true := by rw [← h1]; simp
        clear h1 hm HX
        generalize smallL.getD j 0 = d1 at *
        generalize greatL.getD j 0 = d2 at *
        go_wp2_with fail
        go_ret
        exact ⟨by rw [HD.out]; first | done | rfl, rfl⟩
      · have hz1 : (((smallL.getD j 0).toNat : Int) == (c.toNat : Int)) = false := by
          simp only [beq_eq_false_iff_ne, ne_eq, Int.natCast_inj]
          exact fun e => h1 (UInt8.toNat_inj.1 e.symm)
        by_cases h2 : c = greatL.getD j 0
        · have HD := Lib.hid (show res = (j : Int) by rw [HX.out, hex_at hlt (.inr h2)])
          have hz2 : (((greatL.getD j 0).toNat : Int) == (c.toNat : Int)) = true := by rw [← h2]; simp
          clear h1 h2 hm HX
          generalize smallL.getD j 0 = d1 at *
          generalize greatL.getD j 0 = d2 at *
          go_wp2_with fail
          go_ret
          exact ⟨by rw [HD.out]; first | done | rfl, rfl⟩
        · have hz2 : (((greatL.getD j 0).toNat : Int) == (c.toNat : Int)) = false := by
            simp only [beq_eq_false_iff_ne, ne_eq, Int.natCast_inj]
            exact fun e => h2 (UInt8.toNat_inj.1 e.symm)
          have HM := Lib.hid (show ∀ i, i < j + 1 → c ≠ smallL.getD i 0 ∧ c ≠ greatL.getD i 0 from fun i hi => by
            by_cases h : i = j
            · rw [h]; exact ⟨h1, h2⟩
            · exact hm.out i (by omega))
          clear h1 h2 hm
          generalize smallL.getD j 0 = d1 at *
          generalize greatL.getD j 0 = d2 at *
          go_wp2_with fail
          go_roundw
          case rel => exact ⟨j + 1, by go_num, by omega, by first | rfl | trivial, HM⟩
          case measure => simp only [intOf]; omega
    · have hjz : ¬ (j : Int) < 16 := by omega
      have HD := Lib.hid (show res = -1 by rw [HX.out]; exact hex_none (fun i hi => hm.out i (by omega)))
      clear hm HX
      go_wp2_with fail
      go_ret
      exact ⟨by rw [HD.out]; first | done | rfl, rfl⟩
end Go.Proofs.YtlblddeemkefkaaGreatDoor
