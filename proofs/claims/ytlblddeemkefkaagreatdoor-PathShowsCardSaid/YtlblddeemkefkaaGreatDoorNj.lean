/- The walk of accordionref04.four: written by wip/gen/nj.py. -/
import Derived.Test.YtlblddeemkefkaaGreatDoorNi
namespace Go.Proofs.YtlblddeemkefkaaGreatDoor
set_option linter.unusedVariables false
set_option linter.unusedSimpArgs false
open Go.RowKit Go.Shelf
/-- What four hands back. -/
def fourV (at_ : Nat) : Except Nat Int → Value
  | .error j => .tuple #[.int .i64 0, .int .i64 ((at_ + j : Nat) : Int), .bool false]
  | .ok v => .tuple #[.int .i64 v, .int .i64 0, .bool true]
theorem rF_step {sec : Bool} {r : Nat} {v : Int} {l : List UInt8} {q j : Nat} (hq : q < l.length) : rF sec (r + 1) v (l.drop q) j = if hexV (l.getD q 0) < 0 then .error j else if refB sec j (16 * v + hexV (l.getD q 0)) then .error j else rF sec r (16 * v + hexV (l.getD q 0)) (l.drop (q + 1)) (j + 1) := by
  have e : l.drop q = l.getD q 0 :: l.drop (q + 1) := by
    rw [List.drop_eq_getElem_cons hq, List.getD_eq_getElem?_getD, List.getElem?_eq_getElem hq]; rfl
  rw [e, rF]
  rfl
set_option maxHeartbeats 16000000 in
set_option maxRecDepth 100000 in
theorem four_t (l : List UInt8) (at_ : Nat) (hl : l.length ≤ 1073741824) (ha : at_ ≤ 2147483648) (w : World) : Calls Tryz.prog 143 #[strV l, .int .i64 at_, .bool true] w fun o w' => o = .returned (fourV at_ (rF true 4 0 (l.drop at_) 0)) ∧ w' = w := by
  have hs : (⟨l.toArray⟩ : ByteArray).size = l.length := by simp [ByteArray.size]
  obtain ⟨res, hres⟩ : ∃ r, r = fourV at_ (rF true 4 0 (l.drop at_) 0) := ⟨_, rfl⟩
  rw [← hres]
  have HR := Lib.hid hres.symm
  clear hres
  obtain ⟨a4, ha4⟩ : ∃ z : Int, z = at_ + 4 := ⟨_, rfl⟩
  have qa : IntKind.i64.wrap ((at_ : Int) + 4) = a4 := by rw [ha4]; exact IntWalk.i64_in _ (by omega)
  unfold strV
  go_enter Tryz.func143, Tryz.ntmps143
  go_wp2_with fail
  go_loopw [9, 10] (fun v i wr => ∃ (j : Nat) (z : Int), i = .int .i64 ((at_ + j : Nat) : Int) ∧ v = .int .i64 z ∧ j ≤ 4 ∧ wr = w ∧ Hid (0 ≤ z ∧ z < 16 ^ j) ∧ Hid (fourV at_ (rF true (4 - j) z (l.drop (at_ + j)) j) = res)) (fun _ i _ => at_ + 4 - (intOf i).toNat)
  case atStart => exact ⟨0, 0, rfl, rfl, by omega, rfl, Lib.hid (by decide), HR⟩
  case round =>
    clear HR
    obtain ⟨j, v, rfl, rfl, hj, rfl, hv, hq⟩ := hrel
    obtain ⟨iz, hiz⟩ : ∃ z : Nat, z = at_ + j := ⟨_, rfl⟩
    rw [← hiz] at hq ⊢
    by_cases hj4 : j = 4
    · subst hj4
      have hlt : ¬ (iz : Int) < a4 := by omega
      have HD := Lib.hid (show res = .tuple #[.int .i64 v, .int .i64 0, .bool true] by rw [← hq.out]; rfl)
      clear hq hv hiz hj
      go_wp2_with fail
      go_ret3
      exact ⟨by rw [HD.out]; first | done | rfl, rfl⟩
    have hlt : (iz : Int) < a4 := by omega
    by_cases hlen : l.length ≤ iz
    · have hge : (l.length : Int) ≤ (iz : Int) := by omega
      have HD := Lib.hid (show res = .tuple #[.int .i64 0, .int .i64 iz, .bool false] by
        rw [← hq.out, List.drop_of_length_le hlen]
        obtain ⟨r, hr⟩ : ∃ r, 4 - j = r + 1 := ⟨3 - j, by omega⟩
        rw [hr, rF, fourV, hiz])
      clear hq hv hiz hj
      go_wp2_with fail
      go_ret3
      exact ⟨by rw [HD.out]; first | done | rfl, rfl⟩
    have hge : ¬ (l.length : Int) ≤ (iz : Int) := by omega
    have hlt2 : iz < l.length := by omega
    have hidx : (⟨l.toArray⟩ : ByteArray)[iz]'(by omega) = l.getD iz 0 := by
      show l.toArray[iz] = _
      simp [List.getD_eq_getElem?_getD, hlt2]
    have hstep := rF_step (sec := true) (r := 3 - j) (v := v) (j := j) hlt2
    rw [show 3 - j + 1 = 4 - j by omega] at hstep
    have HQ := Lib.hid (hstep ▸ hq.out)
    have HDG := Lib.hid (fun W => digit_any (l.getD iz 0) W)
    have hle := hexV_le (l.getD iz 0)
    clear hstep hq
    generalize l.getD iz 0 = c at *
    generalize hexV c = d at *
    by_cases hd : d < 0
    · have HD := Lib.hid (show res = .tuple #[.int .i64 0, .int .i64 iz, .bool false] by rw [← HQ.out, if_pos hd, fourV, hiz])
      clear HQ hiz hj hv
      go_wp2_with fail
      refine (HDG.out _).mono ?_
      rintro e w1 ⟨rfl, rfl⟩
      clear HDG
      go_wp2_with fail
      go_ret3
      exact ⟨by rw [HD.out]; first | done | rfl, rfl⟩
    have HQ2 := HQ.out
    rw [if_neg hd] at HQ2
    have hvo := hv.out
    have hpow : (16 : Int) ^ (j + 1) = 16 * 16 ^ j := by rw [Int.pow_succ, Int.mul_comm]
    have hp3 : (16 : Int) ^ j ≤ 4096 := by
      have : j = 0 ∨ j = 1 ∨ j = 2 ∨ j = 3 := by omega
      rcases this with rfl | rfl | rfl | rfl <;> decide
    obtain ⟨v1, hv1⟩ : ∃ z : Int, z = 16 * v := ⟨_, rfl⟩
    obtain ⟨v2, hv2⟩ : ∃ z : Int, z = v1 + d := ⟨_, rfl⟩
    have HVB := Lib.hid (show 0 ≤ v2 ∧ v2 < 16 ^ (j + 1) by rw [hpow]; generalize (16 : Int) ^ j = p at *; omega)
    have q1 : IntKind.i64.wrap (16 * v) = v1 := by rw [← hv1]; exact IntWalk.i64_in _ (by omega)
    have q2 : IntKind.i64.wrap (v1 + d) = v2 := by rw [← hv2]; exact IntWalk.i64_in _ (by omega)
    obtain ⟨az, haz⟩ : ∃ z : Nat, z = at_ + 1 := ⟨_, rfl⟩
    have q3 : IntKind.i64.wrap ((at_ : Int) + 1) = (az : Int) := by rw [haz]; exact IntWalk.i64_in _ (by omega)
    have q4 : IntKind.i64.wrap ((iz : Int) + 1) = iz + 1 := IntWalk.i64_in _ (by omega)
    rw [show 16 * v + d = v2 by omega, show iz + 1 = at_ + (j + 1) by omega] at HQ2
    have HQ3 := Lib.hid HQ2
    clear HQ HQ2 ha4 hvo hv hv1 hv2 hle hpow hp3
    by_cases hj0 : j = 0
    · by_cases hc : v2 = 13
      · have e0 : ((iz : Int) == (at_ : Int)) = true := by simp only [beq_iff_eq]; omega
        have e1 : ((iz : Int) == (az : Int)) = false := by simp only [beq_eq_false_iff_ne, ne_eq]; omega
        have e2 : (v2 == 13) = true := by simpa using hc
        have e2n : (v2 != 13) = false := by simp [hc]
        have HD := Lib.hid (show fourV at_ (rF true (3 - j) v2 (l.drop (at_ + (j + 1))) (j + 1)) = res by rw [← HQ3.out, if_neg (by unfold refB; first | (simp [hj0]; done) | (simp [hj0]; omega))])
        have HIZ := Lib.hid hiz
        have HMS := Lib.hid (show at_ + 4 - (iz + 1) < at_ + 4 - iz ∧ j + 1 ≤ 4 by omega)
        clear HQ3 haz hiz hj hj4 hj0
        clear hc
        go_wp2_with fail
        refine (HDG.out _).mono ?_
        rintro e w1 ⟨rfl, rfl⟩
        clear HDG
        go_wp2_with fail
        go_roundw
        case rel => have h9 := HIZ.out; have h8 := HMS.out; exact ⟨j + 1, v2, by first | go_num | (congr 1; push_cast; omega), by first | rfl | trivial, by omega, by first | rfl | trivial, HVB, by rw [show 4 - (j + 1) = 3 - j by omega]; exact HD⟩
        case measure => have h8 := HMS.out; simp only [intOf]; omega
      · have e0 : ((iz : Int) == (at_ : Int)) = true := by simp only [beq_iff_eq]; omega
        have e1 : ((iz : Int) == (az : Int)) = false := by simp only [beq_eq_false_iff_ne, ne_eq]; omega
        have e2 : (v2 == 13) = false := by simpa using hc
        have e2n : (v2 != 13) = true := by simpa using hc
        have HD := Lib.hid (show res = .tuple #[.int .i64 0, .int .i64 iz, .bool false] by rw [← HQ3.out, if_pos (by unfold refB; first | (simp [hj0]; done) | (simp [hj0]; omega))]; unfold fourV; dsimp only; rw [hiz])
        clear HQ3 hiz haz hj hj4 HVB hj0
        clear hc
        go_wp2_with fail
        refine (HDG.out _).mono ?_
        rintro e w1 ⟨rfl, rfl⟩
        clear HDG
        go_wp2_with fail
        go_ret3
        exact ⟨by rw [HD.out]; first | done | rfl, rfl⟩
    by_cases hj1 : j = 1
    · by_cases hc : v2 < 220
      · have e0 : ((iz : Int) == (at_ : Int)) = false := by simp only [beq_eq_false_iff_ne, ne_eq]; omega
        have e1 : ((iz : Int) == (az : Int)) = true := by simp only [beq_iff_eq]; omega
        have e3 : decide (220 ≤ v2) = false := decide_eq_false (by omega)
        have HD := Lib.hid (show res = .tuple #[.int .i64 0, .int .i64 iz, .bool false] by rw [← HQ3.out, if_pos (by unfold refB; first | (simp [hj1]; done) | (simp [hj1]; omega))]; unfold fourV; dsimp only; rw [hiz])
        clear HQ3 hiz haz hj hj4 HVB hj0 hj1
        clear hc
        go_wp2_with fail
        refine (HDG.out _).mono ?_
        rintro e w1 ⟨rfl, rfl⟩
        clear HDG
        go_wp2_with fail
        go_ret3
        exact ⟨by rw [HD.out]; first | done | rfl, rfl⟩
      by_cases hc2 : v2 ≤ 223
      · have e0 : ((iz : Int) == (at_ : Int)) = false := by simp only [beq_eq_false_iff_ne, ne_eq]; omega
        have e1 : ((iz : Int) == (az : Int)) = true := by simp only [beq_iff_eq]; omega
        have e3 : decide (220 ≤ v2) = true := decide_eq_true (by omega)
        have e4 : decide (v2 ≤ 223) = true := decide_eq_true (by omega)
        have HD := Lib.hid (show fourV at_ (rF true (3 - j) v2 (l.drop (at_ + (j + 1))) (j + 1)) = res by rw [← HQ3.out, if_neg (by unfold refB; first | (simp [hj1]; done) | (simp [hj1]; omega))])
        have HIZ := Lib.hid hiz
        have HMS := Lib.hid (show at_ + 4 - (iz + 1) < at_ + 4 - iz ∧ j + 1 ≤ 4 by omega)
        clear HQ3 haz hiz hj hj4 hj0 hj1
        clear hc hc2
        go_wp2_with fail
        refine (HDG.out _).mono ?_
        rintro e w1 ⟨rfl, rfl⟩
        clear HDG
        go_wp2_with fail
        go_roundw
        case rel => have h9 := HIZ.out; have h8 := HMS.out; exact ⟨j + 1, v2, by first | go_num | (congr 1; push_cast; omega), by first | rfl | trivial, by omega, by first | rfl | trivial, HVB, by rw [show 4 - (j + 1) = 3 - j by omega]; exact HD⟩
        case measure => have h8 := HMS.out; simp only [intOf]; omega
      have e0 : ((iz : Int) == (at_ : Int)) = false := by simp only [beq_eq_false_iff_ne, ne_eq]; omega
      have e1 : ((iz : Int) == (az : Int)) = true := by simp only [beq_iff_eq]; omega
      have e3 : decide (220 ≤ v2) = true := decide_eq_true (by omega)
      have e4 : decide (v2 ≤ 223) = false := decide_eq_false (by omega)
      have HD := Lib.hid (show res = .tuple #[.int .i64 0, .int .i64 iz, .bool false] by rw [← HQ3.out, if_pos (by unfold refB; first | (simp [hj1]; done) | (simp [hj1]; omega))]; unfold fourV; dsimp only; rw [hiz])
      clear HQ3 hiz haz hj hj4 HVB hj0 hj1
      clear hc hc2
      go_wp2_with fail
      refine (HDG.out _).mono ?_
      rintro e w1 ⟨rfl, rfl⟩
      clear HDG
      go_wp2_with fail
      go_ret3
      exact ⟨by rw [HD.out]; first | done | rfl, rfl⟩
    have e0 : ((iz : Int) == (at_ : Int)) = false := by simp only [beq_eq_false_iff_ne, ne_eq]; omega
    have e1 : ((iz : Int) == (az : Int)) = false := by simp only [beq_eq_false_iff_ne, ne_eq]; omega
    have HD := Lib.hid (show fourV at_ (rF true (3 - j) v2 (l.drop (at_ + (j + 1))) (j + 1)) = res by rw [← HQ3.out, if_neg (by unfold refB; first | (simp [hj0, hj1]; done) | (simp [hj0, hj1]; omega))])
    have HIZ := Lib.hid hiz
    have HMS := Lib.hid (show at_ + 4 - (iz + 1) < at_ + 4 - iz ∧ j + 1 ≤ 4 by omega)
    clear HQ3 haz hiz hj hj4 hj0 hj1
    go_wp2_with fail
    refine (HDG.out _).mono ?_
    rintro e w1 ⟨rfl, rfl⟩
    clear HDG
    go_wp2_with fail
    go_roundw
    case rel => have h9 := HIZ.out; have h8 := HMS.out; exact ⟨j + 1, v2, by first | go_num | (congr 1; push_cast; omega), by first | rfl | trivial, by omega, by first | rfl | trivial, HVB, by rw [show 4 - (j + 1) = 3 - j by omega]; exact HD⟩
    case measure => have h8 := HMS.out; simp only [intOf]; omega
set_option maxHeartbeats 16000000 in
set_option maxRecDepth 100000 in
theorem four_f (l : List UInt8) (at_ : Nat) (hl : l.length ≤ 1073741824) (ha : at_ ≤ 2147483648) (w : World) : Calls Tryz.prog 143 #[strV l, .int .i64 at_, .bool false] w fun o w' => o = .returned (fourV at_ (rF false 4 0 (l.drop at_) 0)) ∧ w' = w := by
  have hs : (⟨l.toArray⟩ : ByteArray).size = l.length := by simp [ByteArray.size]
  obtain ⟨res, hres⟩ : ∃ r, r = fourV at_ (rF false 4 0 (l.drop at_) 0) := ⟨_, rfl⟩
  rw [← hres]
  have HR := Lib.hid hres.symm
  clear hres
  obtain ⟨a4, ha4⟩ : ∃ z : Int, z = at_ + 4 := ⟨_, rfl⟩
  have qa : IntKind.i64.wrap ((at_ : Int) + 4) = a4 := by rw [ha4]; exact IntWalk.i64_in _ (by omega)
  unfold strV
  go_enter Tryz.func143, Tryz.ntmps143
  go_wp2_with fail
  go_loopw [9, 10] (fun v i wr => ∃ (j : Nat) (z : Int), i = .int .i64 ((at_ + j : Nat) : Int) ∧ v = .int .i64 z ∧ j ≤ 4 ∧ wr = w ∧ Hid (0 ≤ z ∧ z < 16 ^ j) ∧ Hid (fourV at_ (rF false (4 - j) z (l.drop (at_ + j)) j) = res)) (fun _ i _ => at_ + 4 - (intOf i).toNat)
  case atStart => exact ⟨0, 0, rfl, rfl, by omega, rfl, Lib.hid (by decide), HR⟩
  case round =>
    clear HR
    obtain ⟨j, v, rfl, rfl, hj, rfl, hv, hq⟩ := hrel
    obtain ⟨iz, hiz⟩ : ∃ z : Nat, z = at_ + j := ⟨_, rfl⟩
    rw [← hiz] at hq ⊢
    by_cases hj4 : j = 4
    · subst hj4
      have hlt : ¬ (iz : Int) < a4 := by omega
      have HD := Lib.hid (show res = .tuple #[.int .i64 v, .int .i64 0, .bool true] by rw [← hq.out]; rfl)
      clear hq hv hiz hj
      go_wp2_with fail
      go_ret3
      exact ⟨by rw [HD.out]; first | done | rfl, rfl⟩
    have hlt : (iz : Int) < a4 := by omega
    by_cases hlen : l.length ≤ iz
    · have hge : (l.length : Int) ≤ (iz : Int) := by omega
      have HD := Lib.hid (show res = .tuple #[.int .i64 0, .int .i64 iz, .bool false] by
        rw [← hq.out, List.drop_of_length_le hlen]
        obtain ⟨r, hr⟩ : ∃ r, 4 - j = r + 1 := ⟨3 - j, by omega⟩
        rw [hr, rF, fourV, hiz])
      clear hq hv hiz hj
      go_wp2_with fail
      go_ret3
      exact ⟨by rw [HD.out]; first | done | rfl, rfl⟩
    have hge : ¬ (l.length : Int) ≤ (iz : Int) := by omega
    have hlt2 : iz < l.length := by omega
    have hidx : (⟨l.toArray⟩ : ByteArray)[iz]'(by omega) = l.getD iz 0 := by
      show l.toArray[iz] = _
      simp [List.getD_eq_getElem?_getD, hlt2]
    have hstep := rF_step (sec := false) (r := 3 - j) (v := v) (j := j) hlt2
    rw [show 3 - j + 1 = 4 - j by omega] at hstep
    have HQ := Lib.hid (hstep ▸ hq.out)
    have HDG := Lib.hid (fun W => digit_any (l.getD iz 0) W)
    have hle := hexV_le (l.getD iz 0)
    clear hstep hq
    generalize l.getD iz 0 = c at *
    generalize hexV c = d at *
    by_cases hd : d < 0
    · have HD := Lib.hid (show res = .tuple #[.int .i64 0, .int .i64 iz, .bool false] by rw [← HQ.out, if_pos hd, fourV, hiz])
      clear HQ hiz hj hv
      go_wp2_with fail
      refine (HDG.out _).mono ?_
      rintro e w1 ⟨rfl, rfl⟩
      clear HDG
      go_wp2_with fail
      go_ret3
      exact ⟨by rw [HD.out]; first | done | rfl, rfl⟩
    have HQ2 := HQ.out
    rw [if_neg hd] at HQ2
    have hvo := hv.out
    have hpow : (16 : Int) ^ (j + 1) = 16 * 16 ^ j := by rw [Int.pow_succ, Int.mul_comm]
    have hp3 : (16 : Int) ^ j ≤ 4096 := by
      have : j = 0 ∨ j = 1 ∨ j = 2 ∨ j = 3 := by omega
      rcases this with rfl | rfl | rfl | rfl <;> decide
    obtain ⟨v1, hv1⟩ : ∃ z : Int, z = 16 * v := ⟨_, rfl⟩
    obtain ⟨v2, hv2⟩ : ∃ z : Int, z = v1 + d := ⟨_, rfl⟩
    have HVB := Lib.hid (show 0 ≤ v2 ∧ v2 < 16 ^ (j + 1) by rw [hpow]; generalize (16 : Int) ^ j = p at *; omega)
    have q1 : IntKind.i64.wrap (16 * v) = v1 := by rw [← hv1]; exact IntWalk.i64_in _ (by omega)
    have q2 : IntKind.i64.wrap (v1 + d) = v2 := by rw [← hv2]; exact IntWalk.i64_in _ (by omega)
    obtain ⟨az, haz⟩ : ∃ z : Nat, z = at_ + 1 := ⟨_, rfl⟩
    have q3 : IntKind.i64.wrap ((at_ : Int) + 1) = (az : Int) := by rw [haz]; exact IntWalk.i64_in _ (by omega)
    have q4 : IntKind.i64.wrap ((iz : Int) + 1) = iz + 1 := IntWalk.i64_in _ (by omega)
    rw [show 16 * v + d = v2 by omega, show iz + 1 = at_ + (j + 1) by omega] at HQ2
    have HQ3 := Lib.hid HQ2
    clear HQ HQ2 ha4 hvo hv hv1 hv2 hle hpow hp3
    by_cases hj0 : j = 0
    · have e0 : ((iz : Int) == (at_ : Int)) = true := by simp only [beq_iff_eq]; omega
      have e1 : ((iz : Int) == (az : Int)) = false := by simp only [beq_eq_false_iff_ne, ne_eq]; omega
      have HD := Lib.hid (show fourV at_ (rF false (3 - j) v2 (l.drop (at_ + (j + 1))) (j + 1)) = res by rw [← HQ3.out, if_neg (by unfold refB; first | (simp [hj0]; done) | (simp [hj0]; omega))])
      have HIZ := Lib.hid hiz
      have HMS := Lib.hid (show at_ + 4 - (iz + 1) < at_ + 4 - iz ∧ j + 1 ≤ 4 by omega)
      clear HQ3 haz hiz hj hj4 hj0
      go_wp2_with fail
      refine (HDG.out _).mono ?_
      rintro e w1 ⟨rfl, rfl⟩
      clear HDG
      go_wp2_with fail
      go_roundw
      case rel => have h9 := HIZ.out; have h8 := HMS.out; exact ⟨j + 1, v2, by first | go_num | (congr 1; push_cast; omega), by first | rfl | trivial, by omega, by first | rfl | trivial, HVB, by rw [show 4 - (j + 1) = 3 - j by omega]; exact HD⟩
      case measure => have h8 := HMS.out; simp only [intOf]; omega
    by_cases hj1 : j = 1
    · by_cases hc : v2 < 220
      · have e0 : ((iz : Int) == (at_ : Int)) = false := by simp only [beq_eq_false_iff_ne, ne_eq]; omega
        have e1 : ((iz : Int) == (az : Int)) = true := by simp only [beq_iff_eq]; omega
        have e3 : decide (220 ≤ v2) = false := decide_eq_false (by omega)
        have HD := Lib.hid (show fourV at_ (rF false (3 - j) v2 (l.drop (at_ + (j + 1))) (j + 1)) = res by rw [← HQ3.out, if_neg (by unfold refB; first | (simp [hj1]; done) | (simp [hj1]; omega))])
        have HIZ := Lib.hid hiz
        have HMS := Lib.hid (show at_ + 4 - (iz + 1) < at_ + 4 - iz ∧ j + 1 ≤ 4 by omega)
        clear HQ3 haz hiz hj hj4 hj0 hj1
        clear hc
        go_wp2_with fail
        refine (HDG.out _).mono ?_
        rintro e w1 ⟨rfl, rfl⟩
        clear HDG
        go_wp2_with fail
        go_roundw
        case rel => have h9 := HIZ.out; have h8 := HMS.out; exact ⟨j + 1, v2, by first | go_num | (congr 1; push_cast; omega), by first | rfl | trivial, by omega, by first | rfl | trivial, HVB, by rw [show 4 - (j + 1) = 3 - j by omega]; exact HD⟩
        case measure => have h8 := HMS.out; simp only [intOf]; omega
      by_cases hc2 : v2 ≤ 223
      · have e0 : ((iz : Int) == (at_ : Int)) = false := by simp only [beq_eq_false_iff_ne, ne_eq]; omega
        have e1 : ((iz : Int) == (az : Int)) = true := by simp only [beq_iff_eq]; omega
        have e3 : decide (220 ≤ v2) = true := decide_eq_true (by omega)
        have e4 : decide (v2 ≤ 223) = true := decide_eq_true (by omega)
        have HD := Lib.hid (show res = .tuple #[.int .i64 0, .int .i64 iz, .bool false] by rw [← HQ3.out, if_pos (by unfold refB; first | (simp [hj1]; done) | (simp [hj1]; omega))]; unfold fourV; dsimp only; rw [hiz])
        clear HQ3 hiz haz hj hj4 HVB hj0 hj1
        clear hc hc2
        go_wp2_with fail
        refine (HDG.out _).mono ?_
        rintro e w1 ⟨rfl, rfl⟩
        clear HDG
        go_wp2_with fail
        go_ret3
        exact ⟨by rw [HD.out]; first | done | rfl, rfl⟩
      have e0 : ((iz : Int) == (at_ : Int)) = false := by simp only [beq_eq_false_iff_ne, ne_eq]; omega
      have e1 : ((iz : Int) == (az : Int)) = true := by simp only [beq_iff_eq]; omega
      have e3 : decide (220 ≤ v2) = true := decide_eq_true (by omega)
      have e4 : decide (v2 ≤ 223) = false := decide_eq_false (by omega)
      have HD := Lib.hid (show fourV at_ (rF false (3 - j) v2 (l.drop (at_ + (j + 1))) (j + 1)) = res by rw [← HQ3.out, if_neg (by unfold refB; first | (simp [hj1]; done) | (simp [hj1]; omega))])
      have HIZ := Lib.hid hiz
      have HMS := Lib.hid (show at_ + 4 - (iz + 1) < at_ + 4 - iz ∧ j + 1 ≤ 4 by omega)
      clear HQ3 haz hiz hj hj4 hj0 hj1
      clear hc hc2
      go_wp2_with fail
      refine (HDG.out _).mono ?_
      rintro e w1 ⟨rfl, rfl⟩
      clear HDG
      go_wp2_with fail
      go_roundw
      case rel => have h9 := HIZ.out; have h8 := HMS.out; exact ⟨j + 1, v2, by first | go_num | (congr 1; push_cast; omega), by first | rfl | trivial, by omega, by first | rfl | trivial, HVB, by rw [show 4 - (j + 1) = 3 - j by omega]; exact HD⟩
      case measure => have h8 := HMS.out; simp only [intOf]; omega
    have e0 : ((iz : Int) == (at_ : Int)) = false := by simp only [beq_eq_false_iff_ne, ne_eq]; omega
    have e1 : ((iz : Int) == (az : Int)) = false := by simp only [beq_eq_false_iff_ne, ne_eq]; omega
    have HD := Lib.hid (show fourV at_ (rF false (3 - j) v2 (l.drop (at_ + (j + 1))) (j + 1)) = res by rw [← HQ3.out, if_neg (by unfold refB; first | (simp [hj0, hj1]; done) | (simp [hj0, hj1]; omega))])
    have HIZ := Lib.hid hiz
    have HMS := Lib.hid (show at_ + 4 - (iz + 1) < at_ + 4 - iz ∧ j + 1 ≤ 4 by omega)
    clear HQ3 haz hiz hj hj4 hj0 hj1
    go_wp2_with fail
    refine (HDG.out _).mono ?_
    rintro e w1 ⟨rfl, rfl⟩
    clear HDG
    go_wp2_with fail
    go_roundw
    case rel => have h9 := HIZ.out; have h8 := HMS.out; exact ⟨j + 1, v2, by first | go_num | (congr 1; push_cast; omega), by first | rfl | trivial, by omega, by first | rfl | trivial, HVB, by rw [show 4 - (j + 1) = 3 - j by omega]; exact HD⟩
    case measure => have h8 := HMS.out; simp only [intOf]; omega
theorem four_any (l : List UInt8) (at_ : Nat) (sec : Bool) (hl : l.length ≤ 1073741824) (ha : at_ ≤ 2147483648) (w : World) : Calls Tryz.prog 143 #[strV l, .int .i64 at_, .bool sec] w fun o w' => o = .returned (fourV at_ (rF sec 4 0 (l.drop at_) 0)) ∧ w' = w := by
  cases sec
  · exact four_f l at_ hl ha w
  · exact four_t l at_ hl ha w
end Go.Proofs.YtlblddeemkefkaaGreatDoor
