/- The walks of accordionref10's wrong, digits, is, value. -/
import Derived.Test.YtgdhepoffnpgiaaGreatDoorLl
import Derived.Test.YtgdhepoffnpgiaaGreatDoorLt
import Derived.Deep.QuietTactic
import Derived.BigQuiet
namespace Go.Proofs.YtgdhepoffnpgiaaGreatDoor
set_option linter.unusedVariables false
set_option linter.unusedSimpArgs false
open Go.RowKit Go.Shelf
set_option maxHeartbeats 4000000 in
set_option maxRecDepth 100000 in
theorem rwrong_any (a e : Int) (w : World) : Calls Tryz.prog 30 #[.int .i64 a, .int .i64 e] w fun o w' => o = .returned (trV (wrongT a e)) ∧ Below w.heap.size w w' := by
  go_enter Tryz.func30, Tryz.ntmps30
  go_wp2_with fail
  refine bodyPost_ret (v := trV (wrongT a e)) (by simp [results, Tryz.results30, go_sem, trV, tokV, wrongT, strV]) rfl ?_
  exact ⟨rfl, (Below.refl _ _).alloc (Nat.le_refl _) _⟩
theorem digs_cons {l : List UInt8} {k : Nat} (hk : k < l.length) : digs (l.drop k) = if digB (l.getD k 0) = true then digs (l.drop (k + 1)) + 1 else 0 := by
  have e : l.drop k = l.getD k 0 :: l.drop (k + 1) := by
    rw [List.drop_eq_getElem_cons hk, List.getD_eq_getElem?_getD, List.getElem?_eq_getElem hk]; rfl
  rw [e]
  unfold digs
  rw [List.takeWhile_cons]
  split
  · rename_i h; rw [List.length_cons]
  · rfl
set_option maxHeartbeats 4000000 in
set_option maxRecDepth 100000 in
theorem rdigits_any (l : List UInt8) (a : Nat) (ha : a ≤ l.length) (hl : l.length ≤ 1073741824) (w : World) : Calls Tryz.prog 44 #[strV l, .int .i64 a] w fun o w' => o = .returned (.int .i64 ((a + digs (l.drop a) : Nat) : Int)) ∧ w' = w := by
  have hs : (⟨l.toArray⟩ : ByteArray).size = l.length := by simp [ByteArray.size]
  generalize hr : a + digs (l.drop a) = r
  have HR := Lib.hid hr
  clear hr
  unfold strV
  go_enter Tryz.func44, Tryz.ntmps44
  go_wp2_with fail
  go_loop [1] (fun i => ∃ k : Nat, i = .int .i64 k ∧ k ≤ l.length ∧ Hid (k + digs (l.drop k) = r)) (fun i => l.length - (intOf i).toNat)
  case atStart => exact ⟨a, rfl, ha, HR⟩
  case round =>
    obtain ⟨k, rfl, hk, hq⟩ := hrel
    by_cases hlt : k < l.length
    · have hltz : (k : Int) < (l.length : Int) := by omega
      have hidx : (⟨l.toArray⟩ : ByteArray)[k]'(by omega) = l.getD k 0 := by
        show l.toArray[k] = _
        simp [List.getD_eq_getElem?_getD, hlt]
      have hd := digs_cons hlt
      have q1 : IntKind.i64.wrap ((k : Int) + 1) = k + 1 := IntWalk.i64_in _ (by omega)
      generalize l.getD k 0 = c at *
      by_cases h48 : 48 ≤ c.toNat
      · have z48 : (48 : Int) ≤ (c.toNat : Int) := by omega
        by_cases h57 : c.toNat ≤ 57
        · have z57 : (c.toNat : Int) ≤ 57 := by omega
          rw [if_pos (show digB c = true by unfold digB; simp [h48, h57])] at hd
          have HD := Lib.hid hd
          clear hd
          go_wp2_with fail
          go_round
          case rel => exact ⟨k + 1, by go_num, by omega, Lib.hid (by rw [← hq.out, HD.out]; omega)⟩
          case measure => simp only [intOf]; omega
        · have z57 : ¬ (c.toNat : Int) ≤ 57 := by omega
          rw [if_neg (show ¬ digB c = true by unfold digB; simp [h57])] at hd
          have HD := Lib.hid (show r = k by rw [← hq.out, hd]; omega)
          clear hd hq HR
          go_wp2_with fail
          go_ret
          exact ⟨by rw [HD.out]; first | done | rfl, rfl⟩
      · have z48 : ¬ (48 : Int) ≤ (c.toNat : Int) := by omega
        rw [if_neg (show ¬ digB c = true by unfold digB; simp [h48])] at hd
        have HD := Lib.hid (show r = k by rw [← hq.out, hd]; omega)
        clear hd hq HR
        go_wp2_with fail
        go_ret
        exact ⟨by rw [HD.out]; first | done | rfl, rfl⟩
    · have hltz : ¬ (k : Int) < (l.length : Int) := by omega
      have HD := Lib.hid (show r = k by rw [← hq.out, List.drop_of_length_le (by omega)]; rfl)
      clear hq HR
      go_wp2_with fail
      go_ret
      exact ⟨by rw [HD.out]; first | done | rfl, rfl⟩
theorem one_take {l some_ : List UInt8} {a j : Nat} (hj : j < some_.length) : oneB l (some_.take (j + 1)) a = (oneB l (some_.take j) a || (decide (a < l.length) && (l.getD a 0 == some_.getD j 0))) := by
  unfold oneB
  rw [List.take_succ_eq_append_getElem hj, List.getD_eq_getElem?_getD (l := some_), List.getElem?_eq_getElem hj]
  rw [Bool.eq_iff_iff]
  simp only [Bool.and_eq_true, Bool.or_eq_true, decide_eq_true_eq, List.contains_iff_mem, List.mem_append, List.mem_singleton, beq_iff_eq, Option.getD_some]
  constructor
  · rintro ⟨p, q | q⟩
    · exact .inl ⟨p, q⟩
    · exact .inr ⟨p, q⟩
  · rintro (⟨p, q⟩ | ⟨p, q⟩)
    · exact ⟨p, .inl q⟩
    · exact ⟨p, .inr q⟩
set_option maxHeartbeats 4000000 in
set_option maxRecDepth 100000 in
theorem ris_any (l some_ : List UInt8) (a : Nat) (hl : l.length ≤ 1073741824) (hso : some_.length ≤ 100) (ha : a ≤ 2147483648) (w : World) : Calls Tryz.prog 31 #[strV l, .int .i64 a, strV some_] w fun o w' => o = .returned (.bool (oneB l some_ a)) ∧ ∃ n, w' = w.drewN n := by
  have hs : (⟨l.toArray⟩ : ByteArray).size = l.length := by simp [ByteArray.size]
  have hs2 : (⟨some_.toArray⟩ : ByteArray).size = some_.length := by simp [ByteArray.size]
  generalize hr : oneB l some_ a = r
  have HR := Lib.hid hr
  clear hr
  unfold strV
  go_enter Tryz.func31, Tryz.ntmps31
  go_wp2_with fail
  go_loopw [7] (fun i wr => ∃ (j n : Nat), i = .int .i64 j ∧ j ≤ some_.length ∧ wr = w.drewN n ∧ Hid (oneB l (some_.take j) a = false)) (fun i _ => some_.length - (intOf i).toNat)
  case atStart => exact ⟨0, 0, rfl, Nat.zero_le _, rfl, Lib.hid (by unfold oneB; simp)⟩
  case round =>
    obtain ⟨j, n, rfl, hj, rfl, hq⟩ := hrel
    by_cases hlt : j < some_.length
    · have hltz : (j : Int) < (some_.length : Int) := by omega
      have hidx2 : (⟨some_.toArray⟩ : ByteArray)[j]'(by omega) = some_.getD j 0 := by
        show some_.toArray[j] = _
        simp [List.getD_eq_getElem?_getD, hlt]
      have q1 : IntKind.i64.wrap ((j : Int) + 1) = j + 1 := IntWalk.i64_in _ (by omega)
      have hst := one_take (l := l) (a := a) hlt
      rw [hq.out, Bool.false_or] at hst
      by_cases hal : a < l.length
      · have hdl : decide (a < l.length) = true := by simpa using hal
        have haz : (a : Int) < (l.length : Int) := by omega
        have hidx : (⟨l.toArray⟩ : ByteArray)[a]'(by omega) = l.getD a 0 := by
          show l.toArray[a] = _
          simp [List.getD_eq_getElem?_getD, hal]
        rw [hdl, Bool.true_and] at hst
        by_cases hc : l.getD a 0 = some_.getD j 0
        · have HD := Lib.hid (show r = true by
            rw [← HR.out]
            have h1 : oneB l (some_.take (j + 1)) a = true := by rw [hst, hc]; simp
            unfold oneB at h1 ⊢
            simp only [Bool.and_eq_true, List.contains_iff_mem] at h1 ⊢
            exact ⟨h1.1, List.mem_of_mem_take h1.2⟩)
          have hcz : (((l.getD a 0).toNat : Int) == ((some_.getD j 0).toNat : Int)) = true := by rw [hc]; simp
          clear hst hc hq HR
          generalize l.getD a 0 = c at *
          generalize some_.getD j 0 = d at *
          go_wp2_with fail
          go_quiet (fail)
          go_wp2_with fail
          go_ret
          exact ⟨by rw [HD.out]; first | done | rfl, _, World.drewN_drewN _ _ _⟩
        · have HD := Lib.hid (show oneB l (some_.take (j + 1)) a = false by rw [hst]; simpa using hc)
          have hcz : (((l.getD a 0).toNat : Int) == ((some_.getD j 0).toNat : Int)) = false := by
            simp only [beq_eq_false_iff_ne, ne_eq, Int.natCast_inj]
            exact fun e => hc (UInt8.toNat_inj.1 e)
          clear hst hc hq HR
          generalize l.getD a 0 = c at *
          generalize some_.getD j 0 = d at *
          go_wp2_with fail
          go_quiet (fail)
          go_wp2_with fail
          go_roundw
          case rel => exact ⟨j + 1, _, by go_num, by omega, rfl, HD⟩
          case measure => simp only [intOf]; omega
      · have hdl : decide (a < l.length) = false := by simpa using hal
        rw [hdl, Bool.false_and] at hst
        have HD := Lib.hid hst
        clear hst hq HR hal
        go_wp2_with fail
        go_quiet (fail)
        go_wp2_with fail
        go_roundw
        case rel => exact ⟨j + 1, _, by go_num, by omega, rfl, HD⟩
        case measure => simp only [intOf]; omega
    · have hltz : ¬ (j : Int) < (some_.length : Int) := by omega
      have HD := Lib.hid (show r = false by rw [← HR.out, ← hq.out, List.take_of_length_le (by omega)])
      clear hq HR
      go_wp2_with fail
      go_ret
      exact ⟨by rw [HD.out]; first | done | rfl, _, rfl⟩
theorem fold_take {l : List UInt8} {k : Nat} (hk : k < l.length) : valU (l.take (k + 1)) = 10 * valU (l.take k) + ((l.getD k 0).toNat - 48) := by
  unfold valU
  rw [List.take_succ_eq_append_getElem hk, List.foldl_append, List.getD_eq_getElem?_getD, List.getElem?_eq_getElem hk]
  rfl
theorem valU_take (l : List UInt8) (k : Nat) : valU (l.take k) ≤ valU l := by
  have h := List.take_append_drop k l
  have e : valU l = (l.drop k).foldl (fun a c => 10 * a + (c.toNat - 48)) (valU (l.take k)) := by
    conv => lhs; rw [← h]
    unfold valU
    rw [List.foldl_append]
  rw [e]
  exact foldl_ge _ _
set_option maxHeartbeats 4000000 in
set_option maxRecDepth 100000 in
theorem rvalue_any (l : List UInt8) (hd : ∀ c ∈ l, digB c = true) (hl : l.length ≤ 1073741824) (w : World) : Calls Tryz.prog 45 #[strV l] w fun o w' => o = .returned (if 2 ^ 64 ≤ valU l then .tuple #[.int .u64 0, .bool false] else .tuple #[.int .u64 (valU l), .bool true]) ∧ w' = w := by
  have hs : (⟨l.toArray⟩ : ByteArray).size = l.length := by simp [ByteArray.size]
  have HD := Lib.hid hd
  clear hd
  generalize hres : (if 2 ^ 64 ≤ valU l then Value.tuple #[.int .u64 0, .bool false] else .tuple #[.int .u64 (valU l), .bool true]) = res
  have HR := Lib.hid hres
  clear hres
  unfold strV
  go_enter Tryz.func45, Tryz.ntmps45
  go_wp2_with fail
  go_loop [4, 5] (fun n i => ∃ k : Nat, i = .int .i64 k ∧ n = .int .u64 (valU (l.take k)) ∧ k ≤ l.length ∧ Hid (valU (l.take k) < 2 ^ 64)) (fun _ i => l.length - (intOf i).toNat)
  case atStart => exact ⟨0, rfl, rfl, Nat.zero_le _, Lib.hid (by show (0 : Nat) < 2 ^ 64; decide)⟩
  case round =>
    obtain ⟨k, rfl, rfl, hk, hv⟩ := hrel
    by_cases hlt : k < l.length
    · have hltz : (k : Int) < (l.length : Int) := by omega
      have hidx : (⟨l.toArray⟩ : ByteArray)[k]'(by omega) = l.getD k 0 := by
        show l.toArray[k] = _
        simp [List.getD_eq_getElem?_getD, hlt]
      have hst := fold_take hlt
      have hle := valU_take l (k + 1)
      have hdg := HD.out (l.getD k 0) (by rw [List.getD_eq_getElem?_getD, List.getElem?_eq_getElem hlt]; exact List.getElem_mem hlt)
      unfold digB at hdg
      simp only [Bool.and_eq_true, decide_eq_true_eq] at hdg
      have q1 : IntKind.i64.wrap ((k : Int) + 1) = k + 1 := IntWalk.i64_in _ (by omega)
      generalize l.getD k 0 = c at *
      generalize valU (l.take k) = v at *
      obtain ⟨d, hdd⟩ : ∃ d : Nat, d = c.toNat - 48 := ⟨_, rfl⟩
      have hd9 : d ≤ 9 := by omega
      have hvo := hv.out
      have q2 : IntKind.u8.wrap ((c.toNat : Int) - 48) = (d : Int) := by rw [IntWalk.u8_in _ (by omega)]; omega
      have q3 : IntKind.u64.wrap (d : Int) = d := IntWalk.u64_in _ (by omega)
      obtain ⟨m, hm⟩ : ∃ m : Int, m = 18446744073709551615 - d := ⟨_, rfl⟩
      have q4 : IntKind.u64.wrap (18446744073709551615 - (d : Int)) = m := by rw [hm]; exact IntWalk.u64_in _ (by omega)
      have hm0 : 0 ≤ m := by omega
      obtain ⟨q, hqq⟩ : ∃ q : Int, q = m / 10 := ⟨_, rfl⟩
      have hz0 : (0 : Int) ≤ (d : Int) := by omega
      have hz9 : (d : Int) ≤ 9 := by omega
      have q5 : m / 10 = q := hqq.symm
      have q6 : m.tdiv 10 = q := by rw [Int.tdiv_eq_ediv_of_nonneg hm0]; exact q5
      have q9 : IntKind.u64.wrap q = q := IntWalk.u64_in _ (by omega)
      rw [← hdd] at hst
      by_cases hov : (v : Int) ≤ q
      · have hnv : ¬ q < (v : Int) := by omega
        have hb : 10 * v + d < 2 ^ 64 := by omega
        obtain ⟨y, hy⟩ : ∃ y : Int, y = 10 * (v : Int) := ⟨_, rfl⟩
        obtain ⟨y2, hy2⟩ : ∃ y2 : Int, y2 = y + d := ⟨_, rfl⟩
        have q7 : IntKind.u64.wrap (10 * (v : Int)) = y := by rw [hy]; exact IntWalk.u64_in _ (by omega)
        have q8 : IntKind.u64.wrap (y + (d : Int)) = y2 := by rw [hy2]; exact IntWalk.u64_in _ (by omega)
        have HF := Lib.hid (show Value.int .u64 y2 = .int .u64 (valU (l.take (k + 1))) ∧ valU (l.take (k + 1)) < 2 ^ 64 by
          rw [hst]
          refine ⟨?_, by omega⟩
          congr 1
          push_cast
          omega)
        clear hst hle hvo hm hqq hdd hov hb hy hy2 hd9 hv
        generalize (d : Int) = z at *
        generalize (v : Int) = vz at *
        go_wp2_with fail
        go_round
        case rel => exact ⟨k + 1, by go_num, HF.out.1, by omega, Lib.hid HF.out.2⟩
        case measure => simp only [intOf]; omega
      · have hnv : q < (v : Int) := by omega
        have HF := Lib.hid (show res = .tuple #[.int .u64 0, .bool false] by
          rw [← HR.out, if_pos (by omega)])
        clear hst hle hvo hm hqq hdd hov hd9 hv
        generalize (d : Int) = z at *
        generalize (v : Int) = vz at *
        go_wp2_with fail
        go_ret2
        exact ⟨by rw [HF.out]; first | done | rfl, rfl⟩
    · have hltz : ¬ (k : Int) < (l.length : Int) := by omega
      have HV := Lib.hid (show res = .tuple #[.int .u64 (valU (l.take k)), .bool true] by
        have hvo := hv.out
        rw [← HR.out]
        rw [List.take_of_length_le (by omega)] at hvo ⊢
        rw [if_neg (by omega)])
      clear hv
      go_wp2_with fail
      go_ret2
      exact ⟨by rw [HV.out]; first | done | rfl, rfl⟩
end Go.Proofs.YtgdhepoffnpgiaaGreatDoor
