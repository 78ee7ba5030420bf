/- The walks of accordionref04's wrong, Rune, tail, long, digit. The walk of accordionref04.Put. The walk of accordionref04.Next. The walk of accordionref04.four: written by wip/gen/nj.py. -/
import Derived.Test.YtccmhhmdenfecaaGreatDoorNh
import Derived.Test.YtccmhhmdenfecaaGreatDoorJk
import Derived.Deep.RegionLaw
import Derived.Deep.LoopGhost
import Derived.Handy
import Derived.IntWalk
import Derived.WalkSmall
import Derived.Deep.QuietTactic
import Derived.BigQuiet
namespace Go.Proofs.YtccmhhmdenfecaaGreatDoor
set_option linter.unusedVariables false
set_option linter.unusedSimpArgs false
section
open Go.RowKit Go.Shelf
theorem subr_run (l : List UInt8) (i j : Nat) (hij : i ≤ j) (hj : j ≤ l.length) (W : World) : (Instr.slice 9 (.string ⟨l.toArray⟩) (some (.int .i64 i)) (some (.int .i64 j)) none).run Tryz.prog W = .ok (.string ⟨((l.drop i).take (j - i)).toArray⟩) W := sub_run l i j hij hj W
def urV (r : UR) : Value := .tuple #[strV r.1, .int .i64 r.2.1, .int .i64 r.2.2.1, .int .i64 r.2.2.2]
def wrong4 (l : List UInt8) (i e : Int) : UR := if (l.length : Int) ≤ i then ([], 0, l.length, 3) else ([], 0, i, e)
set_option maxHeartbeats 4000000 in
set_option maxRecDepth 100000 in
theorem wrong4_any (l : List UInt8) (i e : Int) (w : World) : Calls Tryz.prog 118 #[strV l, .int .i64 i, .int .i64 e] w fun o w' => o = .returned (urV (wrong4 l i e)) ∧ w' = w := by
  have hs : (⟨l.toArray⟩ : ByteArray).size = l.length := by simp [ByteArray.size]
  obtain ⟨res, hres⟩ : ∃ r, r = urV (wrong4 l i e) := ⟨_, rfl⟩
  rw [← hres]
  unfold urV wrong4 at hres
  unfold strV at *
  by_cases h : (l.length : Int) ≤ i
  · rw [if_pos h] at hres
    have HR := Lib.hid hres
    clear hres
    go_enter Tryz.func118, Tryz.ntmps118
    go_wp2_with fail
    refine bodyPost_ret (v := urV ([], 0, l.length, 3)) (by simp [results, Tryz.results118, go_sem, urV, strV, *]) rfl ?_
    exact ⟨by rw [HR.out]; first | done | rfl, rfl⟩
  · rw [if_neg h] at hres
    have HR := Lib.hid hres
    clear hres
    go_enter Tryz.func118, Tryz.ntmps118
    go_wp2_with fail
    refine bodyPost_ret (v := urV ([], 0, i, e)) (by simp [results, Tryz.results118, go_sem, urV, strV, *]) rfl ?_
    exact ⟨by rw [HR.out]; first | done | rfl, rfl⟩
set_option maxHeartbeats 4000000 in
set_option maxRecDepth 100000 in
theorem tail_any (n : Int) (h0 : 0 ≤ n) (h1 : n ≤ 1114111) (w : World) : Calls Tryz.prog 161 #[.int .i64 n] w fun o w' => o = .returned (.int .u8 (128 + n % 64)) ∧ w' = w := by
  obtain ⟨m, hm⟩ : ∃ m : Int, m = n % 64 := ⟨_, rfl⟩
  have hm2 : n.tmod 64 = m := by rw [Int.tmod_eq_emod_of_nonneg h0, hm]
  have q1 : IntKind.i64.wrap m = m := IntWalk.i64_in _ (by omega)
  have q2 : IntKind.i64.wrap (128 + m) = 128 + m := IntWalk.i64_in _ (by omega)
  have q3 : IntKind.u8.wrap (128 + m) = 128 + m := IntWalk.u8_in _ (by omega)
  have hm3 : n % 64 = m := hm.symm
  rw [hm3]
  clear hm
  go_enter Tryz.func161, Tryz.ntmps161
  go_wp2_with fail
  go_ret
  exact ⟨rfl, rfl⟩
set_option maxHeartbeats 4000000 in
set_option maxRecDepth 100000 in
theorem rune_any (n : Int) (w : World) : Calls Tryz.prog 160 #[.int .i64 n] w fun o w' => o = .returned (.bool (scalB n)) ∧ w' = w := by
  obtain ⟨res, hres⟩ : ∃ r, r = scalB n := ⟨_, rfl⟩
  rw [← hres]
  unfold scalB at hres
  by_cases h0 : 0 ≤ n
  · by_cases h1 : n ≤ 1114111
    · by_cases h2 : n < 55296
      · have HR := Lib.hid (show res = true by rw [hres]; simp [h0, h1, h2])
        have d0 : decide (0 ≤ n) = true := decide_eq_true h0
        have d1 : decide (n ≤ 1114111) = true := decide_eq_true h1
        have d2 : decide (n < 55296) = true := decide_eq_true h2
        clear hres
        go_enter Tryz.func160, Tryz.ntmps160
        go_wp2_with fail
        go_ret
        exact ⟨by rw [HR.out]; first | done | rfl, rfl⟩
      · by_cases h3 : 57343 < n
        · have HR := Lib.hid (show res = true by rw [hres]; simp [h0, h1, h3])
          have d0 : decide (0 ≤ n) = true := decide_eq_true h0
          have d1 : decide (n ≤ 1114111) = true := decide_eq_true h1
          have d2 : decide (n < 55296) = false := decide_eq_false h2
          have d3 : decide (57343 < n) = true := decide_eq_true h3
          clear hres
          go_enter Tryz.func160, Tryz.ntmps160
          go_wp2_with fail
          go_ret
          exact ⟨by rw [HR.out]; first | done | rfl, rfl⟩
        · have HR := Lib.hid (show res = false by rw [hres]; simp [h2, h3])
          have d0 : decide (0 ≤ n) = true := decide_eq_true h0
          have d1 : decide (n ≤ 1114111) = true := decide_eq_true h1
          have d2 : decide (n < 55296) = false := decide_eq_false h2
          have d3 : decide (57343 < n) = false := decide_eq_false h3
          clear hres
          go_enter Tryz.func160, Tryz.ntmps160
          go_wp2_with fail
          go_ret
          exact ⟨by rw [HR.out]; first | done | rfl, rfl⟩
    · have HR := Lib.hid (show res = false by rw [hres]; simp [h1])
      have d0 : decide (0 ≤ n) = true := decide_eq_true h0
      have d1 : decide (n ≤ 1114111) = false := decide_eq_false h1
      clear hres
      go_enter Tryz.func160, Tryz.ntmps160
      go_wp2_with fail
      go_ret
      exact ⟨by rw [HR.out]; first | done | rfl, rfl⟩
  · have HR := Lib.hid (show res = false by rw [hres]; simp [h0])
    have d0 : decide (0 ≤ n) = false := decide_eq_false h0
    clear hres
    go_enter Tryz.func160, Tryz.ntmps160
    go_wp2_with fail
    go_ret
    exact ⟨by rw [HR.out]; first | done | rfl, rfl⟩
set_option maxHeartbeats 4000000 in
set_option maxRecDepth 100000 in
theorem long_any (c : UInt8) (w : World) : Calls Tryz.prog 139 #[.int .u8 c.toNat] w fun o w' => o = .returned (.int .i64 (longB c.toNat)) ∧ w' = w := by
  obtain ⟨b, hb⟩ : ∃ b, b = c.toNat := ⟨_, rfl⟩
  have hlt := c.toNat_lt
  rw [← hb] at hlt ⊢
  clear hb
  obtain ⟨res, hres⟩ : ∃ r, r = longB b := ⟨_, rfl⟩
  rw [← hres]
  unfold longB at hres
  by_cases h0 : b < 128
  · have HR := Lib.hid (show res = 1 by rw [hres, if_pos h0])
    have z0 : (b : Int) < 128 := by omega
    clear hres
    go_enter Tryz.func139, Tryz.ntmps139
    go_wp2_with fail
    go_ret
    exact ⟨by rw [HR.out]; first | done | rfl, rfl⟩
  have z0 : ¬ (b : Int) < 128 := by omega
  by_cases h1 : b < 194
  · have HR := Lib.hid (show res = 0 by rw [hres, if_neg h0, if_pos h1])
    have z1 : ¬ 194 ≤ (b : Int) := by omega
    have z2 : ¬ 224 ≤ (b : Int) := by omega
    have z3 : ¬ 240 ≤ (b : Int) := by omega
    clear hres
    go_enter Tryz.func139, Tryz.ntmps139
    go_wp2_with fail
    go_ret
    exact ⟨by rw [HR.out]; first | done | rfl, rfl⟩
  have z1 : 194 ≤ (b : Int) := by omega
  by_cases h2 : b < 224
  · have HR := Lib.hid (show res = 2 by rw [hres, if_neg h0, if_neg h1, if_pos h2])
    have z2 : (b : Int) < 224 := by omega
    clear hres
    go_enter Tryz.func139, Tryz.ntmps139
    go_wp2_with fail
    go_ret
    exact ⟨by rw [HR.out]; first | done | rfl, rfl⟩
  have z2 : ¬ (b : Int) < 224 := by omega
  have z2' : 224 ≤ (b : Int) := by omega
  by_cases h3 : b < 240
  · have HR := Lib.hid (show res = 3 by rw [hres, if_neg h0, if_neg h1, if_neg h2, if_pos h3])
    have z3 : (b : Int) < 240 := by omega
    clear hres
    go_enter Tryz.func139, Tryz.ntmps139
    go_wp2_with fail
    go_ret
    exact ⟨by rw [HR.out]; first | done | rfl, rfl⟩
  have z3 : ¬ (b : Int) < 240 := by omega
  have z3' : 240 ≤ (b : Int) := by omega
  by_cases h4 : b < 245
  · have HR := Lib.hid (show res = 4 by rw [hres, if_neg h0, if_neg h1, if_neg h2, if_neg h3, if_pos h4])
    have z4 : (b : Int) < 245 := by omega
    clear hres
    go_enter Tryz.func139, Tryz.ntmps139
    go_wp2_with fail
    go_ret
    exact ⟨by rw [HR.out]; first | done | rfl, rfl⟩
  · have HR := Lib.hid (show res = 0 by rw [hres, if_neg h0, if_neg h1, if_neg h2, if_neg h3, if_neg h4])
    have z4 : ¬ (b : Int) < 245 := by omega
    clear hres
    go_enter Tryz.func139, Tryz.ntmps139
    go_wp2_with fail
    go_ret
    exact ⟨by rw [HR.out]; first | done | rfl, rfl⟩
def smallL : List UInt8 := [48, 49, 50, 51, 52, 53, 54, 55, 56, 57, 97, 98, 99, 100, 101, 102]
def greatL : List UInt8 := [48, 49, 50, 51, 52, 53, 54, 55, 56, 57, 65, 66, 67, 68, 69, 70]
theorem small_idx {j : Nat} (hj : j < 16) (h : j < (⟨#[48, 49, 50, 51, 52, 53, 54, 55, 56, 57, 97, 98, 99, 100, 101, 102]⟩ : ByteArray).size) : (⟨#[48, 49, 50, 51, 52, 53, 54, 55, 56, 57, 97, 98, 99, 100, 101, 102]⟩ : ByteArray)[j]'h = smallL.getD j 0 := by
  show (#[48, 49, 50, 51, 52, 53, 54, 55, 56, 57, 97, 98, 99, 100, 101, 102] : Array UInt8)[j]'h = _
  simp [smallL, List.getD_eq_getElem?_getD, hj]
theorem great_idx {j : Nat} (hj : j < 16) (h : j < (⟨#[48, 49, 50, 51, 52, 53, 54, 55, 56, 57, 65, 66, 67, 68, 69, 70]⟩ : ByteArray).size) : (⟨#[48, 49, 50, 51, 52, 53, 54, 55, 56, 57, 65, 66, 67, 68, 69, 70]⟩ : ByteArray)[j]'h = greatL.getD j 0 := by
  show (#[48, 49, 50, 51, 52, 53, 54, 55, 56, 57, 65, 66, 67, 68, 69, 70] : Array UInt8)[j]'h = _
  simp [greatL, List.getD_eq_getElem?_getD, hj]
theorem hex_at {c : UInt8} {j : Nat} (hj : j < 16) (h : c = smallL.getD j 0 ∨ c = greatL.getD j 0) : hexV c = j := by
  have hall : ∀ i : Fin 16, hexV (smallL.getD i.val 0) = (i.val : Int) ∧ hexV (greatL.getD i.val 0) = (i.val : Int) := by decide +kernel
  rcases h with rfl | rfl
  · exact (hall ⟨j, hj⟩).1
  · exact (hall ⟨j, hj⟩).2
theorem hex_none {c : UInt8} (h : ∀ i, i < 16 → c ≠ smallL.getD i 0 ∧ c ≠ greatL.getD i 0) : hexV c = -1 := by
  have hall : ∀ n : Fin 256, hexV (UInt8.ofNat n.val) = -1 ∨ ∃ i : Fin 16, UInt8.ofNat n.val = smallL.getD i.val 0 ∨ UInt8.ofNat n.val = greatL.getD i.val 0 := by decide +kernel
  have h2 := hall ⟨c.toNat, c.toNat_lt⟩
  have e : UInt8.ofNat c.toNat = c := by simp
  simp only [e] at h2
  rcases h2 with h2 | ⟨i, h2⟩
  · exact h2
  · have := h i.val i.isLt
    rcases h2 with h2 | h2
    · exact absurd h2 this.1
    · exact absurd h2 this.2
set_option maxHeartbeats 4000000 in
set_option maxRecDepth 100000 in
theorem digit_any (c : UInt8) (w : World) : Calls Tryz.prog 159 #[.int .u8 c.toNat] w fun o w' => o = .returned (.int .i64 (hexV c)) ∧ w' = w := by
  obtain ⟨res, hres⟩ : ∃ r, r = hexV c := ⟨_, rfl⟩
  rw [← hres]
  have HX := Lib.hid hres
  clear hres
  go_enter Tryz.func159, Tryz.ntmps159
  go_wp2_with fail
  have hs1 : (⟨#[48, 49, 50, 51, 52, 53, 54, 55, 56, 57, 97, 98, 99, 100, 101, 102]⟩ : ByteArray).size = 16 := rfl
  have hs2 : (⟨#[48, 49, 50, 51, 52, 53, 54, 55, 56, 57, 65, 66, 67, 68, 69, 70]⟩ : ByteArray).size = 16 := rfl
  go_loopw [3] (fun i wr => ∃ (j : Nat), i = .int .i64 j ∧ j ≤ 16 ∧ wr = w ∧ Hid (∀ i, i < j → c ≠ smallL.getD i 0 ∧ c ≠ greatL.getD i 0)) (fun i _ => 16 - (intOf i).toNat)
  case atStart => exact ⟨0, rfl, by omega, rfl, Lib.hid (fun i h => by omega)⟩
  case round =>
    obtain ⟨j, rfl, hj, rfl, hm⟩ := hrel
    by_cases hlt : j < 16
    · have hjz : (j : Int) < 16 := by omega
      have hidx1 := small_idx hlt (by omega)
      have hidx2 := great_idx hlt (by omega)
      have q1 : IntKind.i64.wrap ((j : Int) + 1) = j + 1 := IntWalk.i64_in _ (by omega)
      by_cases h1 : c = smallL.getD j 0
      · have HD := Lib.hid (show res = (j : Int) by rw [HX.out, hex_at hlt (.inl h1)])
        have hz1 : (((smallL.getD j 0).toNat : Int) == (c.toNat : Int)) = true := by rw [← h1]; simp
        clear h1 hm HX
        generalize smallL.getD j 0 = d1 at *
        generalize greatL.getD j 0 = d2 at *
        go_wp2_with fail
        go_ret
        exact ⟨by rw [HD.out]; first | done | rfl, rfl⟩
      · have hz1 : (((smallL.getD j 0).toNat : Int) == (c.toNat : Int)) = false := by
          simp only [beq_eq_false_iff_ne, ne_eq, Int.natCast_inj]
          exact fun e => h1 (UInt8.toNat_inj.1 e.symm)
        by_cases h2 : c = greatL.getD j 0
        · have HD := Lib.hid (show res = (j : Int) by rw [HX.out, hex_at hlt (.inr h2)])
          have hz2 : (((greatL.getD j 0).toNat : Int) == (c.toNat : Int)) = true := by rw [← h2]; simp
          clear h1 h2 hm HX
          generalize smallL.getD j 0 = d1 at *
          generalize greatL.getD j 0 = d2 at *
          go_wp2_with fail
          go_ret
          exact ⟨by rw [HD.out]; first | done | rfl, rfl⟩
        · have hz2 : (((greatL.getD j 0).toNat : Int) == (c.toNat : Int)) = false := by
            simp only [beq_eq_false_iff_ne, ne_eq, Int.natCast_inj]
            exact fun e => h2 (UInt8.toNat_inj.1 e.symm)
          have HM := Lib.hid (show ∀ i, i < j + 1 → c ≠ smallL.getD i 0 ∧ c ≠ greatL.getD i 0 from fun i hi => by
            by_cases h : i = j
            · rw [h]; exact ⟨h1, h2⟩
            · exact hm.out i (by omega))
          clear h1 h2 hm
          generalize smallL.getD j 0 = d1 at *
          generalize greatL.getD j 0 = d2 at *
          go_wp2_with fail
          go_roundw
          case rel => exact ⟨j + 1, by go_num, by omega, by first | rfl | trivial, HM⟩
          case measure => simp only [intOf]; omega
    · have hjz : ¬ (j : Int) < 16 := by omega
      have HD := Lib.hid (show res = -1 by rw [HX.out]; exact hex_none (fun i hi => hm.out i (by omega)))
      clear hm HX
      go_wp2_with fail
      go_ret
      exact ⟨by rw [HD.out]; first | done | rfl, rfl⟩
end
section
open Go.RowKit Go.Shelf
theorem conv_nums (W : World) (b cap : Nat) (xs : List Int) (e : TypeId) (fr : Nat × Nat) (h : W.heap[b]? = some (.cells (xs.map (Value.int .u8)).toArray e fr)) :
    (convert 76 9 (.slice (some ⟨b, 0, none⟩) xs.length cap)).run Tryz.prog W = .ok (.string ⟨(xs.map fun x => x.toNat.toUInt8).toArray⟩) W := by
  have hx := run_convert_bytes_arg (P := Tryz.prog) W 76 5 Tryz.underlying76 Tryz.underlying5 b 0 xs.length cap xs rfl (fun i hi => by
    rw [Nat.zero_add, Lib.cell_of_heap h, List.getElem?_toArray, List.getElem?_map, List.getElem?_eq_getElem hi, List.getD_eq_getElem?_getD, List.getElem?_eq_getElem hi]
    rfl) 9 Tryz.underlying9
  rw [hx]
  rfl
set_option maxHeartbeats 4000000 in
set_option maxRecDepth 100000 in
theorem put_not (n : Int) (hn0 : -2147483648 ≤ n) (hn1 : n ≤ 2147483647) (h : scalB n = false) (w : World) : Calls Tryz.prog 138 #[.int .i32 n] w fun o w' => o = .returned (.tuple #[strV (putL n), .bool (scalB n)]) ∧ Below w.heap.size w w' := by
  have hp : putL n = [] := by unfold putL; rw [if_neg (by rw [h]; decide)]
  rw [h, hp]
  have q0 : IntKind.i64.wrap n = n := IntWalk.i64_in _ (by omega)
  have HN := Lib.hid (fun W => rune_any n W)
  rw [h] at HN
  clear h hp
  unfold strV
  go_enter Tryz.func138, Tryz.ntmps138
  go_wp2_with fail
  refine (HN.out _).mono ?_
  rintro e w1 ⟨rfl, rfl⟩
  go_wp2_with fail
  go_ret2
  exact ⟨rfl, Below.refl _ _⟩
set_option maxHeartbeats 4000000 in
set_option maxRecDepth 100000 in
theorem put_1 (n : Int) (h0 : 0 ≤ n) (h1 : n < 128) (w : World) : Calls Tryz.prog 138 #[.int .i32 n] w fun o w' => o = .returned (.tuple #[strV (putL n), .bool (scalB n)]) ∧ Below w.heap.size w w' := by
  have h : scalB n = true := (scal_iff n).2 ⟨h0, by omega, .inl (by omega)⟩
  have hp : putL n = [n.toNat.toUInt8] := by
    rw [putL_of ⟨h0, by omega, .inl (by omega)⟩]
    unfold Lib.encodeRune
    rw [Lib.encodeRuneZ_one (by omega) (by omega)]
    rfl
  rw [h, hp]
  have q0 : IntKind.i64.wrap n = n := IntWalk.i64_in _ (by omega)
  have HN := Lib.hid (fun W => rune_any n W)
  rw [h] at HN
  have q1 : IntKind.u8.wrap n = n := IntWalk.u8_in _ (by omega)
  clear h hp
  unfold strV
  go_enter Tryz.func138, Tryz.ntmps138
  go_wp2_with fail
  refine (HN.out _).mono ?_
  rintro e w1 ⟨rfl, rfl⟩
  have hcv : (convert 76 9 (.slice (some ⟨w1.heap.size, 0, none⟩) 1 1)).run Tryz.prog (w1.alloc (.cells #[.int .u8 n] 5 (0, 0))) = .ok (.string ⟨#[n.toNat.toUInt8]⟩) (w1.alloc (.cells #[.int .u8 n] 5 (0, 0))) := conv_nums _ _ 1 [n] _ _ (heap_alloc_new _ _)
  go_wp2_with fail
  go_ret2
  exact ⟨rfl, (Below.refl _ _).alloc (Nat.le_refl _) _⟩
set_option maxHeartbeats 4000000 in
set_option maxRecDepth 100000 in
theorem put_2 (n : Int) (h0 : 128 ≤ n) (h1 : n ≤ 2047) (w : World) : Calls Tryz.prog 138 #[.int .i32 n] w fun o w' => o = .returned (.tuple #[strV (putL n), .bool (scalB n)]) ∧ Below w.heap.size w w' := by
  have hsc : 0 ≤ n ∧ n ≤ 1114111 ∧ (n < 55296 ∨ 57343 < n) := ⟨by omega, by omega, (.inl (by omega))⟩
  have h : scalB n = true := (scal_iff n).2 hsc
  obtain ⟨p64, hp64⟩ : ∃ z : Int, z = n / 64 := ⟨_, rfl⟩
  obtain ⟨y1, hy1⟩ : ∃ z : Int, z = 128 + n % 64 := ⟨_, rfl⟩
  obtain ⟨y0, hy0⟩ : ∃ z : Int, z = 192 + p64 := ⟨_, rfl⟩
  have hp : putL n = [y0.toNat.toUInt8, y1.toNat.toUInt8] := by
    rw [putL_of hsc]
    unfold Lib.encodeRune
    rw [Lib.encodeRuneZ_two (by omega) (by omega), ← hp64]
    rw [← hy0, ← hy1]
    rfl
  rw [h, hp]
  have HN := Lib.hid (fun W => rune_any n W)
  rw [h] at HN
  have q0 : IntKind.i64.wrap n = n := IntWalk.i64_in _ (by omega)
  have d64 : n.tdiv 64 = p64 := by rw [Int.tdiv_eq_ediv_of_nonneg (by omega), hp64]
  have e64 : n / 64 = p64 := hp64.symm
  have q64 : IntKind.i64.wrap p64 = p64 := IntWalk.i64_in _ (by omega)
  have HT1 := Lib.hid (fun W => tail_any n (by omega) (by omega) W)
  rw [← hy1] at HT1
  have qa : IntKind.i64.wrap (192 + p64) = y0 := by rw [← hy0]; exact IntWalk.i64_in _ (by omega)
  have qb : IntKind.u8.wrap y0 = y0 := IntWalk.u8_in _ (by omega)
  have l1 : ¬ n < 128 := by omega
  have l2 : n < 2048 := by omega
  clear h hp hsc hp64 hy0 hy1 h0 h1
  unfold strV
  go_enter Tryz.func138, Tryz.ntmps138
  go_wp2_with fail
  refine (HN.out _).mono ?_
  rintro e w1 ⟨rfl, rfl⟩
  have hcv : (convert 76 9 (.slice (some ⟨w1.heap.size, 0, none⟩) 2 2)).run Tryz.prog (w1.alloc (.cells #[.int .u8 y0, .int .u8 y1] 5 (0, 0))) = .ok (.string ⟨#[y0.toNat.toUInt8, y1.toNat.toUInt8]⟩) (w1.alloc (.cells #[.int .u8 y0, .int .u8 y1] 5 (0, 0))) := conv_nums _ _ 2 [y0, y1] _ _ (heap_alloc_new _ _)
  go_wp2_with fail
  refine (HT1.out _).mono ?_
  rintro e w2 ⟨rfl, rfl⟩
  go_wp2_with fail
  go_ret2
  exact ⟨rfl, (Below.refl _ _).alloc (Nat.le_refl _) _⟩
set_option maxHeartbeats 4000000 in
set_option maxRecDepth 100000 in
theorem put_3 (n : Int) (h0 : 2048 ≤ n) (h1 : n ≤ 65535) (hs : n < 55296 ∨ 57343 < n) (w : World) : Calls Tryz.prog 138 #[.int .i32 n] w fun o w' => o = .returned (.tuple #[strV (putL n), .bool (scalB n)]) ∧ Below w.heap.size w w' := by
  have hsc : 0 ≤ n ∧ n ≤ 1114111 ∧ (n < 55296 ∨ 57343 < n) := ⟨by omega, by omega, hs⟩
  have h : scalB n = true := (scal_iff n).2 hsc
  obtain ⟨p64, hp64⟩ : ∃ z : Int, z = n / 64 := ⟨_, rfl⟩
  obtain ⟨p4096, hp4096⟩ : ∃ z : Int, z = n / 4096 := ⟨_, rfl⟩
  obtain ⟨y1, hy1⟩ : ∃ z : Int, z = 128 + p64 % 64 := ⟨_, rfl⟩
  obtain ⟨y2, hy2⟩ : ∃ z : Int, z = 128 + n % 64 := ⟨_, rfl⟩
  obtain ⟨y0, hy0⟩ : ∃ z : Int, z = 224 + p4096 := ⟨_, rfl⟩
  have hp : putL n = [y0.toNat.toUInt8, y1.toNat.toUInt8, y2.toNat.toUInt8] := by
    rw [putL_of hsc]
    unfold Lib.encodeRune
    rw [Lib.encodeRuneZ_three (by omega), ← hp4096]
    rw [← hy0, ← hp64, ← hy1, ← hy2]
    rfl
  rw [h, hp]
  have HN := Lib.hid (fun W => rune_any n W)
  rw [h] at HN
  have q0 : IntKind.i64.wrap n = n := IntWalk.i64_in _ (by omega)
  have d64 : n.tdiv 64 = p64 := by rw [Int.tdiv_eq_ediv_of_nonneg (by omega), hp64]
  have e64 : n / 64 = p64 := hp64.symm
  have q64 : IntKind.i64.wrap p64 = p64 := IntWalk.i64_in _ (by omega)
  have d4096 : n.tdiv 4096 = p4096 := by rw [Int.tdiv_eq_ediv_of_nonneg (by omega), hp4096]
  have e4096 : n / 4096 = p4096 := hp4096.symm
  have q4096 : IntKind.i64.wrap p4096 = p4096 := IntWalk.i64_in _ (by omega)
  have HT1 := Lib.hid (fun W => tail_any p64 (by omega) (by omega) W)
  rw [← hy1] at HT1
  have HT2 := Lib.hid (fun W => tail_any n (by omega) (by omega) W)
  rw [← hy2] at HT2
  have qa : IntKind.i64.wrap (224 + p4096) = y0 := by rw [← hy0]; exact IntWalk.i64_in _ (by omega)
  have qb : IntKind.u8.wrap y0 = y0 := IntWalk.u8_in _ (by omega)
  have l1 : ¬ n < 128 := by omega
  have l2 : ¬ n < 2048 := by omega
  have l3 : n < 65536 := by omega
  clear h hp hsc hp64 hp4096 hy0 hy1 hy2 h0 h1 hs
  unfold strV
  go_enter Tryz.func138, Tryz.ntmps138
  go_wp2_with fail
  refine (HN.out _).mono ?_
  rintro e w1 ⟨rfl, rfl⟩
  have hcv : (convert 76 9 (.slice (some ⟨w1.heap.size, 0, none⟩) 3 3)).run Tryz.prog (w1.alloc (.cells #[.int .u8 y0, .int .u8 y1, .int .u8 y2] 5 (0, 0))) = .ok (.string ⟨#[y0.toNat.toUInt8, y1.toNat.toUInt8, y2.toNat.toUInt8]⟩) (w1.alloc (.cells #[.int .u8 y0, .int .u8 y1, .int .u8 y2] 5 (0, 0))) := conv_nums _ _ 3 [y0, y1, y2] _ _ (heap_alloc_new _ _)
  go_wp2_with fail
  refine (HT1.out _).mono ?_
  rintro e w2 ⟨rfl, rfl⟩
  go_wp2_with fail
  refine (HT2.out _).mono ?_
  rintro e w2 ⟨rfl, rfl⟩
  go_wp2_with fail
  go_ret2
  exact ⟨rfl, (Below.refl _ _).alloc (Nat.le_refl _) _⟩
set_option maxHeartbeats 4000000 in
set_option maxRecDepth 100000 in
theorem put_4 (n : Int) (h0 : 65536 ≤ n) (h1 : n ≤ 1114111) (w : World) : Calls Tryz.prog 138 #[.int .i32 n] w fun o w' => o = .returned (.tuple #[strV (putL n), .bool (scalB n)]) ∧ Below w.heap.size w w' := by
  have hsc : 0 ≤ n ∧ n ≤ 1114111 ∧ (n < 55296 ∨ 57343 < n) := ⟨by omega, by omega, (.inr (by omega))⟩
  have h : scalB n = true := (scal_iff n).2 hsc
  obtain ⟨p64, hp64⟩ : ∃ z : Int, z = n / 64 := ⟨_, rfl⟩
  obtain ⟨p4096, hp4096⟩ : ∃ z : Int, z = n / 4096 := ⟨_, rfl⟩
  obtain ⟨p262144, hp262144⟩ : ∃ z : Int, z = n / 262144 := ⟨_, rfl⟩
  obtain ⟨y1, hy1⟩ : ∃ z : Int, z = 128 + p4096 % 64 := ⟨_, rfl⟩
  obtain ⟨y2, hy2⟩ : ∃ z : Int, z = 128 + p64 % 64 := ⟨_, rfl⟩
  obtain ⟨y3, hy3⟩ : ∃ z : Int, z = 128 + n % 64 := ⟨_, rfl⟩
  obtain ⟨y0, hy0⟩ : ∃ z : Int, z = 240 + p262144 := ⟨_, rfl⟩
  have hp : putL n = [y0.toNat.toUInt8, y1.toNat.toUInt8, y2.toNat.toUInt8, y3.toNat.toUInt8] := by
    rw [putL_of hsc]
    unfold Lib.encodeRune
    rw [Lib.encodeRuneZ_four (by omega) (by omega), ← hp262144]
    rw [← hy0, ← hp4096, ← hy1, ← hp64, ← hy2, ← hy3]
    rfl
  rw [h, hp]
  have HN := Lib.hid (fun W => rune_any n W)
  rw [h] at HN
  have q0 : IntKind.i64.wrap n = n := IntWalk.i64_in _ (by omega)
  have d64 : n.tdiv 64 = p64 := by rw [Int.tdiv_eq_ediv_of_nonneg (by omega), hp64]
  have e64 : n / 64 = p64 := hp64.symm
  have q64 : IntKind.i64.wrap p64 = p64 := IntWalk.i64_in _ (by omega)
  have d4096 : n.tdiv 4096 = p4096 := by rw [Int.tdiv_eq_ediv_of_nonneg (by omega), hp4096]
  have e4096 : n / 4096 = p4096 := hp4096.symm
  have q4096 : IntKind.i64.wrap p4096 = p4096 := IntWalk.i64_in _ (by omega)
  have d262144 : n.tdiv 262144 = p262144 := by rw [Int.tdiv_eq_ediv_of_nonneg (by omega), hp262144]
  have e262144 : n / 262144 = p262144 := hp262144.symm
  have q262144 : IntKind.i64.wrap p262144 = p262144 := IntWalk.i64_in _ (by omega)
  have HT1 := Lib.hid (fun W => tail_any p4096 (by omega) (by omega) W)
  rw [← hy1] at HT1
  have HT2 := Lib.hid (fun W => tail_any p64 (by omega) (by omega) W)
  rw [← hy2] at HT2
  have HT3 := Lib.hid (fun W => tail_any n (by omega) (by omega) W)
  rw [← hy3] at HT3
  have qa : IntKind.i64.wrap (240 + p262144) = y0 := by rw [← hy0]; exact IntWalk.i64_in _ (by omega)
  have qb : IntKind.u8.wrap y0 = y0 := IntWalk.u8_in _ (by omega)
  have l1 : ¬ n < 128 := by omega
  have l2 : ¬ n < 2048 := by omega
  have l3 : ¬ n < 65536 := by omega
  clear h hp hsc hp64 hp4096 hp262144 hy0 hy1 hy2 hy3 h0 h1
  unfold strV
  go_enter Tryz.func138, Tryz.ntmps138
  go_wp2_with fail
  refine (HN.out _).mono ?_
  rintro e w1 ⟨rfl, rfl⟩
  have hcv : (convert 76 9 (.slice (some ⟨w1.heap.size, 0, none⟩) 4 4)).run Tryz.prog (w1.alloc (.cells #[.int .u8 y0, .int .u8 y1, .int .u8 y2, .int .u8 y3] 5 (0, 0))) = .ok (.string ⟨#[y0.toNat.toUInt8, y1.toNat.toUInt8, y2.toNat.toUInt8, y3.toNat.toUInt8]⟩) (w1.alloc (.cells #[.int .u8 y0, .int .u8 y1, .int .u8 y2, .int .u8 y3] 5 (0, 0))) := conv_nums _ _ 4 [y0, y1, y2, y3] _ _ (heap_alloc_new _ _)
  go_wp2_with fail
  refine (HT1.out _).mono ?_
  rintro e w2 ⟨rfl, rfl⟩
  go_wp2_with fail
  refine (HT2.out _).mono ?_
  rintro e w2 ⟨rfl, rfl⟩
  go_wp2_with fail
  refine (HT3.out _).mono ?_
  rintro e w2 ⟨rfl, rfl⟩
  go_wp2_with fail
  go_ret2
  exact ⟨rfl, (Below.refl _ _).alloc (Nat.le_refl _) _⟩
/-- Put gives the encoding of a scalar value, else nothing. -/
theorem rput_any (n : Int) (hn0 : -2147483648 ≤ n) (hn1 : n ≤ 2147483647) (w : World) : Calls Tryz.prog 138 #[.int .i32 n] w fun o w' => o = .returned (.tuple #[strV (putL n), .bool (scalB n)]) ∧ Below w.heap.size w w' := by
  cases h : scalB n with
  | false => have := put_not n hn0 hn1 h w; rw [h] at this; exact this
  | true =>
    obtain ⟨g0, g1, g2⟩ := (scal_iff n).1 h
    rw [← h]
    rcases Int.lt_or_le n 128 with k1 | k1
    · exact put_1 n g0 k1 w
    rcases Int.lt_or_le n 2048 with k2 | k2
    · exact put_2 n k1 (by omega) w
    rcases Int.lt_or_le n 65536 with k3 | k3
    · exact put_3 n k2 (by omega) g2 w
    · exact put_4 n k3 g1 w
end
section
open Go.RowKit Go.Shelf
theorem below_drew1 {B : Nat} {w w' : World} (h : Below B w w') : Below B w w'.drew := by have := below_drewN h 1; exact this
theorem slice1 {x : List UInt8} {m : Nat} (hm : m < x.length) (W : World) : (Instr.slice 9 (.string ⟨x.toArray⟩) (some (.int .i64 m)) (some (.int .i64 ((m : Int) + 1))) none).run Tryz.prog W = .ok (.string ⟨#[x.getD m 0]⟩) W := by
  have h := sub_run x m (m + 1) (by omega) (by omega) W
  rw [show ((m + 1 : Nat) : Int) = (m : Int) + 1 from rfl] at h
  rw [h]
  have e : (x.drop m).take (m + 1 - m) = [x.getD m 0] := by
    rw [Nat.add_sub_cancel_left, List.drop_eq_getElem_cons hm, List.take_succ_cons, List.take_zero, List.getD_eq_getElem?_getD, List.getElem?_eq_getElem hm]
    rfl
  rw [e]
theorem str_app (a b : List UInt8) : (⟨a.toArray⟩ : ByteArray) ++ ⟨b.toArray⟩ = ⟨(a ++ b).toArray⟩ := by
  apply ByteArray.ext
  rw [ByteArray.data_append]
  simp
theorem str_add (a b : List UInt8) (h : a.length + b.length ≤ 9223372036854775807) (W : World) : (binOp .add 9 (.string ⟨a.toArray⟩) (.string ⟨b.toArray⟩)).run Tryz.prog W = .ok (.string ⟨(a ++ b).toArray⟩) W := by
  have e : (⟨a.toArray⟩ : ByteArray) ++ ⟨b.toArray⟩ = ⟨(a ++ b).toArray⟩ := by
    apply ByteArray.ext
    rw [ByteArray.data_append]
    simp
  have hz : (⟨a.toArray⟩ : ByteArray).size + (⟨b.toArray⟩ : ByteArray).size ≤ 9223372036854775807 := by simp [ByteArray.size]; omega
  simp [go_sem, e, ByteArray.size, h]
/-- What the reference's Next hands back. -/
def nextV (l : List UInt8) : Value := if DoneU l.length (bat l 0) (bat l 1) (bat l 2) (bat l 3) then .tuple #[.int .i32 (vUp (headZ (longB (bat l 0))) l (longB (bat l 0) - 1)), .int .i64 (longB (bat l 0)), .bool true] else .tuple #[.int .i32 0, .int .i64 0, .bool false]
theorem bat_idx {l : List UInt8} {i : Nat} (h : i < l.length) (h' : i < (⟨l.toArray⟩ : ByteArray).size) : (⟨l.toArray⟩ : ByteArray)[i]'h' = l.getD i 0 := by
  show l.toArray[i] = _
  simp [List.getD_eq_getElem?_getD, h]
set_option maxHeartbeats 4000000 in
set_option maxRecDepth 100000 in
theorem next4_bad (l : List UInt8) (hl : l.length ≤ 1073741824) (h : ¬ (1 ≤ longB (bat l 0) ∧ longB (bat l 0) ≤ l.length)) (w : World) : Calls Tryz.prog 120 #[strV l] w fun o w' => o = .returned (nextV l) ∧ Below w.heap.size w w' := by
  have hs : (⟨l.toArray⟩ : ByteArray).size = l.length := by simp [ByteArray.size]
  have hr : nextV l = .tuple #[.int .i32 0, .int .i64 0, .bool false] := by
    unfold nextV
    rw [if_neg (fun g => h ⟨g.1, g.2.1⟩)]
  rw [hr]
  clear hr
  unfold strV
  by_cases h0 : l.length = 0
  · have hz : ((l.length : Int) == 0) = true := by simp [h0]
    clear h
    go_enter Tryz.func120, Tryz.ntmps120
    go_wp2_with fail
    go_ret3
    exact ⟨rfl, Below.refl _ _⟩
  have hz : ((l.length : Int) == 0) = false := by simp [h0]
  have hidx := bat_idx (l := l) (i := 0) (by omega) (by omega)
  have hb : (l.getD 0 0).toNat = bat l 0 := rfl
  have HL : Hid (∀ W, Calls Tryz.prog 139 #[.int .u8 (l.getD 0 0).toNat] W fun o w' => o = .returned (.int .i64 (longB (bat l 0))) ∧ w' = W) := Lib.hid (fun W => long_any (l.getD 0 0) W)
  clear hb
  generalize l.getD 0 0 = c at *
  generalize longB (bat l 0) = n at *
  by_cases hn : n = 0
  · have hnz : ((n : Int) == 0) = true := by simp [hn]
    clear h hn
    go_enter Tryz.func120, Tryz.ntmps120
    go_wp2_with fail
    refine (HL.out _).mono ?_
    rintro e w1 ⟨rfl, rfl⟩
    clear HL
    go_wp2_with fail
    go_ret3
    exact ⟨rfl, Below.refl _ _⟩
  · have hnz : ((n : Int) == 0) = false := by simp [hn]
    have hdn : l.length < n := by omega
    have hdz : (l.length : Int) < (n : Int) := by omega
    clear h hn
    go_enter Tryz.func120, Tryz.ntmps120
    go_wp2_with fail
    refine (HL.out _).mono ?_
    rintro e w1 ⟨rfl, rfl⟩
    clear HL
    go_wp2_with fail
    go_ret3
    exact ⟨rfl, Below.refl _ _⟩
set_option maxHeartbeats 4000000 in
set_option maxRecDepth 100000 in
theorem next4_ok (l : List UInt8) (hl : l.length ≤ 1073741824) (h1 : 1 ≤ longB (bat l 0)) (h2 : longB (bat l 0) ≤ l.length) (w : World) : Calls Tryz.prog 120 #[strV l] w fun o w' => o = .returned (nextV l) ∧ Below w.heap.size w w' := by
  have hs : (⟨l.toArray⟩ : ByteArray).size = l.length := by simp [ByteArray.size]
  have hvb := vUp_bd (l := l) (head_nn (longB (bat l 0))) head_le
  have hiff := next_iff h1 h2
  obtain ⟨res, hr⟩ : ∃ r, r = nextV l := ⟨_, rfl⟩
  rw [← hr]
  unfold nextV at hr
  have hz : ((l.length : Int) == 0) = false := by simp only [beq_eq_false_iff_ne, ne_eq]; omega
  have hpl : 0 < l.length := by omega
  have hps : 0 < (⟨l.toArray⟩ : ByteArray).size := by omega
  have hidx := bat_idx (l := l) (i := 0) hpl hps
  have hb : (l.getD 0 0).toNat = bat l 0 := rfl
  have HL : Hid (∀ W, Calls Tryz.prog 139 #[.int .u8 (l.getD 0 0).toNat] W fun o w' => o = .returned (.int .i64 (longB (bat l 0))) ∧ w' = W) := Lib.hid (fun W => long_any (l.getD 0 0) W)
  have h4 := long_le (bat l 0)
  have hv0' : vUp (headZ (longB (bat l 0))) l 0 = ((l.getD 0 0).toNat : Int) - headZ (longB (bat l 0)) := rfl
  have hv0 := hv0'
  clear hv0' hb
  generalize l.getD 0 0 = c at *
  have hstep : ∀ k, k + 1 < l.length → vUp (headZ (longB (bat l 0))) l (k + 1) = 64 * vUp (headZ (longB (bat l 0))) l k + ((l.getD (k + 1) 0).toNat : Int) % 64 := fun k _ => rfl
  have hRR : res = if scalB (vUp (headZ (longB (bat l 0))) l (longB (bat l 0) - 1)) = true ∧ Lib.encodeRune (vUp (headZ (longB (bat l 0))) l (longB (bat l 0) - 1)) = l.take (longB (bat l 0)) then .tuple #[.int .i32 (vUp (headZ (longB (bat l 0))) l (longB (bat l 0) - 1)), .int .i64 (longB (bat l 0)), .bool true] else .tuple #[.int .i32 0, .int .i64 0, .bool false] := by
    rw [hr]
    by_cases hd : DoneU l.length (bat l 0) (bat l 1) (bat l 2) (bat l 3)
    · rw [if_pos hd, if_pos (hiff.2 hd)]
    · rw [if_neg hd, if_neg (fun g => hd (hiff.1 g))]
  have HR := Lib.hid hRR
  clear hRR hr hiff
  obtain ⟨hd, hhd⟩ : ∃ z, z = headZ (longB (bat l 0)) := ⟨_, rfl⟩
  rw [← hhd] at hvb hv0 hstep HR
  generalize longB (bat l 0) = n at *
  have HVB := Lib.hid hvb
  have HST := Lib.hid hstep
  have HV0 := Lib.hid hv0
  clear hvb hstep hv0
  have hn4 : n = 1 ∨ n = 2 ∨ n = 3 ∨ n = 4 := by omega
  have hd240 : 0 ≤ hd ∧ hd ≤ 240 := by
    rw [hhd]
    rcases hn4 with rfl | rfl | rfl | rfl <;> decide
  have hwr : IntKind.i64.wrap ((c.toNat : Int) - hd) = vUp hd l 0 := by
    have := HV0.out
    have := (HVB.out 0).1
    rw [HV0.out]
    have hc := c.toNat_lt
    exact IntWalk.i64_in _ (by omega)
  unfold strV
  have hw0 : wrap64 (c.toNat : Int) = (c.toNat : Int) := by
    have hc := c.toNat_lt
    exact IntWalk.wrap64_in _ (by omega)
  have hwr2 : wrap64 ((c.toNat : Int) - hd) = vUp hd l 0 := by rw [← IntWalk.i64_left]; exact hwr
  rcases hn4 with rfl | rfl | rfl | rfl
  · have e : hd = 0 := hhd
    subst e
    clear hhd h1 h4 hd240
    go_enter Tryz.func120, Tryz.ntmps120
    go_wp2_with fail
    refine (HL.out _).mono ?_
    rintro e w1 ⟨rfl, rfl⟩
    clear HL
    go_upto_region 6 with fail
    go_region
    go_wp2_with fail
    go_loopw [6, 7] (fun v i wr => ∃ k : Nat, i = .int .i64 (((k + 1 : Nat) : Int)) ∧ v = .int .i64 (vUp 0 l k) ∧ k + 1 ≤ 1 ∧ Below w1.heap.size w1 wr) (fun _ i _ => 1 - (intOf i).toNat)
    case atStart =>
      refine ⟨0, rfl, ?_, by omega, below_drew1 ((Below.refl _ _).alloc (Nat.le_refl _) _)⟩
      first
        | with_reducible rfl
        | (rw [Int.sub_zero] at hwr2; with_reducible exact congrArg (Value.int .i64) hwr2)
    case round =>
      clear hwr hwr2 hw0
      obtain ⟨k, rfl, rfl, hk, hb⟩ := hrel
      have HB := Lib.hid hb
      clear hb
      by_cases hlt : k + 1 < 1
      · exact absurd hlt (by omega)
      · have hkn : k = 0 := by omega
        subst hkn
        have hb1 := HVB.out 0
        have hsub : ∀ W : World, (Instr.slice 9 (.string ⟨l.toArray⟩) none (some (.int .i64 1)) none).run Tryz.prog W = .ok (.string ⟨(l.take 1).toArray⟩) W := fun W => sub_to l 1 (by omega) W
        have HRR : res = if scalB (vUp 0 l 0) = true ∧ Lib.encodeRune (vUp 0 l 0) = l.take 1 then .tuple #[.int .i32 (vUp 0 l 0), .int .i64 1, .bool true] else .tuple #[.int .i32 0, .int .i64 0, .bool false] := HR.out
        clear HR HVB HST HV0 hk hlt
        generalize vUp 0 l 0 = v at *
        have q32 : IntKind.i32.wrap v = v := IntWalk.i32_in _ (by omega)
        have hpp := fun W => rput_any v (by omega) (by omega) W
        unfold strV at hpp
        cases hsc : scalB v
        case false =>
          rw [if_neg (by rw [hsc]; simp)] at HRR
          rw [hsc] at hpp
          have HP := Lib.hid hpp
          have HR := Lib.hid HRR
          clear hpp HRR hsc hb1
          go_wp2_with fail
          refine (HP.out _).mono ?_
          rintro e w2 ⟨rfl, hb2⟩
          have HB2 := Lib.hid hb2
          clear hb2 HP
          go_wp2_with fail
          go_ret3
          exact ⟨by rw [HR.out]; first | done | rfl, HB.out.trans (HB2.out.mono HB.out.size)⟩
        case true =>
          have hpe : putL v = Lib.encodeRune v := by unfold putL; rw [if_pos hsc]
          rw [hsc, hpe] at hpp
          generalize Lib.encodeRune v = x at *
          have HP := Lib.hid hpp
          by_cases he : x = l.take 1
          · have heq : (x == l.take 1) = true := by simpa using he
            rw [if_pos ⟨hsc, he⟩] at HRR
            have HR := Lib.hid HRR
            clear hpp HRR hsc hb1 hpe he
            go_wp2_with fail
            refine (HP.out _).mono ?_
            rintro e w2 ⟨rfl, hb2⟩
            have HB2 := Lib.hid hb2
            clear hb2 HP
            go_wp2_with fail
            refine bodyPost_ret (v := .tuple #[.int .i32 v, .int .i64 1, .bool true]) (by simp [results, Tryz.results120, go_sem]) rfl ?_
            exact ⟨by rw [HR.out]; first | done | rfl, HB.out.trans (HB2.out.mono HB.out.size)⟩
          · have heq : (x == l.take 1) = false := by simpa using he
            rw [if_neg (fun h => he h.2)] at HRR
            have HR := Lib.hid HRR
            clear hpp HRR hsc hb1 hpe he
            go_wp2_with fail
            refine (HP.out _).mono ?_
            rintro e w2 ⟨rfl, hb2⟩
            have HB2 := Lib.hid hb2
            clear hb2 HP
            go_wp2_with fail
            go_ret3
            exact ⟨by rw [HR.out]; first | done | rfl, HB.out.trans (HB2.out.mono HB.out.size)⟩
  · have e : hd = 192 := hhd
    subst e
    clear hhd h1 h4 hd240
    go_enter Tryz.func120, Tryz.ntmps120
    go_wp2_with fail
    refine (HL.out _).mono ?_
    rintro e w1 ⟨rfl, rfl⟩
    clear HL
    go_upto_region 6 with fail
    go_region
    go_wp2_with fail
    go_loopw [6, 7] (fun v i wr => ∃ k : Nat, i = .int .i64 (((k + 1 : Nat) : Int)) ∧ v = .int .i64 (vUp 192 l k) ∧ k + 1 ≤ 2 ∧ Below w1.heap.size w1 wr) (fun _ i _ => 2 - (intOf i).toNat)
    case atStart =>
      refine ⟨0, rfl, ?_, by omega, below_drew1 ((Below.refl _ _).alloc (Nat.le_refl _) _)⟩
      first
        | with_reducible rfl
        | with_reducible exact congrArg (Value.int .i64) hwr2
    case round =>
      clear hwr hwr2 hw0
      obtain ⟨k, rfl, rfl, hk, hb⟩ := hrel
      have HB := Lib.hid hb
      clear hb
      by_cases hlt : k + 1 < 2
      · have hltz : ((k : Int) + 1) < 2 := by omega
        have hkl : k + 1 < l.length := by omega
        have hks : k + 1 < (⟨l.toArray⟩ : ByteArray).size := by omega
        have hix := bat_idx (l := l) (i := k + 1) hkl hks
        have hst := HST.out k hkl
        have hb1 := HVB.out k
        have hb2 := HVB.out (k + 1)
        have hp : (64 : Int) ^ k ≤ 4096 := by
          have : k = 0 ∨ k = 1 ∨ k = 2 := by omega
          rcases this with rfl | rfl | rfl <;> decide
        have hc2 := (l.getD (k + 1) 0).toNat_lt
        generalize l.getD (k + 1) 0 = d at *
        obtain ⟨v2, hv2⟩ : ∃ z, z = vUp 192 l (k + 1) := ⟨_, rfl⟩
        rw [← hv2] at hst hb2
        have HV2 := Lib.hid hv2
        clear hv2
        generalize vUp 192 l k = v at *
        obtain ⟨y, hy⟩ : ∃ z : Int, z = (d.toNat : Int) % 64 := ⟨_, rfl⟩
        obtain ⟨x, hx⟩ : ∃ z : Int, z = 64 * v := ⟨_, rfl⟩
        have q1 : IntKind.i64.wrap (64 * v) = x := by rw [← hx]; exact IntWalk.i64_in _ (by omega)
        have q2 : (d.toNat : Int).tmod 64 = y := by rw [Int.tmod_eq_emod_of_nonneg (by omega), hy]
        have q3 : (d.toNat : Int) % 64 = y := hy.symm
        have HQ := Lib.hid (show wrap64 (x + (wrap64 (d.toNat : Int)).tmod 64) = v2 by
          rw [IntWalk.wrap64_in (d.toNat : Int) (by omega), q2, show x + y = v2 by omega]
          exact IntWalk.wrap64_in _ (by omega))
        have q6 : IntKind.i64.wrap ((k : Int) + 1 + 1) = (k : Int) + 1 + 1 := IntWalk.i64_in _ (by omega)
        have HK := Lib.hid (show ((((k + 1 : Nat) : Int)) + 1 = (((k + 1 + 1 : Nat) : Int))) ∧ k + 1 + 1 ≤ 2 by omega)
        clear hy hx hst hb1 hb2 hp hc2 hk hlt hkl q2 q3
        go_wp2_with fail
        go_roundw
        case rel => exact ⟨k + 1, by first | (congr 1; push_cast; omega) | go_num, by rw [HQ.out, HV2.out], HK.out.2, HB.out⟩
        case measure => have := HK.out; simp only [intOf]; omega
      · have hkn : k = 1 := by omega
        subst hkn
        have hb1 := HVB.out 1
        have hsub : ∀ W : World, (Instr.slice 9 (.string ⟨l.toArray⟩) none (some (.int .i64 2)) none).run Tryz.prog W = .ok (.string ⟨(l.take 2).toArray⟩) W := fun W => sub_to l 2 (by omega) W
        have HRR : res = if scalB (vUp 192 l 1) = true ∧ Lib.encodeRune (vUp 192 l 1) = l.take 2 then .tuple #[.int .i32 (vUp 192 l 1), .int .i64 2, .bool true] else .tuple #[.int .i32 0, .int .i64 0, .bool false] := HR.out
        clear HR HVB HST HV0 hk hlt
        generalize vUp 192 l 1 = v at *
        have q32 : IntKind.i32.wrap v = v := IntWalk.i32_in _ (by omega)
        have hpp := fun W => rput_any v (by omega) (by omega) W
        unfold strV at hpp
        cases hsc : scalB v
        case false =>
          rw [if_neg (by rw [hsc]; simp)] at HRR
          rw [hsc] at hpp
          have HP := Lib.hid hpp
          have HR := Lib.hid HRR
          clear hpp HRR hsc hb1
          go_wp2_with fail
          refine (HP.out _).mono ?_
          rintro e w2 ⟨rfl, hb2⟩
          have HB2 := Lib.hid hb2
          clear hb2 HP
          go_wp2_with fail
          go_ret3
          exact ⟨by rw [HR.out]; first | done | rfl, HB.out.trans (HB2.out.mono HB.out.size)⟩
        case true =>
          have hpe : putL v = Lib.encodeRune v := by unfold putL; rw [if_pos hsc]
          rw [hsc, hpe] at hpp
          generalize Lib.encodeRune v = x at *
          have HP := Lib.hid hpp
          by_cases he : x = l.take 2
          · have heq : (x == l.take 2) = true := by simpa using he
            rw [if_pos ⟨hsc, he⟩] at HRR
            have HR := Lib.hid HRR
            clear hpp HRR hsc hb1 hpe he
            go_wp2_with fail
            refine (HP.out _).mono ?_
            rintro e w2 ⟨rfl, hb2⟩
            have HB2 := Lib.hid hb2
            clear hb2 HP
            go_wp2_with fail
            refine bodyPost_ret (v := .tuple #[.int .i32 v, .int .i64 2, .bool true]) (by simp [results, Tryz.results120, go_sem]) rfl ?_
            exact ⟨by rw [HR.out]; first | done | rfl, HB.out.trans (HB2.out.mono HB.out.size)⟩
          · have heq : (x == l.take 2) = false := by simpa using he
            rw [if_neg (fun h => he h.2)] at HRR
            have HR := Lib.hid HRR
            clear hpp HRR hsc hb1 hpe he
            go_wp2_with fail
            refine (HP.out _).mono ?_
            rintro e w2 ⟨rfl, hb2⟩
            have HB2 := Lib.hid hb2
            clear hb2 HP
            go_wp2_with fail
            go_ret3
            exact ⟨by rw [HR.out]; first | done | rfl, HB.out.trans (HB2.out.mono HB.out.size)⟩
  · have e : hd = 224 := hhd
    subst e
    clear hhd h1 h4 hd240
    go_enter Tryz.func120, Tryz.ntmps120
    go_wp2_with fail
    refine (HL.out _).mono ?_
    rintro e w1 ⟨rfl, rfl⟩
    clear HL
    go_upto_region 6 with fail
    go_region
    go_wp2_with fail
    go_loopw [6, 7] (fun v i wr => ∃ k : Nat, i = .int .i64 (((k + 1 : Nat) : Int)) ∧ v = .int .i64 (vUp 224 l k) ∧ k + 1 ≤ 3 ∧ Below w1.heap.size w1 wr) (fun _ i _ => 3 - (intOf i).toNat)
    case atStart =>
      refine ⟨0, rfl, ?_, by omega, below_drew1 ((Below.refl _ _).alloc (Nat.le_refl _) _)⟩
      first
        | with_reducible rfl
        | with_reducible exact congrArg (Value.int .i64) hwr2
    case round =>
      clear hwr hwr2 hw0
      obtain ⟨k, rfl, rfl, hk, hb⟩ := hrel
      have HB := Lib.hid hb
      clear hb
      by_cases hlt : k + 1 < 3
      · have hltz : ((k : Int) + 1) < 3 := by omega
        have hkl : k + 1 < l.length := by omega
        have hks : k + 1 < (⟨l.toArray⟩ : ByteArray).size := by omega
        have hix := bat_idx (l := l) (i := k + 1) hkl hks
        have hst := HST.out k hkl
        have hb1 := HVB.out k
        have hb2 := HVB.out (k + 1)
        have hp : (64 : Int) ^ k ≤ 4096 := by
          have : k = 0 ∨ k = 1 ∨ k = 2 := by omega
          rcases this with rfl | rfl | rfl <;> decide
        have hc2 := (l.getD (k + 1) 0).toNat_lt
        generalize l.getD (k + 1) 0 = d at *
        obtain ⟨v2, hv2⟩ : ∃ z, z = vUp 224 l (k + 1) := ⟨_, rfl⟩
        rw [← hv2] at hst hb2
        have HV2 := Lib.hid hv2
        clear hv2
        generalize vUp 224 l k = v at *
        obtain ⟨y, hy⟩ : ∃ z : Int, z = (d.toNat : Int) % 64 := ⟨_, rfl⟩
        obtain ⟨x, hx⟩ : ∃ z : Int, z = 64 * v := ⟨_, rfl⟩
        have q1 : IntKind.i64.wrap (64 * v) = x := by rw [← hx]; exact IntWalk.i64_in _ (by omega)
        have q2 : (d.toNat : Int).tmod 64 = y := by rw [Int.tmod_eq_emod_of_nonneg (by omega), hy]
        have q3 : (d.toNat : Int) % 64 = y := hy.symm
        have HQ := Lib.hid (show wrap64 (x + (wrap64 (d.toNat : Int)).tmod 64) = v2 by
          rw [IntWalk.wrap64_in (d.toNat : Int) (by omega), q2, show x + y = v2 by omega]
          exact IntWalk.wrap64_in _ (by omega))
        have q6 : IntKind.i64.wrap ((k : Int) + 1 + 1) = (k : Int) + 1 + 1 := IntWalk.i64_in _ (by omega)
        have HK := Lib.hid (show ((((k + 1 : Nat) : Int)) + 1 = (((k + 1 + 1 : Nat) : Int))) ∧ k + 1 + 1 ≤ 3 by omega)
        clear hy hx hst hb1 hb2 hp hc2 hk hlt hkl q2 q3
        go_wp2_with fail
        go_roundw
        case rel => exact ⟨k + 1, by first | (congr 1; push_cast; omega) | go_num, by rw [HQ.out, HV2.out], HK.out.2, HB.out⟩
        case measure => have := HK.out; simp only [intOf]; omega
      · have hkn : k = 2 := by omega
        subst hkn
        have hb1 := HVB.out 2
        have hsub : ∀ W : World, (Instr.slice 9 (.string ⟨l.toArray⟩) none (some (.int .i64 3)) none).run Tryz.prog W = .ok (.string ⟨(l.take 3).toArray⟩) W := fun W => sub_to l 3 (by omega) W
        have HRR : res = if scalB (vUp 224 l 2) = true ∧ Lib.encodeRune (vUp 224 l 2) = l.take 3 then .tuple #[.int .i32 (vUp 224 l 2), .int .i64 3, .bool true] else .tuple #[.int .i32 0, .int .i64 0, .bool false] := HR.out
        clear HR HVB HST HV0 hk hlt
        generalize vUp 224 l 2 = v at *
        have q32 : IntKind.i32.wrap v = v := IntWalk.i32_in _ (by omega)
        have hpp := fun W => rput_any v (by omega) (by omega) W
        unfold strV at hpp
        cases hsc : scalB v
        case false =>
          rw [if_neg (by rw [hsc]; simp)] at HRR
          rw [hsc] at hpp
          have HP := Lib.hid hpp
          have HR := Lib.hid HRR
          clear hpp HRR hsc hb1
          go_wp2_with fail
          refine (HP.out _).mono ?_
          rintro e w2 ⟨rfl, hb2⟩
          have HB2 := Lib.hid hb2
          clear hb2 HP
          go_wp2_with fail
          go_ret3
          exact ⟨by rw [HR.out]; first | done | rfl, HB.out.trans (HB2.out.mono HB.out.size)⟩
        case true =>
          have hpe : putL v = Lib.encodeRune v := by unfold putL; rw [if_pos hsc]
          rw [hsc, hpe] at hpp
          generalize Lib.encodeRune v = x at *
          have HP := Lib.hid hpp
          by_cases he : x = l.take 3
          · have heq : (x == l.take 3) = true := by simpa using he
            rw [if_pos ⟨hsc, he⟩] at HRR
            have HR := Lib.hid HRR
            clear hpp HRR hsc hb1 hpe he
            go_wp2_with fail
            refine (HP.out _).mono ?_
            rintro e w2 ⟨rfl, hb2⟩
            have HB2 := Lib.hid hb2
            clear hb2 HP
            go_wp2_with fail
            refine bodyPost_ret (v := .tuple #[.int .i32 v, .int .i64 3, .bool true]) (by simp [results, Tryz.results120, go_sem]) rfl ?_
            exact ⟨by rw [HR.out]; first | done | rfl, HB.out.trans (HB2.out.mono HB.out.size)⟩
          · have heq : (x == l.take 3) = false := by simpa using he
            rw [if_neg (fun h => he h.2)] at HRR
            have HR := Lib.hid HRR
            clear hpp HRR hsc hb1 hpe he
            go_wp2_with fail
            refine (HP.out _).mono ?_
            rintro e w2 ⟨rfl, hb2⟩
            have HB2 := Lib.hid hb2
            clear hb2 HP
            go_wp2_with fail
            go_ret3
            exact ⟨by rw [HR.out]; first | done | rfl, HB.out.trans (HB2.out.mono HB.out.size)⟩
  · have e : hd = 240 := hhd
    subst e
    clear hhd h1 h4 hd240
    go_enter Tryz.func120, Tryz.ntmps120
    go_wp2_with fail
    refine (HL.out _).mono ?_
    rintro e w1 ⟨rfl, rfl⟩
    clear HL
    go_upto_region 6 with fail
    go_region
    go_wp2_with fail
    go_loopw [6, 7] (fun v i wr => ∃ k : Nat, i = .int .i64 (((k + 1 : Nat) : Int)) ∧ v = .int .i64 (vUp 240 l k) ∧ k + 1 ≤ 4 ∧ Below w1.heap.size w1 wr) (fun _ i _ => 4 - (intOf i).toNat)
    case atStart =>
      refine ⟨0, rfl, ?_, by omega, below_drew1 ((Below.refl _ _).alloc (Nat.le_refl _) _)⟩
      first
        | with_reducible rfl
        | with_reducible exact congrArg (Value.int .i64) hwr2
    case round =>
      clear hwr hwr2 hw0
      obtain ⟨k, rfl, rfl, hk, hb⟩ := hrel
      have HB := Lib.hid hb
      clear hb
      by_cases hlt : k + 1 < 4
      · have hltz : ((k : Int) + 1) < 4 := by omega
        have hkl : k + 1 < l.length := by omega
        have hks : k + 1 < (⟨l.toArray⟩ : ByteArray).size := by omega
        have hix := bat_idx (l := l) (i := k + 1) hkl hks
        have hst := HST.out k hkl
        have hb1 := HVB.out k
        have hb2 := HVB.out (k + 1)
        have hp : (64 : Int) ^ k ≤ 4096 := by
          have : k = 0 ∨ k = 1 ∨ k = 2 := by omega
          rcases this with rfl | rfl | rfl <;> decide
        have hc2 := (l.getD (k + 1) 0).toNat_lt
        generalize l.getD (k + 1) 0 = d at *
        obtain ⟨v2, hv2⟩ : ∃ z, z = vUp 240 l (k + 1) := ⟨_, rfl⟩
        rw [← hv2] at hst hb2
        have HV2 := Lib.hid hv2
        clear hv2
        generalize vUp 240 l k = v at *
        obtain ⟨y, hy⟩ : ∃ z : Int, z = (d.toNat : Int) % 64 := ⟨_, rfl⟩
        obtain ⟨x, hx⟩ : ∃ z : Int, z = 64 * v := ⟨_, rfl⟩
        have q1 : IntKind.i64.wrap (64 * v) = x := by rw [← hx]; exact IntWalk.i64_in _ (by omega)
        have q2 : (d.toNat : Int).tmod 64 = y := by rw [Int.tmod_eq_emod_of_nonneg (by omega), hy]
        have q3 : (d.toNat : Int) % 64 = y := hy.symm
        have HQ := Lib.hid (show wrap64 (x + (wrap64 (d.toNat : Int)).tmod 64) = v2 by
          rw [IntWalk.wrap64_in (d.toNat : Int) (by omega), q2, show x + y = v2 by omega]
          exact IntWalk.wrap64_in _ (by omega))
        have q6 : IntKind.i64.wrap ((k : Int) + 1 + 1) = (k : Int) + 1 + 1 := IntWalk.i64_in _ (by omega)
        have HK := Lib.hid (show ((((k + 1 : Nat) : Int)) + 1 = (((k + 1 + 1 : Nat) : Int))) ∧ k + 1 + 1 ≤ 4 by omega)
        clear hy hx hst hb1 hb2 hp hc2 hk hlt hkl q2 q3
        go_wp2_with fail
        go_roundw
        case rel => exact ⟨k + 1, by first | (congr 1; push_cast; omega) | go_num, by rw [HQ.out, HV2.out], HK.out.2, HB.out⟩
        case measure => have := HK.out; simp only [intOf]; omega
      · have hkn : k = 3 := by omega
        subst hkn
        have hb1 := HVB.out 3
        have hsub : ∀ W : World, (Instr.slice 9 (.string ⟨l.toArray⟩) none (some (.int .i64 4)) none).run Tryz.prog W = .ok (.string ⟨(l.take 4).toArray⟩) W := fun W => sub_to l 4 (by omega) W
        have HRR : res = if scalB (vUp 240 l 3) = true ∧ Lib.encodeRune (vUp 240 l 3) = l.take 4 then .tuple #[.int .i32 (vUp 240 l 3), .int .i64 4, .bool true] else .tuple #[.int .i32 0, .int .i64 0, .bool false] := HR.out
        clear HR HVB HST HV0 hk hlt
        generalize vUp 240 l 3 = v at *
        have q32 : IntKind.i32.wrap v = v := IntWalk.i32_in _ (by omega)
        have hpp := fun W => rput_any v (by omega) (by omega) W
        unfold strV at hpp
        cases hsc : scalB v
        case false =>
          rw [if_neg (by rw [hsc]; simp)] at HRR
          rw [hsc] at hpp
          have HP := Lib.hid hpp
          have HR := Lib.hid HRR
          clear hpp HRR hsc hb1
          go_wp2_with fail
          refine (HP.out _).mono ?_
          rintro e w2 ⟨rfl, hb2⟩
          have HB2 := Lib.hid hb2
          clear hb2 HP
          go_wp2_with fail
          go_ret3
          exact ⟨by rw [HR.out]; first | done | rfl, HB.out.trans (HB2.out.mono HB.out.size)⟩
        case true =>
          have hpe : putL v = Lib.encodeRune v := by unfold putL; rw [if_pos hsc]
          rw [hsc, hpe] at hpp
          generalize Lib.encodeRune v = x at *
          have HP := Lib.hid hpp
          by_cases he : x = l.take 4
          · have heq : (x == l.take 4) = true := by simpa using he
            rw [if_pos ⟨hsc, he⟩] at HRR
            have HR := Lib.hid HRR
            clear hpp HRR hsc hb1 hpe he
            go_wp2_with fail
            refine (HP.out _).mono ?_
            rintro e w2 ⟨rfl, hb2⟩
            have HB2 := Lib.hid hb2
            clear hb2 HP
            go_wp2_with fail
            refine bodyPost_ret (v := .tuple #[.int .i32 v, .int .i64 4, .bool true]) (by simp [results, Tryz.results120, go_sem]) rfl ?_
            exact ⟨by rw [HR.out]; first | done | rfl, HB.out.trans (HB2.out.mono HB.out.size)⟩
          · have heq : (x == l.take 4) = false := by simpa using he
            rw [if_neg (fun h => he h.2)] at HRR
            have HR := Lib.hid HRR
            clear hpp HRR hsc hb1 hpe he
            go_wp2_with fail
            refine (HP.out _).mono ?_
            rintro e w2 ⟨rfl, hb2⟩
            have HB2 := Lib.hid hb2
            clear hb2 HP
            go_wp2_with fail
            go_ret3
            exact ⟨by rw [HR.out]; first | done | rfl, HB.out.trans (HB2.out.mono HB.out.size)⟩
theorem rnext4_any (l : List UInt8) (hl : l.length ≤ 1073741824) (w : World) : Calls Tryz.prog 120 #[strV l] w fun o w' => o = .returned (nextV l) ∧ Below w.heap.size w w' := by
  by_cases h : 1 ≤ longB (bat l 0) ∧ longB (bat l 0) ≤ l.length
  · exact next4_ok l hl h.1 h.2 w
  · exact next4_bad l hl h w
end
section
open Go.RowKit Go.Shelf
/-- What four hands back. -/
def fourV (at_ : Nat) : Except Nat Int → Value
  | .error j => .tuple #[.int .i64 0, .int .i64 ((at_ + j : Nat) : Int), .bool false]
  | .ok v => .tuple #[.int .i64 v, .int .i64 0, .bool true]
theorem rF_step {sec : Bool} {r : Nat} {v : Int} {l : List UInt8} {q j : Nat} (hq : q < l.length) : rF sec (r + 1) v (l.drop q) j = if hexV (l.getD q 0) < 0 then .error j else if refB sec j (16 * v + hexV (l.getD q 0)) then .error j else rF sec r (16 * v + hexV (l.getD q 0)) (l.drop (q + 1)) (j + 1) := by
  have e : l.drop q = l.getD q 0 :: l.drop (q + 1) := by
    rw [List.drop_eq_getElem_cons hq, List.getD_eq_getElem?_getD, List.getElem?_eq_getElem hq]; rfl
  rw [e, rF]
  rfl
set_option maxHeartbeats 16000000 in
set_option maxRecDepth 100000 in
theorem four_t (l : List UInt8) (at_ : Nat) (hl : l.length ≤ 1073741824) (ha : at_ ≤ 2147483648) (w : World) : Calls Tryz.prog 137 #[strV l, .int .i64 at_, .bool true] w fun o w' => o = .returned (fourV at_ (rF true 4 0 (l.drop at_) 0)) ∧ w' = w := by
  have hs : (⟨l.toArray⟩ : ByteArray).size = l.length := by simp [ByteArray.size]
  obtain ⟨res, hres⟩ : ∃ r, r = fourV at_ (rF true 4 0 (l.drop at_) 0) := ⟨_, rfl⟩
  rw [← hres]
  have HR := Lib.hid hres.symm
  clear hres
  obtain ⟨a4, ha4⟩ : ∃ z : Int, z = at_ + 4 := ⟨_, rfl⟩
  have qa : IntKind.i64.wrap ((at_ : Int) + 4) = a4 := by rw [ha4]; exact IntWalk.i64_in _ (by omega)
  unfold strV
  go_enter Tryz.func137, Tryz.ntmps137
  go_wp2_with fail
  go_loopw [9, 10] (fun v i wr => ∃ (j : Nat) (z : Int), i = .int .i64 ((at_ + j : Nat) : Int) ∧ v = .int .i64 z ∧ j ≤ 4 ∧ wr = w ∧ Hid (0 ≤ z ∧ z < 16 ^ j) ∧ Hid (fourV at_ (rF true (4 - j) z (l.drop (at_ + j)) j) = res)) (fun _ i _ => at_ + 4 - (intOf i).toNat)
  case atStart => exact ⟨0, 0, rfl, rfl, by omega, rfl, Lib.hid (by decide), HR⟩
  case round =>
    clear HR
    obtain ⟨j, v, rfl, rfl, hj, rfl, hv, hq⟩ := hrel
    obtain ⟨iz, hiz⟩ : ∃ z : Nat, z = at_ + j := ⟨_, rfl⟩
    rw [← hiz] at hq ⊢
    by_cases hj4 : j = 4
    · subst hj4
      have hlt : ¬ (iz : Int) < a4 := by omega
      have HD := Lib.hid (show res = .tuple #[.int .i64 v, .int .i64 0, .bool true] by rw [← hq.out]; rfl)
      clear hq hv hiz hj
      go_wp2_with fail
      go_ret3
      exact ⟨by rw [HD.out]; first | done | rfl, rfl⟩
    have hlt : (iz : Int) < a4 := by omega
    by_cases hlen : l.length ≤ iz
    · have hge : (l.length : Int) ≤ (iz : Int) := by omega
      have HD := Lib.hid (show res = .tuple #[.int .i64 0, .int .i64 iz, .bool false] by
        rw [← hq.out, List.drop_of_length_le hlen]
        obtain ⟨r, hr⟩ : ∃ r, 4 - j = r + 1 := ⟨3 - j, by omega⟩
        rw [hr, rF, fourV, hiz])
      clear hq hv hiz hj
      go_wp2_with fail
      go_ret3
      exact ⟨by rw [HD.out]; first | done | rfl, rfl⟩
    have hge : ¬ (l.length : Int) ≤ (iz : Int) := by omega
    have hlt2 : iz < l.length := by omega
    have hidx : (⟨l.toArray⟩ : ByteArray)[iz]'(by omega) = l.getD iz 0 := by
      show l.toArray[iz] = _
      simp [List.getD_eq_getElem?_getD, hlt2]
    have hstep := rF_step (sec := true) (r := 3 - j) (v := v) (j := j) hlt2
    rw [show 3 - j + 1 = 4 - j by omega] at hstep
    have HQ := Lib.hid (hstep ▸ hq.out)
    have HDG := Lib.hid (fun W => digit_any (l.getD iz 0) W)
    have hle := hexV_le (l.getD iz 0)
    clear hstep hq
    generalize l.getD iz 0 = c at *
    generalize hexV c = d at *
    by_cases hd : d < 0
    · have HD := Lib.hid (show res = .tuple #[.int .i64 0, .int .i64 iz, .bool false] by rw [← HQ.out, if_pos hd, fourV, hiz])
      clear HQ hiz hj hv
      go_wp2_with fail
      refine (HDG.out _).mono ?_
      rintro e w1 ⟨rfl, rfl⟩
      clear HDG
      go_wp2_with fail
      go_ret3
      exact ⟨by rw [HD.out]; first | done | rfl, rfl⟩
    have HQ2 := HQ.out
    rw [if_neg hd] at HQ2
    have hvo := hv.out
    have hpow : (16 : Int) ^ (j + 1) = 16 * 16 ^ j := by rw [Int.pow_succ, Int.mul_comm]
    have hp3 : (16 : Int) ^ j ≤ 4096 := by
      have : j = 0 ∨ j = 1 ∨ j = 2 ∨ j = 3 := by omega
      rcases this with rfl | rfl | rfl | rfl <;> decide
    obtain ⟨v1, hv1⟩ : ∃ z : Int, z = 16 * v := ⟨_, rfl⟩
    obtain ⟨v2, hv2⟩ : ∃ z : Int, z = v1 + d := ⟨_, rfl⟩
    have HVB := Lib.hid (show 0 ≤ v2 ∧ v2 < 16 ^ (j + 1) by rw [hpow]; generalize (16 : Int) ^ j = p at *; omega)
    have q1 : IntKind.i64.wrap (16 * v) = v1 := by rw [← hv1]; exact IntWalk.i64_in _ (by omega)
    have q2 : IntKind.i64.wrap (v1 + d) = v2 := by rw [← hv2]; exact IntWalk.i64_in _ (by omega)
    obtain ⟨az, haz⟩ : ∃ z : Nat, z = at_ + 1 := ⟨_, rfl⟩
    have q3 : IntKind.i64.wrap ((at_ : Int) + 1) = (az : Int) := by rw [haz]; exact IntWalk.i64_in _ (by omega)
    have q4 : IntKind.i64.wrap ((iz : Int) + 1) = iz + 1 := IntWalk.i64_in _ (by omega)
    rw [show 16 * v + d = v2 by omega, show iz + 1 = at_ + (j + 1) by omega] at HQ2
    have HQ3 := Lib.hid HQ2
    clear HQ HQ2 ha4 hvo hv hv1 hv2 hle hpow hp3
    by_cases hj0 : j = 0
    · by_cases hc : v2 = 13
      · have e0 : ((iz : Int) == (at_ : Int)) = true := by simp only [beq_iff_eq]; omega
        have e1 : ((iz : Int) == (az : Int)) = false := by simp only [beq_eq_false_iff_ne, ne_eq]; omega
        have e2 : (v2 == 13) = true := by simpa using hc
        have e2n : (v2 != 13) = false := by simp [hc]
        have HD := Lib.hid (show fourV at_ (rF true (3 - j) v2 (l.drop (at_ + (j + 1))) (j + 1)) = res by rw [← HQ3.out, if_neg (by unfold refB; first | (simp [hj0]; done) | (simp [hj0]; omega))])
        have HIZ := Lib.hid hiz
        have HMS := Lib.hid (show at_ + 4 - (iz + 1) < at_ + 4 - iz ∧ j + 1 ≤ 4 by omega)
        clear HQ3 haz hiz hj hj4 hj0
        clear hc
        go_wp2_with fail
        refine (HDG.out _).mono ?_
        rintro e w1 ⟨rfl, rfl⟩
        clear HDG
        go_wp2_with fail
        go_roundw
        case rel => have h9 := HIZ.out; have h8 := HMS.out; exact ⟨j + 1, v2, by first | go_num | (congr 1; push_cast; omega), by first | rfl | trivial, by omega, by first | rfl | trivial, HVB, by rw [show 4 - (j + 1) = 3 - j by omega]; exact HD⟩
        case measure => have h8 := HMS.out; simp only [intOf]; omega
      · have e0 : ((iz : Int) == (at_ : Int)) = true := by simp only [beq_iff_eq]; omega
        have e1 : ((iz : Int) == (az : Int)) = false := by simp only [beq_eq_false_iff_ne, ne_eq]; omega
        have e2 : (v2 == 13) = false := by simpa using hc
        have e2n : (v2 != 13) = true := by simpa using hc
        have HD := Lib.hid (show res = .tuple #[.int .i64 0, .int .i64 iz, .bool false] by rw [← HQ3.out, if_pos (by unfold refB; first | (simp [hj0]; done) | (simp [hj0]; omega))]; unfold fourV; dsimp only; rw [hiz])
        clear HQ3 hiz haz hj hj4 HVB hj0
        clear hc
        go_wp2_with fail
        refine (HDG.out _).mono ?_
        rintro e w1 ⟨rfl, rfl⟩
        clear HDG
        go_wp2_with fail
        go_ret3
        exact ⟨by rw [HD.out]; first | done | rfl, rfl⟩
    by_cases hj1 : j = 1
    · by_cases hc : v2 < 220
      · have e0 : ((iz : Int) == (at_ : Int)) = false := by simp only [beq_eq_false_iff_ne, ne_eq]; omega
        have e1 : ((iz : Int) == (az : Int)) = true := by simp only [beq_iff_eq]; omega
        have e3 : decide (220 ≤ v2) = false := decide_eq_false (by omega)
        have HD := Lib.hid (show res = .tuple #[.int .i64 0, .int .i64 iz, .bool false] by rw [← HQ3.out, if_pos (by unfold refB; first | (simp [hj1]; done) | (simp [hj1]; omega))]; unfold fourV; dsimp only; rw [hiz])
        clear HQ3 hiz haz hj hj4 HVB hj0 hj1
        clear hc
        go_wp2_with fail
        refine (HDG.out _).mono ?_
        rintro e w1 ⟨rfl, rfl⟩
        clear HDG
        go_wp2_with fail
        go_ret3
        exact ⟨by rw [HD.out]; first | done | rfl, rfl⟩
      by_cases hc2 : v2 ≤ 223
      · have e0 : ((iz : Int) == (at_ : Int)) = false := by simp only [beq_eq_false_iff_ne, ne_eq]; omega
        have e1 : ((iz : Int) == (az : Int)) = true := by simp only [beq_iff_eq]; omega
        have e3 : decide (220 ≤ v2) = true := decide_eq_true (by omega)
        have e4 : decide (v2 ≤ 223) = true := decide_eq_true (by omega)
        have HD := Lib.hid (show fourV at_ (rF true (3 - j) v2 (l.drop (at_ + (j + 1))) (j + 1)) = res by rw [← HQ3.out, if_neg (by unfold refB; first | (simp [hj1]; done) | (simp [hj1]; omega))])
        have HIZ := Lib.hid hiz
        have HMS := Lib.hid (show at_ + 4 - (iz + 1) < at_ + 4 - iz ∧ j + 1 ≤ 4 by omega)
        clear HQ3 haz hiz hj hj4 hj0 hj1
        clear hc hc2
        go_wp2_with fail
        refine (HDG.out _).mono ?_
        rintro e w1 ⟨rfl, rfl⟩
        clear HDG
        go_wp2_with fail
        go_roundw
        case rel => have h9 := HIZ.out; have h8 := HMS.out; exact ⟨j + 1, v2, by first | go_num | (congr 1; push_cast; omega), by first | rfl | trivial, by omega, by first | rfl | trivial, HVB, by rw [show 4 - (j + 1) = 3 - j by omega]; exact HD⟩
        case measure => have h8 := HMS.out; simp only [intOf]; omega
      have e0 : ((iz : Int) == (at_ : Int)) = false := by simp only [beq_eq_false_iff_ne, ne_eq]; omega
      have e1 : ((iz : Int) == (az : Int)) = true := by simp only [beq_iff_eq]; omega
      have e3 : decide (220 ≤ v2) = true := decide_eq_true (by omega)
      have e4 : decide (v2 ≤ 223) = false := decide_eq_false (by omega)
      have HD := Lib.hid (show res = .tuple #[.int .i64 0, .int .i64 iz, .bool false] by rw [← HQ3.out, if_pos (by unfold refB; first | (simp [hj1]; done) | (simp [hj1]; omega))]; unfold fourV; dsimp only; rw [hiz])
      clear HQ3 hiz haz hj hj4 HVB hj0 hj1
      clear hc hc2
      go_wp2_with fail
      refine (HDG.out _).mono ?_
      rintro e w1 ⟨rfl, rfl⟩
      clear HDG
      go_wp2_with fail
      go_ret3
      exact ⟨by rw [HD.out]; first | done | rfl, rfl⟩
    have e0 : ((iz : Int) == (at_ : Int)) = false := by simp only [beq_eq_false_iff_ne, ne_eq]; omega
    have e1 : ((iz : Int) == (az : Int)) = false := by simp only [beq_eq_false_iff_ne, ne_eq]; omega
    have HD := Lib.hid (show fourV at_ (rF true (3 - j) v2 (l.drop (at_ + (j + 1))) (j + 1)) = res by rw [← HQ3.out, if_neg (by unfold refB; first | (simp [hj0, hj1]; done) | (simp [hj0, hj1]; omega))])
    have HIZ := Lib.hid hiz
    have HMS := Lib.hid (show at_ + 4 - (iz + 1) < at_ + 4 - iz ∧ j + 1 ≤ 4 by omega)
    clear HQ3 haz hiz hj hj4 hj0 hj1
    go_wp2_with fail
    refine (HDG.out _).mono ?_
    rintro e w1 ⟨rfl, rfl⟩
    clear HDG
    go_wp2_with fail
    go_roundw
    case rel => have h9 := HIZ.out; have h8 := HMS.out; exact ⟨j + 1, v2, by first | go_num | (congr 1; push_cast; omega), by first | rfl | trivial, by omega, by first | rfl | trivial, HVB, by rw [show 4 - (j + 1) = 3 - j by omega]; exact HD⟩
    case measure => have h8 := HMS.out; simp only [intOf]; omega
set_option maxHeartbeats 16000000 in
set_option maxRecDepth 100000 in
theorem four_f (l : List UInt8) (at_ : Nat) (hl : l.length ≤ 1073741824) (ha : at_ ≤ 2147483648) (w : World) : Calls Tryz.prog 137 #[strV l, .int .i64 at_, .bool false] w fun o w' => o = .returned (fourV at_ (rF false 4 0 (l.drop at_) 0)) ∧ w' = w := by
  have hs : (⟨l.toArray⟩ : ByteArray).size = l.length := by simp [ByteArray.size]
  obtain ⟨res, hres⟩ : ∃ r, r = fourV at_ (rF false 4 0 (l.drop at_) 0) := ⟨_, rfl⟩
  rw [← hres]
  have HR := Lib.hid hres.symm
  clear hres
  obtain ⟨a4, ha4⟩ : ∃ z : Int, z = at_ + 4 := ⟨_, rfl⟩
  have qa : IntKind.i64.wrap ((at_ : Int) + 4) = a4 := by rw [ha4]; exact IntWalk.i64_in _ (by omega)
  unfold strV
  go_enter Tryz.func137, Tryz.ntmps137
  go_wp2_with fail
  go_loopw [9, 10] (fun v i wr => ∃ (j : Nat) (z : Int), i = .int .i64 ((at_ + j : Nat) : Int) ∧ v = .int .i64 z ∧ j ≤ 4 ∧ wr = w ∧ Hid (0 ≤ z ∧ z < 16 ^ j) ∧ Hid (fourV at_ (rF false (4 - j) z (l.drop (at_ + j)) j) = res)) (fun _ i _ => at_ + 4 - (intOf i).toNat)
  case atStart => exact ⟨0, 0, rfl, rfl, by omega, rfl, Lib.hid (by decide), HR⟩
  case round =>
    clear HR
    obtain ⟨j, v, rfl, rfl, hj, rfl, hv, hq⟩ := hrel
    obtain ⟨iz, hiz⟩ : ∃ z : Nat, z = at_ + j := ⟨_, rfl⟩
    rw [← hiz] at hq ⊢
    by_cases hj4 : j = 4
    · subst hj4
      have hlt : ¬ (iz : Int) < a4 := by omega
      have HD := Lib.hid (show res = .tuple #[.int .i64 v, .int .i64 0, .bool true] by rw [← hq.out]; rfl)
      clear hq hv hiz hj
      go_wp2_with fail
      go_ret3
      exact ⟨by rw [HD.out]; first | done | rfl, rfl⟩
    have hlt : (iz : Int) < a4 := by omega
    by_cases hlen : l.length ≤ iz
    · have hge : (l.length : Int) ≤ (iz : Int) := by omega
      have HD := Lib.hid (show res = .tuple #[.int .i64 0, .int .i64 iz, .bool false] by
        rw [← hq.out, List.drop_of_length_le hlen]
        obtain ⟨r, hr⟩ : ∃ r, 4 - j = r + 1 := ⟨3 - j, by omega⟩
        rw [hr, rF, fourV, hiz])
      clear hq hv hiz hj
      go_wp2_with fail
      go_ret3
      exact ⟨by rw [HD.out]; first | done | rfl, rfl⟩
    have hge : ¬ (l.length : Int) ≤ (iz : Int) := by omega
    have hlt2 : iz < l.length := by omega
    have hidx : (⟨l.toArray⟩ : ByteArray)[iz]'(by omega) = l.getD iz 0 := by
      show l.toArray[iz] = _
      simp [List.getD_eq_getElem?_getD, hlt2]
    have hstep := rF_step (sec := false) (r := 3 - j) (v := v) (j := j) hlt2
    rw [show 3 - j + 1 = 4 - j by omega] at hstep
    have HQ := Lib.hid (hstep ▸ hq.out)
    have HDG := Lib.hid (fun W => digit_any (l.getD iz 0) W)
    have hle := hexV_le (l.getD iz 0)
    clear hstep hq
    generalize l.getD iz 0 = c at *
    generalize hexV c = d at *
    by_cases hd : d < 0
    · have HD := Lib.hid (show res = .tuple #[.int .i64 0, .int .i64 iz, .bool false] by rw [← HQ.out, if_pos hd, fourV, hiz])
      clear HQ hiz hj hv
      go_wp2_with fail
      refine (HDG.out _).mono ?_
      rintro e w1 ⟨rfl, rfl⟩
      clear HDG
      go_wp2_with fail
      go_ret3
      exact ⟨by rw [HD.out]; first | done | rfl, rfl⟩
    have HQ2 := HQ.out
    rw [if_neg hd] at HQ2
    have hvo := hv.out
    have hpow : (16 : Int) ^ (j + 1) = 16 * 16 ^ j := by rw [Int.pow_succ, Int.mul_comm]
    have hp3 : (16 : Int) ^ j ≤ 4096 := by
      have : j = 0 ∨ j = 1 ∨ j = 2 ∨ j = 3 := by omega
      rcases this with rfl | rfl | rfl | rfl <;> decide
    obtain ⟨v1, hv1⟩ : ∃ z : Int, z = 16 * v := ⟨_, rfl⟩
    obtain ⟨v2, hv2⟩ : ∃ z : Int, z = v1 + d := ⟨_, rfl⟩
    have HVB := Lib.hid (show 0 ≤ v2 ∧ v2 < 16 ^ (j + 1) by rw [hpow]; generalize (16 : Int) ^ j = p at *; omega)
    have q1 : IntKind.i64.wrap (16 * v) = v1 := by rw [← hv1]; exact IntWalk.i64_in _ (by omega)
    have q2 : IntKind.i64.wrap (v1 + d) = v2 := by rw [← hv2]; exact IntWalk.i64_in _ (by omega)
    obtain ⟨az, haz⟩ : ∃ z : Nat, z = at_ + 1 := ⟨_, rfl⟩
    have q3 : IntKind.i64.wrap ((at_ : Int) + 1) = (az : Int) := by rw [haz]; exact IntWalk.i64_in _ (by omega)
    have q4 : IntKind.i64.wrap ((iz : Int) + 1) = iz + 1 := IntWalk.i64_in _ (by omega)
    rw [show 16 * v + d = v2 by omega, show iz + 1 = at_ + (j + 1) by omega] at HQ2
    have HQ3 := Lib.hid HQ2
    clear HQ HQ2 ha4 hvo hv hv1 hv2 hle hpow hp3
    by_cases hj0 : j = 0
    · have e0 : ((iz : Int) == (at_ : Int)) = true := by simp only [beq_iff_eq]; omega
      have e1 : ((iz : Int) == (az : Int)) = false := by simp only [beq_eq_false_iff_ne, ne_eq]; omega
      have HD := Lib.hid (show fourV at_ (rF false (3 - j) v2 (l.drop (at_ + (j + 1))) (j + 1)) = res by rw [← HQ3.out, if_neg (by unfold refB; first | (simp [hj0]; done) | (simp [hj0]; omega))])
      have HIZ := Lib.hid hiz
      have HMS := Lib.hid (show at_ + 4 - (iz + 1) < at_ + 4 - iz ∧ j + 1 ≤ 4 by omega)
      clear HQ3 haz hiz hj hj4 hj0
      go_wp2_with fail
      refine (HDG.out _).mono ?_
      rintro e w1 ⟨rfl, rfl⟩
      clear HDG
      go_wp2_with fail
      go_roundw
      case rel => have h9 := HIZ.out; have h8 := HMS.out; exact ⟨j + 1, v2, by first | go_num | (congr 1; push_cast; omega), by first | rfl | trivial, by omega, by first | rfl | trivial, HVB, by rw [show 4 - (j + 1) = 3 - j by omega]; exact HD⟩
      case measure => have h8 := HMS.out; simp only [intOf]; omega
    by_cases hj1 : j = 1
    · by_cases hc : v2 < 220
      · have e0 : ((iz : Int) == (at_ : Int)) = false := by simp only [beq_eq_false_iff_ne, ne_eq]; omega
        have e1 : ((iz : Int) == (az : Int)) = true := by simp only [beq_iff_eq]; omega
        have e3 : decide (220 ≤ v2) = false := decide_eq_false (by omega)
        have HD := Lib.hid (show fourV at_ (rF false (3 - j) v2 (l.drop (at_ + (j + 1))) (j + 1)) = res by rw [← HQ3.out, if_neg (by unfold refB; first | (simp [hj1]; done) | (simp [hj1]; omega))])
        have HIZ := Lib.hid hiz
        have HMS := Lib.hid (show at_ + 4 - (iz + 1) < at_ + 4 - iz ∧ j + 1 ≤ 4 by omega)
        clear HQ3 haz hiz hj hj4 hj0 hj1
        clear hc
        go_wp2_with fail
        refine (HDG.out _).mono ?_
        rintro e w1 ⟨rfl, rfl⟩
        clear HDG
        go_wp2_with fail
        go_roundw
        case rel => have h9 := HIZ.out; have h8 := HMS.out; exact ⟨j + 1, v2, by first | go_num | (congr 1; push_cast; omega), by first | rfl | trivial, by omega, by first | rfl | trivial, HVB, by rw [show 4 - (j + 1) = 3 - j by omega]; exact HD⟩
        case measure => have h8 := HMS.out; simp only [intOf]; omega
      by_cases hc2 : v2 ≤ 223
      · have e0 : ((iz : Int) == (at_ : Int)) = false := by simp only [beq_eq_false_iff_ne, ne_eq]; omega
        have e1 : ((iz : Int) == (az : Int)) = true := by simp only [beq_iff_eq]; omega
        have e3 : decide (220 ≤ v2) = true := decide_eq_true (by omega)
        have e4 : decide (v2 ≤ 223) = true := decide_eq_true (by omega)
        have HD := Lib.hid (show res = .tuple #[.int .i64 0, .int .i64 iz, .bool false] by rw [← HQ3.out, if_pos (by unfold refB; first | (simp [hj1]; done) | (simp [hj1]; omega))]; unfold fourV; dsimp only; rw [hiz])
        clear HQ3 hiz haz hj hj4 HVB hj0 hj1
        clear hc hc2
        go_wp2_with fail
        refine (HDG.out _).mono ?_
        rintro e w1 ⟨rfl, rfl⟩
        clear HDG
        go_wp2_with fail
        go_ret3
        exact ⟨by rw [HD.out]; first | done | rfl, rfl⟩
      have e0 : ((iz : Int) == (at_ : Int)) = false := by simp only [beq_eq_false_iff_ne, ne_eq]; omega
      have e1 : ((iz : Int) == (az : Int)) = true := by simp only [beq_iff_eq]; omega
      have e3 : decide (220 ≤ v2) = true := decide_eq_true (by omega)
      have e4 : decide (v2 ≤ 223) = false := decide_eq_false (by omega)
      have HD := Lib.hid (show fourV at_ (rF false (3 - j) v2 (l.drop (at_ + (j + 1))) (j + 1)) = res by rw [← HQ3.out, if_neg (by unfold refB; first | (simp [hj1]; done) | (simp [hj1]; omega))])
      have HIZ := Lib.hid hiz
      have HMS := Lib.hid (show at_ + 4 - (iz + 1) < at_ + 4 - iz ∧ j + 1 ≤ 4 by omega)
      clear HQ3 haz hiz hj hj4 hj0 hj1
      clear hc hc2
      go_wp2_with fail
      refine (HDG.out _).mono ?_
      rintro e w1 ⟨rfl, rfl⟩
      clear HDG
      go_wp2_with fail
      go_roundw
      case rel => have h9 := HIZ.out; have h8 := HMS.out; exact ⟨j + 1, v2, by first | go_num | (congr 1; push_cast; omega), by first | rfl | trivial, by omega, by first | rfl | trivial, HVB, by rw [show 4 - (j + 1) = 3 - j by omega]; exact HD⟩
      case measure => have h8 := HMS.out; simp only [intOf]; omega
    have e0 : ((iz : Int) == (at_ : Int)) = false := by simp only [beq_eq_false_iff_ne, ne_eq]; omega
    have e1 : ((iz : Int) == (az : Int)) = false := by simp only [beq_eq_false_iff_ne, ne_eq]; omega
    have HD := Lib.hid (show fourV at_ (rF false (3 - j) v2 (l.drop (at_ + (j + 1))) (j + 1)) = res by rw [← HQ3.out, if_neg (by unfold refB; first | (simp [hj0, hj1]; done) | (simp [hj0, hj1]; omega))])
    have HIZ := Lib.hid hiz
    have HMS := Lib.hid (show at_ + 4 - (iz + 1) < at_ + 4 - iz ∧ j + 1 ≤ 4 by omega)
    clear HQ3 haz hiz hj hj4 hj0 hj1
    go_wp2_with fail
    refine (HDG.out _).mono ?_
    rintro e w1 ⟨rfl, rfl⟩
    clear HDG
    go_wp2_with fail
    go_roundw
    case rel => have h9 := HIZ.out; have h8 := HMS.out; exact ⟨j + 1, v2, by first | go_num | (congr 1; push_cast; omega), by first | rfl | trivial, by omega, by first | rfl | trivial, HVB, by rw [show 4 - (j + 1) = 3 - j by omega]; exact HD⟩
    case measure => have h8 := HMS.out; simp only [intOf]; omega
theorem four_any (l : List UInt8) (at_ : Nat) (sec : Bool) (hl : l.length ≤ 1073741824) (ha : at_ ≤ 2147483648) (w : World) : Calls Tryz.prog 137 #[strV l, .int .i64 at_, .bool sec] w fun o w' => o = .returned (fourV at_ (rF sec 4 0 (l.drop at_) 0)) ∧ w' = w := by
  cases sec
  · exact four_f l at_ hl ha w
  · exact four_t l at_ hl ha w
end
end Go.Proofs.YtccmhhmdenfecaaGreatDoor
