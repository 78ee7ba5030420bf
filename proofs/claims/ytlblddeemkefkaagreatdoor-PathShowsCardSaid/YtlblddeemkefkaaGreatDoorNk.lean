/- The walk of accordionref04.Put. -/
import Derived.Test.YtlblddeemkefkaaGreatDoorNi
namespace Go.Proofs.YtlblddeemkefkaaGreatDoor
set_option linter.unusedVariables false
set_option linter.unusedSimpArgs false
open Go.RowKit Go.Shelf
theorem conv_nums (W : World) (b cap : Nat) (xs : List Int) (e : TypeId) (fr : Nat × Nat) (h : W.heap[b]? = some (.cells (xs.map (Value.int .u8)).toArray e fr)) :
    (convert 61 9 (.slice (some ⟨b, 0, none⟩) xs.length cap)).run Tryz.prog W = .ok (.string ⟨(xs.map fun x => x.toNat.toUInt8).toArray⟩) W := by
  have hx := run_convert_bytes_arg (P := Tryz.prog) W 61 5 Tryz.underlying61 Tryz.underlying5 b 0 xs.length cap xs rfl (fun i hi => by
    rw [Nat.zero_add, Lib.cell_of_heap h, List.getElem?_toArray, List.getElem?_map, List.getElem?_eq_getElem hi, List.getD_eq_getElem?_getD, List.getElem?_eq_getElem hi]
    rfl) 9 Tryz.underlying9
  rw [hx]
  rfl
set_option maxHeartbeats 4000000 in
set_option maxRecDepth 100000 in
theorem put_not (n : Int) (hn0 : -2147483648 ≤ n) (hn1 : n ≤ 2147483647) (h : scalB n = false) (w : World) : Calls Tryz.prog 137 #[.int .i32 n] w fun o w' => o = .returned (.tuple #[strV (putL n), .bool (scalB n)]) ∧ Below w.heap.size w w' := by
  have hp : putL n = [] := by unfold putL; rw [if_neg (by rw [h]; decide)]
  rw [h, hp]
  have q0 : IntKind.i64.wrap n = n := IntWalk.i64_in _ (by omega)
  have HN := Lib.hid (fun W => rune_any n W)
  rw [h] at HN
  clear h hp
  unfold strV
  go_enter Tryz.func137, Tryz.ntmps137
  go_wp2_with fail
  refine (HN.out _).mono ?_
  rintro e w1 ⟨rfl, rfl⟩
  go_wp2_with fail
  go_ret2
  exact ⟨rfl, Below.refl _ _⟩
set_option maxHeartbeats 4000000 in
set_option maxRecDepth 100000 in
theorem put_1 (n : Int) (h0 : 0 ≤ n) (h1 : n < 128) (w : World) : Calls Tryz.prog 137 #[.int .i32 n] w fun o w' => o = .returned (.tuple #[strV (putL n), .bool (scalB n)]) ∧ Below w.heap.size w w' := by
  have h : scalB n = true := (scal_iff n).2 ⟨h0, by omega, .inl (by omega)⟩
  have hp : putL n = [n.toNat.toUInt8] := by
    rw [putL_of ⟨h0, by omega, .inl (by omega)⟩]
    unfold Lib.encodeRune
    rw [Lib.encodeRuneZ_one (by omega) (by omega)]
    rfl
  rw [h, hp]
  have q0 : IntKind.i64.wrap n = n := IntWalk.i64_in _ (by omega)
  have HN := Lib.hid (fun W => rune_any n W)
  rw [h] at HN
  have q1 : IntKind.u8.wrap n = n := IntWalk.u8_in _ (by omega)
  clear h hp
  unfold strV
  go_enter Tryz.func137, Tryz.ntmps137
  go_wp2_with fail
  refine (HN.out _).mono ?_
  rintro e w1 ⟨rfl, rfl⟩
  have hcv : (convert 61 9 (.slice (some ⟨w1.heap.size, 0, none⟩) 1 1)).run Tryz.prog (w1.alloc (.cells #[.int .u8 n] 5 (0, 0))) = .ok (.string ⟨#[n.toNat.toUInt8]⟩) (w1.alloc (.cells #[.int .u8 n] 5 (0, 0))) := conv_nums _ _ 1 [n] _ _ (heap_alloc_new _ _)
  go_wp2_with fail
  go_ret2
  exact ⟨rfl, (Below.refl _ _).alloc (Nat.le_refl _) _⟩
set_option maxHeartbeats 4000000 in
set_option maxRecDepth 100000 in
theorem put_2 (n : Int) (h0 : 128 ≤ n) (h1 : n ≤ 2047) (w : World) : Calls Tryz.prog 137 #[.int .i32 n] w fun o w' => o = .returned (.tuple #[strV (putL n), .bool (scalB n)]) ∧ Below w.heap.size w w' := by
  have hsc : 0 ≤ n ∧ n ≤ 1114111 ∧ (n < 55296 ∨ 57343 < n) := ⟨by omega, by omega, (.inl (by omega))⟩
  have h : scalB n = true := (scal_iff n).2 hsc
  obtain ⟨p64, hp64⟩ : ∃ z : Int, z = n / 64 := ⟨_, rfl⟩
  obtain ⟨y1, hy1⟩ : ∃ z : Int, z = 128 + n % 64 := ⟨_, rfl⟩
  obtain ⟨y0, hy0⟩ : ∃ z : Int, z = 192 + p64 := ⟨_, rfl⟩
  have hp : putL n = [y0.toNat.toUInt8, y1.toNat.toUInt8] := by
    rw [putL_of hsc]
    unfold Lib.encodeRune
    rw [Lib.encodeRuneZ_two (by omega) (by omega), ← hp64]
    rw [← hy0, ← hy1]
    rfl
  rw [h, hp]
  have HN := Lib.hid (fun W => rune_any n W)
  rw [h] at HN
  have q0 : IntKind.i64.wrap n = n := IntWalk.i64_in _ (by omega)
  have d64 : n.tdiv 64 = p64 := by rw [Int.tdiv_eq_ediv_of_nonneg (by omega), hp64]
  have e64 : n / 64 = p64 := hp64.symm
  have q64 : IntKind.i64.wrap p64 = p64 := IntWalk.i64_in _ (by omega)
  have HT1 := Lib.hid (fun W => tail_any n (by omega) (by omega) W)
  rw [← hy1] at HT1
  have qa : IntKind.i64.wrap (192 + p64) = y0 := by rw [← hy0]; exact IntWalk.i64_in _ (by omega)
  have qb : IntKind.u8.wrap y0 = y0 := IntWalk.u8_in _ (by omega)
  have l1 : ¬ n < 128 := by omega
  have l2 : n < 2048 := by omega
  clear h hp hsc hp64 hy0 hy1 h0 h1
  unfold strV
  go_enter Tryz.func137, Tryz.ntmps137
  go_wp2_with fail
  refine (HN.out _).mono ?_
  rintro e w1 ⟨rfl, rfl⟩
  have hcv : (convert 61 9 (.slice (some ⟨w1.heap.size, 0, none⟩) 2 2)).run Tryz.prog (w1.alloc (.cells #[.int .u8 y0, .int .u8 y1] 5 (0, 0))) = .ok (.string ⟨#[y0.toNat.toUInt8, y1.toNat.toUInt8]⟩) (w1.alloc (.cells #[.int .u8 y0, .int .u8 y1] 5 (0, 0))) := conv_nums _ _ 2 [y0, y1] _ _ (heap_alloc_new _ _)
  go_wp2_with fail
  refine (HT1.out _).mono ?_
  rintro e w2 ⟨rfl, rfl⟩
  go_wp2_with fail
  go_ret2
  exact ⟨rfl, (Below.refl _ _).alloc (Nat.le_refl _) _⟩
set_option maxHeartbeats 4000000 in
set_option maxRecDepth 100000 in
theorem put_3 (n : Int) (h0 : 2048 ≤ n) (h1 : n ≤ 65535) (hs : n < 55296 ∨ 57343 < n) (w : World) : Calls Tryz.prog 137 #[.int .i32 n] w fun o w' => o = .returned (.tuple #[strV (putL n), .bool (scalB n)]) ∧ Below w.heap.size w w' := by
  have hsc : 0 ≤ n ∧ n ≤ 1114111 ∧ (n < 55296 ∨ 57343 < n) := ⟨by omega, by omega, hs⟩
  have h : scalB n = true := (scal_iff n).2 hsc
  obtain ⟨p64, hp64⟩ : ∃ z : Int, z = n / 64 := ⟨_, rfl⟩
  obtain ⟨p4096, hp4096⟩ : ∃ z : Int, z = n / 4096 := ⟨_, rfl⟩
  obtain ⟨y1, hy1⟩ : ∃ z : Int, z = 128 + p64 % 64 := ⟨_, rfl⟩
  obtain ⟨y2, hy2⟩ : ∃ z : Int, z = 128 + n % 64 := ⟨_, rfl⟩
  obtain ⟨y0, hy0⟩ : ∃ z : Int, z = 224 + p4096 := ⟨_, rfl⟩
  have hp : putL n = [y0.toNat.toUInt8, y1.toNat.toUInt8, y2.toNat.toUInt8] := by
    rw [putL_of hsc]
    unfold Lib.encodeRune
    rw [Lib.encodeRuneZ_three (by omega), ← hp4096]
    rw [← hy0, ← hp64, ← hy1, ← hy2]
    rfl
  rw [h, hp]
  have HN := Lib.hid (fun W => rune_any n W)
  rw [h] at HN
  have q0 : IntKind.i64.wrap n = n := IntWalk.i64_in _ (by omega)
  have d64 : n.tdiv 64 = p64 := by rw [Int.tdiv_eq_ediv_of_nonneg (by omega), hp64]
  have e64 : n / 64 = p64 := hp64.symm
  have q64 : IntKind.i64.wrap p64 = p64 := IntWalk.i64_in _ (by omega)
  have d4096 : n.tdiv 4096 = p4096 := by rw [Int.tdiv_eq_ediv_of_nonneg (by omega), hp4096]
  have e4096 : n / 4096 = p4096 := hp4096.symm
  have q4096 : IntKind.i64.wrap p4096 = p4096 := IntWalk.i64_in _ (by omega)
  have HT1 := Lib.hid (fun W => tail_any p64 (by omega) (by omega) W)
  rw [← hy1] at HT1
  have HT2 := Lib.hid (fun W => tail_any n (by omega) (by omega) W)
  rw [← hy2] at HT2
  have qa : IntKind.i64.wrap (224 + p4096) = y0 := by rw [← hy0]; exact IntWalk.i64_in _ (by omega)
  have qb : IntKind.u8.wrap y0 = y0 := IntWalk.u8_in _ (by omega)
  have l1 : ¬ n < 128 := by omega
  have l2 : ¬ n < 2048 := by omega
  have l3 : n < 65536 := by omega
  clear h hp hsc hp64 hp4096 hy0 hy1 hy2 h0 h1 hs
  unfold strV
  go_enter Tryz.func137, Tryz.ntmps137
  go_wp2_with fail
  refine (HN.out _).mono ?_
  rintro e w1 ⟨rfl, rfl⟩
  have hcv : (convert 61 9 (.slice (some ⟨w1.heap.size, 0, none⟩) 3 3)).run Tryz.prog (w1.alloc (.cells #[.int .u8 y0, .int .u8 y1, .int .u8 y2] 5 (0, 0))) = .ok (.string ⟨#[y0.toNat.toUInt8, y1.toNat.toUInt8, y2.toNat.toUInt8]⟩) (w1.alloc (.cells #[.int .u8 y0, .int .u8 y1, .int .u8 y2] 5 (0, 0))) := conv_nums _ _ 3 [y0, y1, y2] _ _ (heap_alloc_new _ _)
  go_wp2_with fail
  refine (HT1.out _).mono ?_
  rintro e w2 ⟨rfl, rfl⟩
  go_wp2_with fail
  refine (HT2.out _).mono ?_
  rintro e w2 ⟨rfl, rfl⟩
  go_wp2_with fail
  go_ret2
  exact ⟨rfl, (Below.refl _ _).alloc (Nat.le_refl _) _⟩
set_option maxHeartbeats 4000000 in
set_option maxRecDepth 100000 in
theorem put_4 (n : Int) (h0 : 65536 ≤ n) (h1 : n ≤ 1114111) (w : World) : Calls Tryz.prog 137 #[.int .i32 n] w fun o w' => o = .returned (.tuple #[strV (putL n), .bool (scalB n)]) ∧ Below w.heap.size w w' := by
  have hsc : 0 ≤ n ∧ n ≤ 1114111 ∧ (n < 55296 ∨ 57343 < n) := ⟨by omega, by omega, (.inr (by omega))⟩
  have h : scalB n = true := (scal_iff n).2 hsc
  obtain ⟨p64, hp64⟩ : ∃ z : Int, z = n / 64 := ⟨_, rfl⟩
  obtain ⟨p4096, hp4096⟩ : ∃ z : Int, z = n / 4096 := ⟨_, rfl⟩
  obtain ⟨p262144, hp262144⟩ : ∃ z : Int, z = n / 262144 := ⟨_, rfl⟩
  obtain ⟨y1, hy1⟩ : ∃ z : Int, z = 128 + p4096 % 64 := ⟨_, rfl⟩
  obtain ⟨y2, hy2⟩ : ∃ z : Int, z = 128 + p64 % 64 := ⟨_, rfl⟩
  obtain ⟨y3, hy3⟩ : ∃ z : Int, z = 128 + n % 64 := ⟨_, rfl⟩
  obtain ⟨y0, hy0⟩ : ∃ z : Int, z = 240 + p262144 := ⟨_, rfl⟩
  have hp : putL n = [y0.toNat.toUInt8, y1.toNat.toUInt8, y2.toNat.toUInt8, y3.toNat.toUInt8] := by
    rw [putL_of hsc]
    unfold Lib.encodeRune
    rw [Lib.encodeRuneZ_four (by omega) (by omega), ← hp262144]
    rw [← hy0, ← hp4096, ← hy1, ← hp64, ← hy2, ← hy3]
    rfl
  rw [h, hp]
  have HN := Lib.hid (fun W => rune_any n W)
  rw [h] at HN
  have q0 : IntKind.i64.wrap n = n := IntWalk.i64_in _ (by omega)
  have d64 : n.tdiv 64 = p64 := by rw [Int.tdiv_eq_ediv_of_nonneg (by omega), hp64]
  have e64 : n / 64 = p64 := hp64.symm
  have q64 : IntKind.i64.wrap p64 = p64 := IntWalk.i64_in _ (by omega)
  have d4096 : n.tdiv 4096 = p4096 := by rw [Int.tdiv_eq_ediv_of_nonneg (by omega), hp4096]
  have e4096 : n / 4096 = p4096 := hp4096.symm
  have q4096 : IntKind.i64.wrap p4096 = p4096 := IntWalk.i64_in _ (by omega)
  have d262144 : n.tdiv 262144 = p262144 := by rw [Int.tdiv_eq_ediv_of_nonneg (by omega), hp262144]
  have e262144 : n / 262144 = p262144 := hp262144.symm
  have q262144 : IntKind.i64.wrap p262144 = p262144 := IntWalk.i64_in _ (by omega)
  have HT1 := Lib.hid (fun W => tail_any p4096 (by omega) (by omega) W)
  rw [← hy1] at HT1
  have HT2 := Lib.hid (fun W => tail_any p64 (by omega) (by omega) W)
  rw [← hy2] at HT2
  have HT3 := Lib.hid (fun W => tail_any n (by omega) (by omega) W)
  rw [← hy3] at HT3
  have qa : IntKind.i64.wrap (240 + p262144) = y0 := by rw [← hy0]; exact IntWalk.i64_in _ (by omega)
  have qb : IntKind.u8.wrap y0 = y0 := IntWalk.u8_in _ (by omega)
  have l1 : ¬ n < 128 := by omega
  have l2 : ¬ n < 2048 := by omega
  have l3 : ¬ n < 65536 := by omega
  clear h hp hsc hp64 hp4096 hp262144 hy0 hy1 hy2 hy3 h0 h1
  unfold strV
  go_enter Tryz.func137, Tryz.ntmps137
  go_wp2_with fail
  refine (HN.out _).mono ?_
  rintro e w1 ⟨rfl, rfl⟩
  have hcv : (convert 61 9 (.slice (some ⟨w1.heap.size, 0, none⟩) 4 4)).run Tryz.prog (w1.alloc (.cells #[.int .u8 y0, .int .u8 y1, .int .u8 y2, .int .u8 y3] 5 (0, 0))) = .ok (.string ⟨#[y0.toNat.toUInt8, y1.toNat.toUInt8, y2.toNat.toUInt8, y3.toNat.toUInt8]⟩) (w1.alloc (.cells #[.int .u8 y0, .int .u8 y1, .int .u8 y2, .int .u8 y3] 5 (0, 0))) := conv_nums _ _ 4 [y0, y1, y2, y3] _ _ (heap_alloc_new _ _)
  go_wp2_with fail
  refine (HT1.out _).mono ?_
  rintro e w2 ⟨rfl, rfl⟩
  go_wp2_with fail
  refine (HT2.out _).mono ?_
  rintro e w2 ⟨rfl, rfl⟩
  go_wp2_with fail
  refine (HT3.out _).mono ?_
  rintro e w2 ⟨rfl, rfl⟩
  go_wp2_with fail
  go_ret2
  exact ⟨rfl, (Below.refl _ _).alloc (Nat.le_refl _) _⟩
/-- Put gives the encoding of a scalar value, else nothing. -/
theorem rput_any (n : Int) (hn0 : -2147483648 ≤ n) (hn1 : n ≤ 2147483647) (w : World) : Calls Tryz.prog 137 #[.int .i32 n] w fun o w' => o = .returned (.tuple #[strV (putL n), .bool (scalB n)]) ∧ Below w.heap.size w w' := by
  cases h : scalB n with
  | false => have := put_not n hn0 hn1 h w; rw [h] at this; exact this
  | true =>
    obtain ⟨g0, g1, g2⟩ := (scal_iff n).1 h
    rw [← h]
    rcases Int.lt_or_le n 128 with k1 | k1
    · exact put_1 n g0 k1 w
    rcases Int.lt_or_le n 2048 with k2 | k2
    · exact put_2 n k1 (by omega) w
    rcases Int.lt_or_le n 65536 with k3 | k3
    · exact put_3 n k2 (by omega) g2 w
    · exact put_4 n k3 g1 w
end Go.Proofs.YtlblddeemkefkaaGreatDoor
