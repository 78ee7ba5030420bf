/- The walk of accordionlaw10.word at numbers and texts. -/
import Derived.Test.YtgdhepoffnpgiaaDoorPe
import Derived.Laws.Bits64b
namespace Go.Proofs.YtgdhepoffnpgiaaDoor
set_option linter.unusedVariables false
set_option linter.unusedSimpArgs false
open Go.RowKit Go.Shelf
theorem set6_cell {w : World} {Q T : Nat} (h : ¬ T = Q) (i : Nat) (u0 u1 u2 u3 u4 u5 : Value) : ((((((w.setCell ⟨Q, 0, none⟩ u0).setCell ⟨Q, 1, none⟩ u1).setCell ⟨Q, 2, none⟩ u2).setCell ⟨Q, 3, none⟩ u3).setCell ⟨Q, 4, none⟩ u4).setCell ⟨Q, 5, none⟩ u5).cell? ⟨T, i, none⟩ = w.cell? ⟨T, i, none⟩ := by
  have hh : ((((((w.setCell ⟨Q, 0, none⟩ u0).setCell ⟨Q, 1, none⟩ u1).setCell ⟨Q, 2, none⟩ u2).setCell ⟨Q, 3, none⟩ u3).setCell ⟨Q, 4, none⟩ u4).setCell ⟨Q, 5, none⟩ u5).heap[T]? = w.heap[T]? := by
    rw [Below.heap_setCell _ _ _ _ (by simpa using h), Below.heap_setCell _ _ _ _ (by simpa using h), Below.heap_setCell _ _ _ _ (by simpa using h), Below.heap_setCell _ _ _ _ (by simpa using h), Below.heap_setCell _ _ _ _ (by simpa using h), Below.heap_setCell _ _ _ _ (by simpa using h)]
  unfold World.cell?
  simp only [hh]
theorem fi_any (n : Int) (h0 : -9223372036854775808 ≤ n) (h1 : n ≤ 9223372036854775807) (w : World) (htab : Lib.TabIs Tryd.prog w "internal/strconv.uint64pow10" .u64 Lib.pow10Tab) :
    Calls Tryd.prog 37 #[.int .i64 n, .int .i64 10] w fun e w' => e = .returned (.string ⟨(Lib.itoa n).toArray⟩) ∧ Below w.heap.size w w' := by
  refine (Tryd.strconv_FormatInt_10 n h0 h1 w htab).mono ?_
  rintro e w' ⟨rfl, k, os, rfl⟩
  exact ⟨rfl, Lib.below_grow _ _ (Nat.le_refl _) _ _⟩
set_option maxHeartbeats 16000000 in
set_option maxRecDepth 100000 in
theorem word_int (a0 a1 : Int) (h0 : -9223372036854775808 ≤ a0) (h1 : a0 ≤ 9223372036854775807) (g0 : -9223372036854775808 ≤ a1) (g1 : a1 ≤ 9223372036854775807) (hk : a0 % 12 = 9) (w0 w : World) (hW : WG w0 w) (htab : Lib.TabBelow Tryd.prog w0.heap.size w0 "internal/strconv.uint64pow10" .u64 Lib.pow10Tab) : Calls Tryd.prog 22 #[.agg #[.int .i64 a0, .int .i64 a1]] w (WordPost w0) := by
  have HB := Lib.hid (fun W => bring_any a0 12 (by omega) (by omega) h0 h1 W)
  rw [hk] at HB
  have H0 := Lib.hid hW
  have HF := Lib.hid (fun (W : World) (h : WG w0 W) => fi_any a1 g0 g1 W (htab W h.b))
  have HOK := Lib.hid (int_ok g0 g1)
  clear hW h0 h1 hk htab g0 g1
  generalize Lib.itoa a1 = x at *
  go_enter Tryd.func22, Tryd.ntmps22
  go_upto_region 1 with fail
  refine wp_named (fun wn => WS w0 wn a0 a1 w.heap.size) (WS.start H0.out a0 a1) ?_
  clear H0
  generalize w.heap.size = N at *
  rintro wn hS
  obtain ⟨c0, c1⟩ := hS.c0
  have HS := Lib.hid hS
  clear hS
  go_wp2_with fail
  refine (HB.out _).mono ?_
  rintro e w1 ⟨rfl, rfl⟩
  go_upto_region 3 with fail
  refine wp_named (fun wn => WT w0 wn a0 a1 N w1.heap.size 10 0 0 0 0 []) ⟨HS.out.next ((Below.refl _ _).alloc (Nat.le_refl _) _), TCell.new _ _ _ _ _ _ _ _, HS.out.g.b.size, by have := HS.out.z; omega, by have := HS.out.z; omega⟩ ?_
  clear c0 c1 HS HB
  generalize w1.heap.size = T at *
  rintro wm hT
  obtain ⟨v0, v1, v2, v3, v4, v5⟩ := hT.t.cells
  obtain ⟨c0, c1⟩ := hT.s.c0
  have fz := Lib.frozen_of_heap hT.t.2 3
  have HT := Lib.hid hT
  clear hT
  go_upto_region 5 with fail
  refine wp_named (fun wn => WT w0 wn a0 a1 N T 10 0 0 a1 0 []) (HT.out.set 3 (.int .i64 a1) a1 0 [] rfl) ?_
  clear v0 v1 v2 v3 v4 v5 c0 c1 fz HT
  rintro wz hT
  obtain ⟨v0, v1, v2, v3, v4, v5⟩ := hT.t.cells
  have HT := Lib.hid hT
  have hz4 : ¬ T = N + 1 := hT.ne.2
  clear hT
  go_region_held3 (fun w' => w'.cell? ⟨T, 0, none⟩ = some (.int .i64 10) ∧ w'.cell? ⟨T, 1, none⟩ = some (.int .i64 0) ∧ w'.cell? ⟨T, 2, none⟩ = some (.int .i64 0) ∧ w'.cell? ⟨T, 3, none⟩ = some (.int .i64 a1) ∧ w'.cell? ⟨T, 4, none⟩ = some (.int .u64 0) ∧ w'.cell? ⟨T, 5, none⟩ = some (.string ⟨#[]⟩)) (first | (with_reducible exact ⟨v0, v1, v2, v3, v4, v5⟩) | (with_reducible exact HC.out) | (with_reducible exact ⟨(set6_cell hz4 0 _ _ _ _ _ _).trans HC.out.1, (set6_cell hz4 1 _ _ _ _ _ _).trans HC.out.2.1, (set6_cell hz4 2 _ _ _ _ _ _).trans HC.out.2.2.1, (set6_cell hz4 3 _ _ _ _ _ _).trans HC.out.2.2.2.1, (set6_cell hz4 4 _ _ _ _ _ _).trans HC.out.2.2.2.2.1, (set6_cell hz4 5 _ _ _ _ _ _).trans HC.out.2.2.2.2.2⟩) | trivial) ((go_at_call 37; refine (HF.out _ (by first | exact HT.out.s.g | exact HT.out.s.g.next (below_drew1 (Below.refl _ _)) | exact HT.out.s.g.next (below_drewN (Below.refl _ _) _))).mono ?_; rintro e w7 ⟨rfl, hb7⟩; have hT7 : WT w0 w7 a0 a1 N T 10 0 0 a1 0 [] := HT.out.next (by first | exact hb7 | exact (below_drew1 (Below.refl _ _)).trans hb7 | exact (below_drewN (Below.refl _ _) _).trans hb7); have HT7 := Lib.hid hT7; have HC := Lib.hid hT7.t.cells; obtain ⟨n0, n1, n2, n3, n4, n5, hfz⟩ := hT7.s.q.cells; have f0 := hfz 0; have f1 := hfz 1; have f2 := hfz 2; have f3 := hfz 3; have f4 := hfz 4; have f5 := hfz 5; clear hfz hT7 hb7))
  refine then_named (fun W => TCell W (N + 1) 25 10 0 0 a1 0 [] ∧ WG w0 W) (HT7.out.s.store 10 0 0 a1 0 []) ?_
  clear v0 v1 v2 v3 v4 v5 n0 n1 n2 n3 n4 n5 f0 f1 f2 f3 f4 f5 HC HT7
  rintro w9 ⟨ht, hg⟩
  obtain ⟨c0, c1, c2, c3, c4, c5⟩ := ht.cells
  have HG := Lib.hid hg
  clear hg ht
  go_wp2_with fail
  refine bodyPost_ret (v := .tuple #[.agg #[.int .i64 10, .int .i64 0, .int .i64 0, .int .i64 a1, .int .u64 0, .string ⟨#[]⟩], .string ⟨x.toArray⟩]) (by simp [results, Tryd.results22, go_sem, *]) rfl ?_
  exact ⟨⟨⟨10, 0, 0, a1, 0, []⟩, x⟩, HOK.out, rfl, HG.out⟩
theorem or_top {a : Int} (h0 : -9223372036854775808 ≤ a) (h1 : a ≤ 9223372036854775807) : ∃ u : Nat, 2 ^ 63 ≤ u ∧ u < 2 ^ 64 ∧ bits BinOp.or IntKind.u64 9223372036854775808 (IntKind.u64.wrap a) = (u : Int) := by
  have hb : 0 ≤ IntKind.u64.wrap a ∧ IntKind.u64.wrap a < 18446744073709551616 := by
    rcases Int.lt_or_le a 0 with h | h
    · have e : IntKind.u64.wrap a = a + 18446744073709551616 := by
        have e1 : IntKind.u64.wrap a = a % 18446744073709551616 := by simp [IntKind.wrap, IntKind.signed, IntKind.bits]
        rw [e1]
        omega
      omega
    · rw [IntWalk.u64_in _ (by omega)]
      omega
  obtain ⟨b, hbb⟩ : ∃ b : Nat, IntKind.u64.wrap a = (b : Int) := ⟨(IntKind.u64.wrap a).toNat, by omega⟩
  rw [hbb] at hb ⊢
  have hl : 9223372036854775808 ≤ 9223372036854775808 ||| b := Nat.left_le_or
  have hu : 9223372036854775808 ||| b < 2 ^ 64 := Nat.or_lt_two_pow (by decide) (by omega)
  have h := bits_or_u64_nat 9223372036854775808 b (by decide) (by omega)
  generalize 9223372036854775808 ||| b = u at *
  exact ⟨u, by omega, hu, h⟩
set_option maxHeartbeats 16000000 in
set_option maxRecDepth 100000 in
theorem word_uint (a0 a1 : Int) (h0 : -9223372036854775808 ≤ a0) (h1 : a0 ≤ 9223372036854775807) (g0 : -9223372036854775808 ≤ a1) (g1 : a1 ≤ 9223372036854775807) (hk : a0 % 12 = 10) (w0 w : World) (hW : WG w0 w) (htab : Lib.TabBelow Tryd.prog w0.heap.size w0 "internal/strconv.uint64pow10" .u64 Lib.pow10Tab) : Calls Tryd.prog 22 #[.agg #[.int .i64 a0, .int .i64 a1]] w (WordPost w0) := by
  have HB := Lib.hid (fun W => bring_any a0 12 (by omega) (by omega) h0 h1 W)
  rw [hk] at HB
  have H0 := Lib.hid hW
  obtain ⟨un, hu0, hu1, hor⟩ := or_top g0 g1
  have HF := Lib.hid (fun (W : World) (h : WG w0 W) => by have := fu_any un (by omega) W (htab W h.b); unfold strV at this; exact this)
  have HOK := Lib.hid (uint_ok hu0 hu1)
  clear hW h0 h1 hk htab g0 g1 hu0 hu1
  generalize Lib.decDigits un = x at *
  go_enter Tryd.func22, Tryd.ntmps22
  go_upto_region 1 with fail
  refine wp_named (fun wn => WS w0 wn a0 a1 w.heap.size) (WS.start H0.out a0 a1) ?_
  clear H0
  generalize w.heap.size = N at *
  rintro wn hS
  obtain ⟨c0, c1⟩ := hS.c0
  have HS := Lib.hid hS
  clear hS
  go_wp2_with fail
  refine (HB.out _).mono ?_
  rintro e w1 ⟨rfl, rfl⟩
  go_upto_region 3 with fail
  refine wp_named (fun wn => WT w0 wn a0 a1 N w1.heap.size 11 0 0 0 0 []) ⟨HS.out.next ((Below.refl _ _).alloc (Nat.le_refl _) _), TCell.new _ _ _ _ _ _ _ _, HS.out.g.b.size, by have := HS.out.z; omega, by have := HS.out.z; omega⟩ ?_
  clear c0 c1 HS HB
  generalize w1.heap.size = T at *
  rintro wm hT
  obtain ⟨v0, v1, v2, v3, v4, v5⟩ := hT.t.cells
  obtain ⟨c0, c1⟩ := hT.s.c0
  have fz := Lib.frozen_of_heap hT.t.2 4
  have HT := Lib.hid hT
  clear hT
  go_upto_region 8 with fail
  refine wp_named (fun wn => WT w0 wn a0 a1 N T 11 0 0 0 un []) (HT.out.set 4 (.int .u64 un) 0 un [] rfl) ?_
  clear v0 v1 v2 v3 v4 v5 c0 c1 fz HT
  rintro wz hT
  obtain ⟨v0, v1, v2, v3, v4, v5⟩ := hT.t.cells
  have HT := Lib.hid hT
  have hz4 : ¬ T = N + 1 := hT.ne.2
  clear hT
  go_region_held3 (fun w' => w'.cell? ⟨T, 0, none⟩ = some (.int .i64 11) ∧ w'.cell? ⟨T, 1, none⟩ = some (.int .i64 0) ∧ w'.cell? ⟨T, 2, none⟩ = some (.int .i64 0) ∧ w'.cell? ⟨T, 3, none⟩ = some (.int .i64 0) ∧ w'.cell? ⟨T, 4, none⟩ = some (.int .u64 un) ∧ w'.cell? ⟨T, 5, none⟩ = some (.string ⟨#[]⟩)) (first | (with_reducible exact ⟨v0, v1, v2, v3, v4, v5⟩) | (with_reducible exact HC.out) | (with_reducible exact ⟨(set6_cell hz4 0 _ _ _ _ _ _).trans HC.out.1, (set6_cell hz4 1 _ _ _ _ _ _).trans HC.out.2.1, (set6_cell hz4 2 _ _ _ _ _ _).trans HC.out.2.2.1, (set6_cell hz4 3 _ _ _ _ _ _).trans HC.out.2.2.2.1, (set6_cell hz4 4 _ _ _ _ _ _).trans HC.out.2.2.2.2.1, (set6_cell hz4 5 _ _ _ _ _ _).trans HC.out.2.2.2.2.2⟩) | trivial) ((go_at_call 18; refine (HF.out _ (by first | exact HT.out.s.g | exact HT.out.s.g.next (below_drew1 (Below.refl _ _)) | exact HT.out.s.g.next (below_drewN (Below.refl _ _) _))).mono ?_; rintro e w7 ⟨rfl, hb7⟩; have hT7 : WT w0 w7 a0 a1 N T 11 0 0 0 un [] := HT.out.next (by first | exact hb7 | exact (below_drew1 (Below.refl _ _)).trans hb7 | exact (below_drewN (Below.refl _ _) _).trans hb7); have HT7 := Lib.hid hT7; have HC := Lib.hid hT7.t.cells; obtain ⟨n0, n1, n2, n3, n4, n5, hfz⟩ := hT7.s.q.cells; have f0 := hfz 0; have f1 := hfz 1; have f2 := hfz 2; have f3 := hfz 3; have f4 := hfz 4; have f5 := hfz 5; clear hfz hT7 hb7))
  refine then_named (fun W => TCell W (N + 1) 25 11 0 0 0 un [] ∧ WG w0 W) (HT7.out.s.store 11 0 0 0 un []) ?_
  clear v0 v1 v2 v3 v4 v5 n0 n1 n2 n3 n4 n5 f0 f1 f2 f3 f4 f5 HC HT7
  rintro w9 ⟨ht, hg⟩
  obtain ⟨c0, c1, c2, c3, c4, c5⟩ := ht.cells
  have HG := Lib.hid hg
  clear hg ht
  go_wp2_with fail
  refine bodyPost_ret (v := .tuple #[.agg #[.int .i64 11, .int .i64 0, .int .i64 0, .int .i64 0, .int .u64 un, .string ⟨#[]⟩], .string ⟨x.toArray⟩]) (by simp [results, Tryd.results22, go_sem, *]) rfl ?_
  exact ⟨⟨⟨11, 0, 0, 0, un, []⟩, x⟩, HOK.out, rfl, HG.out⟩
end Go.Proofs.YtgdhepoffnpgiaaDoor
