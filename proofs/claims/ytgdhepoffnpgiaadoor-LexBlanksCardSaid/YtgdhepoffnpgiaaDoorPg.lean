/- The walk of accordionlaw10.word at texts; word whole. -/
import Derived.Test.YtgdhepoffnpgiaaDoorPf
namespace Go.Proofs.YtgdhepoffnpgiaaDoor
set_option linter.unusedVariables false
set_option linter.unusedSimpArgs false
open Go.RowKit Go.Shelf
theorem post_named {P : Program} {f : Func} {Q : Ending → World → Prop} {x : Exit} {a : Act} {w : World} (R : World → Prop) (h : R w) (k : ∀ w, R w → bodyPost P f Q x a w) : bodyPost P f Q x a w := k w h
theorem quo_table (j : Fin 7) : Lib.validD (txtL.getD j.val []) = true ∧ quoL' (txtL.getD j.val []) = quoL.getD j.val [] ∧ (txtL.getD j.val []).length ≤ 10 := by
  have h : ∀ j : Fin 7, Lib.validD (txtL.getD j.val []) = true ∧ quoL' (txtL.getD j.val []) = quoL.getD j.val [] ∧ (txtL.getD j.val []).length ≤ 10 := by decide +kernel
  exact h j
set_option maxHeartbeats 16000000 in
set_option maxRecDepth 100000 in
theorem word_text (a0 a1 : Int) (h0 : -9223372036854775808 ≤ a0) (h1 : a0 ≤ 9223372036854775807) (g0 : -9223372036854775808 ≤ a1) (g1 : a1 ≤ 9223372036854775807) (hk : a0 % 12 = 11) (w0 w : World) (hW : WG w0 w) : Calls Tryd.prog 22 #[.agg #[.int .i64 a0, .int .i64 a1]] w (WordPost w0) := by
  have HB := Lib.hid (fun W => bring_any a0 12 (by omega) (by omega) h0 h1 W)
  rw [hk] at HB
  have HB7 := Lib.hid (fun W => bring_any a1 7 (by omega) (by omega) g0 g1 W)
  have hm := Int.emod_nonneg a1 (show (7 : Int) ≠ 0 by omega)
  have hm2 := Int.emod_lt_of_pos a1 (show (0 : Int) < 7 by omega)
  obtain ⟨j, hj⟩ : ∃ j : Nat, a1 % 7 = (j : Int) := ⟨(a1 % 7).toNat, by omega⟩
  rw [hj] at HB7
  have hj7 : j < 7 := by omega
  obtain ⟨y1, y2, y3⟩ := quo_table ⟨j, hj7⟩
  dsimp only at y1 y2 y3
  have HQ := Lib.hid (fun (W : World) (h : WG w0 W) => by have := quote_any (txtL.getD j []) y1 (by omega) W h.g.1; rw [y2] at this; unfold strV at this; exact this)
  have HOK := Lib.hid (text_ok hj7)
  have H0 := Lib.hid hW
  clear hW h0 h1 hk g0 g1 hm hm2 hj y1 y2 y3
  go_enter Tryd.func22, Tryd.ntmps22
  go_upto_region 1 with fail
  refine wp_named (fun wn => WS w0 wn a0 a1 w.heap.size) (WS.start H0.out a0 a1) ?_
  clear H0
  generalize w.heap.size = N at *
  rintro wn hS
  obtain ⟨c0, c1⟩ := hS.c0
  have HS := Lib.hid hS
  clear hS
  go_wp2_with fail
  refine (HB.out _).mono ?_
  rintro e w1 ⟨rfl, rfl⟩
  go_upto_region 3 with fail
  refine wp_named (fun wn => WT w0 wn a0 a1 N w1.heap.size 12 0 0 0 0 []) ⟨HS.out.next ((Below.refl _ _).alloc (Nat.le_refl _) _), TCell.new _ _ _ _ _ _ _ _, HS.out.g.b.size, by have := HS.out.z; omega, by have := HS.out.z; omega⟩ ?_
  clear c0 c1 HS HB
  generalize w1.heap.size = T at *
  rintro wm hT
  have hza := hT.s.z
  have hzt := hT.t.1
  have hT2 := hT.next ((Below.refl _ _).alloc (Nat.le_refl _) (.cells #[.string ⟨#[]⟩, .string ⟨#[97]⟩, .string ⟨#[34]⟩, .string ⟨#[92]⟩, .string ⟨#[195, 169, 10]⟩, .string ⟨#[32, 120]⟩, .string ⟨#[110, 117, 108, 108]⟩] 9 (0, 0)))
  obtain ⟨v0, v1, v2, v3, v4, v5⟩ := hT2.t.cells
  obtain ⟨c0, c1⟩ := hT2.s.c0
  have fz := Lib.frozen_of_heap hT2.t.2 5
  have HTM := Lib.hid hT
  clear hT hT2
  have hjj : j = 0 ∨ j = 1 ∨ j = 2 ∨ j = 3 ∨ j = 4 ∨ j = 5 ∨ j = 6 := by omega
  clear hj7
  rcases hjj with rfl | rfl | rfl | rfl | rfl | rfl | rfl
  · go_wp2_with fail
    refine (HB7.out _).mono ?_
    rintro e w2 ⟨rfl, rfl⟩
    go_upto_region 11 with fail
    refine wp_named (fun wn => WT w0 wn a0 a1 N T 12 0 0 0 0 []) ((HTM.out.set 5 (.string ⟨#[]⟩) 0 0 [] rfl).next ((Below.refl _ _).alloc (Nat.le_refl _) _)) ?_
    clear v0 v1 v2 v3 v4 v5 c0 c1 fz HTM HB7 hza hzt
    rintro wz hT
    obtain ⟨v0, v1, v2, v3, v4, v5⟩ := hT.t.cells
    have HQ2 : Hid (Calls Tryd.prog 38 #[.string ⟨#[]⟩] wz fun e w' => e = .returned (.tuple #[.string ⟨#[34, 34]⟩, .int .i64 0]) ∧ Below wz.heap.size wz w') := Lib.hid (HQ.out wz hT.s.g)
    have HT := Lib.hid hT
    clear hT HQ
    go_wp2_with fail
    refine HQ2.out.mono ?_
    rintro e w3 ⟨rfl, hb3⟩
    clear v0 v1 v2 v3 v4 v5 HQ2
    have hT := HT.out.next hb3
    obtain ⟨v0, v1, v2, v3, v4, v5⟩ := hT.t.cells
    obtain ⟨n0, n1, n2, n3, n4, n5, hfz⟩ := hT.s.q.cells
    have f0 := hfz 0
    have f1 := hfz 1
    have f2 := hfz 2
    have f3 := hfz 3
    have f4 := hfz 4
    have f5 := hfz 5
    have hst := hT.s.store 12 0 0 0 0 []
    have HST := Lib.hid hst
    clear hT HT hb3 hfz hst
    go_wp2_with fail
    refine post_named (fun W => TCell W (N + 1) 25 12 0 0 0 0 [] ∧ WG w0 W) HST.out ?_
    clear v0 v1 v2 v3 v4 v5 n0 n1 n2 n3 n4 n5 f0 f1 f2 f3 f4 f5 HST
    rintro w9 ⟨ht, hg⟩
    obtain ⟨c0, c1, c2, c3, c4, c5⟩ := ht.cells
    have HG := Lib.hid hg
    clear hg ht
    refine bodyPost_ret (v := .tuple #[.agg #[.int .i64 12, .int .i64 0, .int .i64 0, .int .i64 0, .int .u64 0, .string ⟨#[]⟩], .string ⟨#[34, 34]⟩]) (by simp [results, Tryd.results22, go_sem, *]) rfl ?_
    exact ⟨⟨⟨12, 0, 0, 0, 0, []⟩, [34, 34]⟩, HOK.out, rfl, HG.out⟩
  · go_wp2_with fail
    refine (HB7.out _).mono ?_
    rintro e w2 ⟨rfl, rfl⟩
    go_upto_region 11 with fail
    refine wp_named (fun wn => WT w0 wn a0 a1 N T 12 0 0 0 0 [97]) ((HTM.out.set 5 (.string ⟨#[97]⟩) 0 0 [97] rfl).next ((Below.refl _ _).alloc (Nat.le_refl _) _)) ?_
    clear v0 v1 v2 v3 v4 v5 c0 c1 fz HTM HB7 hza hzt
    rintro wz hT
    obtain ⟨v0, v1, v2, v3, v4, v5⟩ := hT.t.cells
    have HQ2 : Hid (Calls Tryd.prog 38 #[.string ⟨#[97]⟩] wz fun e w' => e = .returned (.tuple #[.string ⟨#[34, 97, 34]⟩, .int .i64 0]) ∧ Below wz.heap.size wz w') := Lib.hid (HQ.out wz hT.s.g)
    have HT := Lib.hid hT
    clear hT HQ
    go_wp2_with fail
    refine HQ2.out.mono ?_
    rintro e w3 ⟨rfl, hb3⟩
    clear v0 v1 v2 v3 v4 v5 HQ2
    have hT := HT.out.next hb3
    obtain ⟨v0, v1, v2, v3, v4, v5⟩ := hT.t.cells
    obtain ⟨n0, n1, n2, n3, n4, n5, hfz⟩ := hT.s.q.cells
    have f0 := hfz 0
    have f1 := hfz 1
    have f2 := hfz 2
    have f3 := hfz 3
    have f4 := hfz 4
    have f5 := hfz 5
    have hst := hT.s.store 12 0 0 0 0 [97]
    have HST := Lib.hid hst
    clear hT HT hb3 hfz hst
    go_wp2_with fail
    refine post_named (fun W => TCell W (N + 1) 25 12 0 0 0 0 [97] ∧ WG w0 W) HST.out ?_
    clear v0 v1 v2 v3 v4 v5 n0 n1 n2 n3 n4 n5 f0 f1 f2 f3 f4 f5 HST
    rintro w9 ⟨ht, hg⟩
    obtain ⟨c0, c1, c2, c3, c4, c5⟩ := ht.cells
    have HG := Lib.hid hg
    clear hg ht
    refine bodyPost_ret (v := .tuple #[.agg #[.int .i64 12, .int .i64 0, .int .i64 0, .int .i64 0, .int .u64 0, .string ⟨#[97]⟩], .string ⟨#[34, 97, 34]⟩]) (by simp [results, Tryd.results22, go_sem, *]) rfl ?_
    exact ⟨⟨⟨12, 0, 0, 0, 0, [97]⟩, [34, 97, 34]⟩, HOK.out, rfl, HG.out⟩
  · go_wp2_with fail
    refine (HB7.out _).mono ?_
    rintro e w2 ⟨rfl, rfl⟩
    go_upto_region 11 with fail
    refine wp_named (fun wn => WT w0 wn a0 a1 N T 12 0 0 0 0 [34]) ((HTM.out.set 5 (.string ⟨#[34]⟩) 0 0 [34] rfl).next ((Below.refl _ _).alloc (Nat.le_refl _) _)) ?_
    clear v0 v1 v2 v3 v4 v5 c0 c1 fz HTM HB7 hza hzt
    rintro wz hT
    obtain ⟨v0, v1, v2, v3, v4, v5⟩ := hT.t.cells
    have HQ2 : Hid (Calls Tryd.prog 38 #[.string ⟨#[34]⟩] wz fun e w' => e = .returned (.tuple #[.string ⟨#[34, 92, 34, 34]⟩, .int .i64 0]) ∧ Below wz.heap.size wz w') := Lib.hid (HQ.out wz hT.s.g)
    have HT := Lib.hid hT
    clear hT HQ
    go_wp2_with fail
    refine HQ2.out.mono ?_
    rintro e w3 ⟨rfl, hb3⟩
    clear v0 v1 v2 v3 v4 v5 HQ2
    have hT := HT.out.next hb3
    obtain ⟨v0, v1, v2, v3, v4, v5⟩ := hT.t.cells
    obtain ⟨n0, n1, n2, n3, n4, n5, hfz⟩ := hT.s.q.cells
    have f0 := hfz 0
    have f1 := hfz 1
    have f2 := hfz 2
    have f3 := hfz 3
    have f4 := hfz 4
    have f5 := hfz 5
    have hst := hT.s.store 12 0 0 0 0 [34]
    have HST := Lib.hid hst
    clear hT HT hb3 hfz hst
    go_wp2_with fail
    refine post_named (fun W => TCell W (N + 1) 25 12 0 0 0 0 [34] ∧ WG w0 W) HST.out ?_
    clear v0 v1 v2 v3 v4 v5 n0 n1 n2 n3 n4 n5 f0 f1 f2 f3 f4 f5 HST
    rintro w9 ⟨ht, hg⟩
    obtain ⟨c0, c1, c2, c3, c4, c5⟩ := ht.cells
    have HG := Lib.hid hg
    clear hg ht
    refine bodyPost_ret (v := .tuple #[.agg #[.int .i64 12, .int .i64 0, .int .i64 0, .int .i64 0, .int .u64 0, .string ⟨#[34]⟩], .string ⟨#[34, 92, 34, 34]⟩]) (by simp [results, Tryd.results22, go_sem, *]) rfl ?_
    exact ⟨⟨⟨12, 0, 0, 0, 0, [34]⟩, [34, 92, 34, 34]⟩, HOK.out, rfl, HG.out⟩
  · go_wp2_with fail
    refine (HB7.out _).mono ?_
    rintro e w2 ⟨rfl, rfl⟩
    go_upto_region 11 with fail
    refine wp_named (fun wn => WT w0 wn a0 a1 N T 12 0 0 0 0 [92]) ((HTM.out.set 5 (.string ⟨#[92]⟩) 0 0 [92] rfl).next ((Below.refl _ _).alloc (Nat.le_refl _) _)) ?_
    clear v0 v1 v2 v3 v4 v5 c0 c1 fz HTM HB7 hza hzt
    rintro wz hT
    obtain ⟨v0, v1, v2, v3, v4, v5⟩ := hT.t.cells
    have HQ2 : Hid (Calls Tryd.prog 38 #[.string ⟨#[92]⟩] wz fun e w' => e = .returned (.tuple #[.string ⟨#[34, 92, 92, 34]⟩, .int .i64 0]) ∧ Below wz.heap.size wz w') := Lib.hid (HQ.out wz hT.s.g)
    have HT := Lib.hid hT
    clear hT HQ
    go_wp2_with fail
    refine HQ2.out.mono ?_
    rintro e w3 ⟨rfl, hb3⟩
    clear v0 v1 v2 v3 v4 v5 HQ2
    have hT := HT.out.next hb3
    obtain ⟨v0, v1, v2, v3, v4, v5⟩ := hT.t.cells
    obtain ⟨n0, n1, n2, n3, n4, n5, hfz⟩ := hT.s.q.cells
    have f0 := hfz 0
    have f1 := hfz 1
    have f2 := hfz 2
    have f3 := hfz 3
    have f4 := hfz 4
    have f5 := hfz 5
    have hst := hT.s.store 12 0 0 0 0 [92]
    have HST := Lib.hid hst
    clear hT HT hb3 hfz hst
    go_wp2_with fail
    refine post_named (fun W => TCell W (N + 1) 25 12 0 0 0 0 [92] ∧ WG w0 W) HST.out ?_
    clear v0 v1 v2 v3 v4 v5 n0 n1 n2 n3 n4 n5 f0 f1 f2 f3 f4 f5 HST
    rintro w9 ⟨ht, hg⟩
    obtain ⟨c0, c1, c2, c3, c4, c5⟩ := ht.cells
    have HG := Lib.hid hg
    clear hg ht
    refine bodyPost_ret (v := .tuple #[.agg #[.int .i64 12, .int .i64 0, .int .i64 0, .int .i64 0, .int .u64 0, .string ⟨#[92]⟩], .string ⟨#[34, 92, 92, 34]⟩]) (by simp [results, Tryd.results22, go_sem, *]) rfl ?_
    exact ⟨⟨⟨12, 0, 0, 0, 0, [92]⟩, [34, 92, 92, 34]⟩, HOK.out, rfl, HG.out⟩
  · go_wp2_with fail
    refine (HB7.out _).mono ?_
    rintro e w2 ⟨rfl, rfl⟩
    go_upto_region 11 with fail
    refine wp_named (fun wn => WT w0 wn a0 a1 N T 12 0 0 0 0 [195, 169, 10]) ((HTM.out.set 5 (.string ⟨#[195, 169, 10]⟩) 0 0 [195, 169, 10] rfl).next ((Below.refl _ _).alloc (Nat.le_refl _) _)) ?_
    clear v0 v1 v2 v3 v4 v5 c0 c1 fz HTM HB7 hza hzt
    rintro wz hT
    obtain ⟨v0, v1, v2, v3, v4, v5⟩ := hT.t.cells
    have HQ2 : Hid (Calls Tryd.prog 38 #[.string ⟨#[195, 169, 10]⟩] wz fun e w' => e = .returned (.tuple #[.string ⟨#[34, 195, 169, 92, 110, 34]⟩, .int .i64 0]) ∧ Below wz.heap.size wz w') := Lib.hid (HQ.out wz hT.s.g)
    have HT := Lib.hid hT
    clear hT HQ
    go_wp2_with fail
    refine HQ2.out.mono ?_
    rintro e w3 ⟨rfl, hb3⟩
    clear v0 v1 v2 v3 v4 v5 HQ2
    have hT := HT.out.next hb3
    obtain ⟨v0, v1, v2, v3, v4, v5⟩ := hT.t.cells
    obtain ⟨n0, n1, n2, n3, n4, n5, hfz⟩ := hT.s.q.cells
    have f0 := hfz 0
    have f1 := hfz 1
    have f2 := hfz 2
    have f3 := hfz 3
    have f4 := hfz 4
    have f5 := hfz 5
    have hst := hT.s.store 12 0 0 0 0 [195, 169, 10]
    have HST := Lib.hid hst
    clear hT HT hb3 hfz hst
    go_wp2_with fail
    refine post_named (fun W => TCell W (N + 1) 25 12 0 0 0 0 [195, 169, 10] ∧ WG w0 W) HST.out ?_
    clear v0 v1 v2 v3 v4 v5 n0 n1 n2 n3 n4 n5 f0 f1 f2 f3 f4 f5 HST
    rintro w9 ⟨ht, hg⟩
    obtain ⟨c0, c1, c2, c3, c4, c5⟩ := ht.cells
    have HG := Lib.hid hg
    clear hg ht
    refine bodyPost_ret (v := .tuple #[.agg #[.int .i64 12, .int .i64 0, .int .i64 0, .int .i64 0, .int .u64 0, .string ⟨#[195, 169, 10]⟩], .string ⟨#[34, 195, 169, 92, 110, 34]⟩]) (by simp [results, Tryd.results22, go_sem, *]) rfl ?_
    exact ⟨⟨⟨12, 0, 0, 0, 0, [195, 169, 10]⟩, [34, 195, 169, 92, 110, 34]⟩, HOK.out, rfl, HG.out⟩
  · go_wp2_with fail
    refine (HB7.out _).mono ?_
    rintro e w2 ⟨rfl, rfl⟩
    go_upto_region 11 with fail
    refine wp_named (fun wn => WT w0 wn a0 a1 N T 12 0 0 0 0 [32, 120]) ((HTM.out.set 5 (.string ⟨#[32, 120]⟩) 0 0 [32, 120] rfl).next ((Below.refl _ _).alloc (Nat.le_refl _) _)) ?_
    clear v0 v1 v2 v3 v4 v5 c0 c1 fz HTM HB7 hza hzt
    rintro wz hT
    obtain ⟨v0, v1, v2, v3, v4, v5⟩ := hT.t.cells
    have HQ2 : Hid (Calls Tryd.prog 38 #[.string ⟨#[32, 120]⟩] wz fun e w' => e = .returned (.tuple #[.string ⟨#[34, 32, 120, 34]⟩, .int .i64 0]) ∧ Below wz.heap.size wz w') := Lib.hid (HQ.out wz hT.s.g)
    have HT := Lib.hid hT
    clear hT HQ
    go_wp2_with fail
    refine HQ2.out.mono ?_
    rintro e w3 ⟨rfl, hb3⟩
    clear v0 v1 v2 v3 v4 v5 HQ2
    have hT := HT.out.next hb3
    obtain ⟨v0, v1, v2, v3, v4, v5⟩ := hT.t.cells
    obtain ⟨n0, n1, n2, n3, n4, n5, hfz⟩ := hT.s.q.cells
    have f0 := hfz 0
    have f1 := hfz 1
    have f2 := hfz 2
    have f3 := hfz 3
    have f4 := hfz 4
    have f5 := hfz 5
    have hst := hT.s.store 12 0 0 0 0 [32, 120]
    have HST := Lib.hid hst
    clear hT HT hb3 hfz hst
    go_wp2_with fail
    refine post_named (fun W => TCell W (N + 1) 25 12 0 0 0 0 [32, 120] ∧ WG w0 W) HST.out ?_
    clear v0 v1 v2 v3 v4 v5 n0 n1 n2 n3 n4 n5 f0 f1 f2 f3 f4 f5 HST
    rintro w9 ⟨ht, hg⟩
    obtain ⟨c0, c1, c2, c3, c4, c5⟩ := ht.cells
    have HG := Lib.hid hg
    clear hg ht
    refine bodyPost_ret (v := .tuple #[.agg #[.int .i64 12, .int .i64 0, .int .i64 0, .int .i64 0, .int .u64 0, .string ⟨#[32, 120]⟩], .string ⟨#[34, 32, 120, 34]⟩]) (by simp [results, Tryd.results22, go_sem, *]) rfl ?_
    exact ⟨⟨⟨12, 0, 0, 0, 0, [32, 120]⟩, [34, 32, 120, 34]⟩, HOK.out, rfl, HG.out⟩
  · go_wp2_with fail
    refine (HB7.out _).mono ?_
    rintro e w2 ⟨rfl, rfl⟩
    go_upto_region 11 with fail
    refine wp_named (fun wn => WT w0 wn a0 a1 N T 12 0 0 0 0 [110, 117, 108, 108]) ((HTM.out.set 5 (.string ⟨#[110, 117, 108, 108]⟩) 0 0 [110, 117, 108, 108] rfl).next ((Below.refl _ _).alloc (Nat.le_refl _) _)) ?_
    clear v0 v1 v2 v3 v4 v5 c0 c1 fz HTM HB7 hza hzt
    rintro wz hT
    obtain ⟨v0, v1, v2, v3, v4, v5⟩ := hT.t.cells
    have HQ2 : Hid (Calls Tryd.prog 38 #[.string ⟨#[110, 117, 108, 108]⟩] wz fun e w' => e = .returned (.tuple #[.string ⟨#[34, 110, 117, 108, 108, 34]⟩, .int .i64 0]) ∧ Below wz.heap.size wz w') := Lib.hid (HQ.out wz hT.s.g)
    have HT := Lib.hid hT
    clear hT HQ
    go_wp2_with fail
    refine HQ2.out.mono ?_
    rintro e w3 ⟨rfl, hb3⟩
    clear v0 v1 v2 v3 v4 v5 HQ2
    have hT := HT.out.next hb3
    obtain ⟨v0, v1, v2, v3, v4, v5⟩ := hT.t.cells
    obtain ⟨n0, n1, n2, n3, n4, n5, hfz⟩ := hT.s.q.cells
    have f0 := hfz 0
    have f1 := hfz 1
    have f2 := hfz 2
    have f3 := hfz 3
    have f4 := hfz 4
    have f5 := hfz 5
    have hst := hT.s.store 12 0 0 0 0 [110, 117, 108, 108]
    have HST := Lib.hid hst
    clear hT HT hb3 hfz hst
    go_wp2_with fail
    refine post_named (fun W => TCell W (N + 1) 25 12 0 0 0 0 [110, 117, 108, 108] ∧ WG w0 W) HST.out ?_
    clear v0 v1 v2 v3 v4 v5 n0 n1 n2 n3 n4 n5 f0 f1 f2 f3 f4 f5 HST
    rintro w9 ⟨ht, hg⟩
    obtain ⟨c0, c1, c2, c3, c4, c5⟩ := ht.cells
    have HG := Lib.hid hg
    clear hg ht
    refine bodyPost_ret (v := .tuple #[.agg #[.int .i64 12, .int .i64 0, .int .i64 0, .int .i64 0, .int .u64 0, .string ⟨#[110, 117, 108, 108]⟩], .string ⟨#[34, 110, 117, 108, 108, 34]⟩]) (by simp [results, Tryd.results22, go_sem, *]) rfl ?_
    exact ⟨⟨⟨12, 0, 0, 0, 0, [110, 117, 108, 108]⟩, [34, 110, 117, 108, 108, 34]⟩, HOK.out, rfl, HG.out⟩
/-- word hands back a token and its spelling. -/
theorem lword_any (a0 a1 : Int) (h0 : -9223372036854775808 ≤ a0) (h1 : a0 ≤ 9223372036854775807) (g0 : -9223372036854775808 ≤ a1) (g1 : a1 ≤ 9223372036854775807) (w0 w : World) (hW : WG w0 w) (htab : Lib.TabBelow Tryd.prog w0.heap.size w0 "internal/strconv.uint64pow10" .u64 Lib.pow10Tab) : Calls Tryd.prog 22 #[.agg #[.int .i64 a0, .int .i64 a1]] w (WordPost w0) := by
  have hm := Int.emod_nonneg a0 (show (12 : Int) ≠ 0 by omega)
  have hm2 := Int.emod_lt_of_pos a0 (show (0 : Int) < 12 by omega)
  by_cases h9 : a0 % 12 < 9
  · exact word_fixed a0 a1 h0 h1 h9 w0 w hW
  by_cases e9 : a0 % 12 = 9
  · exact word_int a0 a1 h0 h1 g0 g1 e9 w0 w hW htab
  by_cases e10 : a0 % 12 = 10
  · exact word_uint a0 a1 h0 h1 g0 g1 e10 w0 w hW htab
  · exact word_text a0 a1 h0 h1 g0 g1 (by omega) w0 w hW
end Go.Proofs.YtgdhepoffnpgiaaDoor
