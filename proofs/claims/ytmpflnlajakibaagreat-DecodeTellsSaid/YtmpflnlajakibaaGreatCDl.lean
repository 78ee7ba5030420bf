/- The walk of DecodeDocs. The walk of DecodeTells. -/
import Derived.Test.YtmpflnlajakibaaGreatCD8
import Derived.Test.YtmpflnlajakibaaGreatCD9
import Derived.Deep.RegionHeld3
namespace Go.Proofs.YtmpflnlajakibaaGreat
set_option linter.unusedVariables false
set_option linter.unusedSimpArgs false
section
open Go.RowKit
def DocIs (v : Value) (D : List UInt8) (fuel : Int) (r : DO) : Prop := ∀ W, Byt W v D → Calls Tryz.prog 12 #[v, .int .i64 fuel] W (TPost W r) ∧ Calls Tryz.prog 13 #[v, .int .i64 fuel] W (TPost W r)
theorem docIs (v : Value) (D : List UInt8) (fuel : Int) (hf : fuel ≤ 1073741824) : DocIs v D fuel (docD D fuel) := by
  rintro W (⟨rfl, rfl⟩ | ⟨b, o, cap, rfl, hD⟩)
  · exact ⟨ddoc_nil W fuel, rdoc_nil W fuel⟩
  · exact ⟨ddoc_doc hD fuel hf, rdoc_doc hD fuel hf⟩
def TreeIs (v : Value) (D : List UInt8) (p q t k dp fuel : Int) (r : DO) : Prop := ∀ W, Byt W v D → Calls Tryz.prog 6 #[v, .agg #[.int .i64 p, .int .i64 q, .int .i64 t, .int .i64 k], .int .i64 dp, .int .i64 fuel] W (TPost W r) ∧
  Calls Tryz.prog 7 #[v, .agg #[.int .i64 p, .int .i64 q, .int .i64 t, .int .i64 k], .int .i64 dp, .int .i64 fuel] W (TPost W r)
theorem treeIs (v : Value) (D : List UInt8) (p q t k dp fuel : Int) (hf : fuel ≤ 1073741824) : TreeIs v D p q t k dp fuel (treeD D dp fuel p q t k) := by
  rintro W (⟨rfl, rfl⟩ | ⟨b, o, cap, rfl, hD⟩)
  · exact ⟨dtree_nil W p q t k dp fuel, rtree_nil W p q t k dp fuel⟩
  · exact ⟨dtree_doc hD p q t k dp fuel hf, rtree_doc hD p q t k dp fuel hf⟩
set_option maxHeartbeats 8000000 in
theorem docs_core (a0 : Option Addr) (len0 cap0 : Nat) (a1 : Int) (w : World) (hF : FrontOk 600 w a0 len0 cap0) :
    Calls Tryz.prog 4 #[.slice a0 len0 cap0, .int .i64 a1] w fun e w' => e = .returned (.bool true) ∧ Below w.heap.size w w' := by
  obtain ⟨k, c, L, hk, hL, hk5, hsl, hcp, hcv⟩ := hF
  have hsl' : ∀ W : World, (Instr.slice 22 (.slice a0 len0 cap0) none (some (.int .i64 (min (len0 : Int) 600))) none).run Tryz.prog W = .ok (.slice a0 k c) W := hsl
  have HCP := Lib.hid hcp
  clear hcp hk hsl hcv
  obtain ⟨m, hm⟩ : ∃ m, min a1 2000 = m := ⟨_, rfl⟩
  have HX := fun v => docIs v L m (by omega)
  generalize docD L m = r at HX
  obtain ⟨T, f, a, er⟩ := r
  have HX' := Lib.hid HX
  clear HX hL hk5
  go_enter Tryz.func4, Tryz.ntmps4
  go_upto_region 2 with fail
  refine (HCP.out _ zw).mono ?_
  rintro e w1 ⟨⟨v, rfl, hv⟩, hb1⟩
  have hz1 := hb1.size
  go_wp2_with fail
  refine ((HX'.out v _ hv).1).mono ?_
  rintro e w2 ⟨kd1, nn1, uu1, ss1, A1, ma1, ca1, B1, mb1, cb1, bs1, rfl, hr1, -, -, hb2⟩
  dsimp only
  have hz2 := hb2.size
  have HR1 := Lib.hid hr1
  clear hr1
  go_upto_region 4 with fail
  refine wp_named (fun wu => Below w.heap.size w wu ∧ Byt wu v L ∧ Below w2.heap.size w2 wu ∧ wu.heap[w2.heap.size]? = some (.cells #[.int .i64 kd1, .int .i64 nn1, .int .u64 uu1, .string ss1, .slice A1 ma1 ca1, .slice B1 mb1 cb1] 31 (0, 0))) ⟨by exact zw, hv.below zw, by exact zw, heap_alloc_new _ _⟩ ?_
  rintro wu ⟨hbu, hvu, hbu2, hY⟩
  replace HR1 := Lib.hid (HR1.out.below hbu2)
  clear hbu2 hb2 hb1 hv
  generalize w2.heap.size = Y at *
  have hzu := hbu.size
  go_wp2_with fail
  refine ((HX'.out v _ hvu).2).mono ?_
  rintro e w3 ⟨kd2, nn2, uu2, ss2, A2, ma2, ca2, B2, mb2, cb2, bs2, rfl, hr2, -, -, hb3⟩
  dsimp only
  have hz3 := hb3.size
  have HR2 := Lib.hid hr2
  replace HR1 := Lib.hid (HR1.out.below hb3)
  have hY3 := below_row hY hb3
  have hbw := hbu.trans (hb3.mono hzu)
  clear hr2 hY
  go_upto_region 5 with fail
  refine wp_named (fun wv => Below w.heap.size w wv ∧ Below w3.heap.size w3 wv ∧ wv.heap[Y]? = some (.cells #[.int .i64 kd1, .int .i64 nn1, .int .u64 uu1, .string ss1, .slice A1 ma1 ca1, .slice B1 mb1 cb1] 31 (0, 0)) ∧ wv.heap[w3.heap.size]? = some (.cells #[.int .i64 kd2, .int .i64 nn2, .int .u64 uu2, .string ss2, .slice A2 ma2 ca2, .slice B2 mb2 cb2] 31 (0, 0))) ⟨by exact zw, by exact zw, below_row hY3 zw, heap_alloc_new _ _⟩ ?_
  rintro wv ⟨hbv, hbv3, hY1, hZ1⟩
  replace HR1 := Lib.hid (HR1.out.below hbv3)
  replace HR2 := Lib.hid (HR2.out.below hbv3)
  clear hbv3 hb3 hbw hY3 hbu
  generalize w3.heap.size = Z at *
  obtain ⟨y0, y1, y2, y3, y4, y5⟩ := cells6 hY1
  obtain ⟨z0, z1, z2, z3, z4, z5⟩ := cells6 hZ1
  have HQ := Lib.hid (eqnode_true T wv _ _ _ _ _ _ _ _ _ _ _ _ _ _ HR1.out HR2.out)
  clear hY1 hZ1 HR1 HR2 HX'
  have hzv := hbv.size
  go_wp2_with fail
  refine HQ.out.mono ?_
  rintro e w4 ⟨rfl, hb4⟩
  have hz4 := hb4.size
  go_wp2_with fail
  refine (works_true _).mono ?_
  rintro e w5 ⟨rfl, hb5⟩
  go_wp2_with fail
  go_returns
  exact ⟨rfl, by exact zw⟩
theorem docs_walk (a0 : Option Addr) (len0 cap0 : Nat) (z0 : List Int) (a1 : Int) (w : World) (w0 : IsRow .u8 w a0 len0 cap0 z0) :
    Calls Tryz.prog 4 #[.slice a0 len0 cap0, .int .i64 a1] w fun e w' => e = .returned (.bool true) ∧ Below w.heap.size w w' :=
  docs_core a0 len0 cap0 a1 w (front2 600 (by omega) w0)
end
section
open Go.RowKit
theorem touch_below {w0 w w' : World} {bs : List Nat} (h : Below w0.heap.size w0 w) (ht : Touch bs w w') (hb : ∀ i ∈ bs, w0.heap.size ≤ i) : Below w0.heap.size w0 w' :=
  ⟨ht.os.trans h.os, ht.tape.trans h.tape, ht.output.trans h.output, Nat.le_trans h.size ht.size, fun i hi => (ht.block i (Nat.lt_of_lt_of_le hi h.size) (fun hx => by have := hb i hx; omega)).trans (h.block i hi)⟩
theorem cells4 {w : World} {Y : Nat} {v0 v1 v2 v3 : Value} {ty : TypeId} (h : w.heap[Y]? = some (.cells #[v0, v1, v2, v3] ty (0, 0))) :
    w.cell? ⟨Y, 0, none⟩ = some v0 ∧ w.cell? ⟨Y, 1, none⟩ = some v1 ∧ w.cell? ⟨Y, 2, none⟩ = some v2 ∧ w.cell? ⟨Y, 3, none⟩ = some v3 :=
  ⟨cell_of_row _ _ _ _ _ _ h, cell_of_row _ _ _ _ _ _ h, cell_of_row _ _ _ _ _ _ h, cell_of_row _ _ _ _ _ _ h⟩
set_option maxHeartbeats 8000000 in
set_option maxRecDepth 100000 in
theorem tells_core (a0 : Option Addr) (len0 cap0 : Nat) (p q t k d fu : Int) (w : World) (hF : FrontOk 600 w a0 len0 cap0) :
    Calls Tryz.prog 3 #[.slice a0 len0 cap0, .agg #[.int .i64 p, .int .i64 q, .int .i64 t, .int .i64 k], .agg #[.int .i64 d, .int .i64 fu]] w fun e w' => e = .returned (.bool true) ∧ Below w.heap.size w w' := by
  obtain ⟨k5, c, L, hk, hL, hk5, hsl, hcp, hcv⟩ := hF
  have hsl' : ∀ W : World, (Instr.slice 22 (.slice a0 len0 cap0) none (some (.int .i64 (min (len0 : Int) 600))) none).run Tryz.prog W = .ok (.slice a0 k5 c) W := hsl
  have HCP := Lib.hid hcp
  have HCV := Lib.hid hcv
  clear hcp hk hsl hcv
  obtain ⟨m, hm⟩ : ∃ m, min fu 2000 = m := ⟨_, rfl⟩
  have HX := fun v => treeIs v L p q t k d m (by omega)
  generalize treeD L d m p q t k = r at HX
  obtain ⟨T, f, a, er⟩ := r
  have HX' := Lib.hid HX
  clear HX hL hk5
  go_enter Tryz.func3, Tryz.ntmps3
  go_upto_region 2 with fail
  refine (HCP.out _ zw).mono ?_
  rintro e w1 ⟨⟨v, rfl, hv⟩, hb1⟩
  have hz1 := hb1.size
  simp only [zsz] at hz1
  go_upto_region 2 with fail
  refine wp_named (fun wn => Below w.heap.size w wn ∧ Byt wn v L ∧ wn.heap[w.heap.size]? = some (.cells #[.int .i64 p, .int .i64 q, .int .i64 t, .int .i64 k] 24 (0, 0)) ∧ wn.heap[w.heap.size + 1]? = some (.cells #[.int .i64 d, .int .i64 fu] 25 (0, 0))) ⟨by exact zw, hv, ?_, ?_⟩ ?_
  · exact (hb1.block _ (by simp; omega)).trans (below_row (heap_alloc_new w _) zw)
  · exact (hb1.block _ (by simp)).trans (by simpa using heap_alloc_new (w.alloc _) _)
  clear hb1 hv hz1
  generalize hG : w.heap.size = G
  rintro wn ⟨hbn, hv, hR, hD2⟩
  rw [← hG] at hbn
  have d0 : wn.cell? ⟨G + 1, 0, none⟩ = some (.int .i64 d) := cell_of_row _ _ _ _ _ _ hD2
  have d1 : wn.cell? ⟨G + 1, 1, none⟩ = some (.int .i64 fu) := cell_of_row _ _ _ _ _ _ hD2
  go_region_held3 (fun w' => w'.cell? ⟨G + 1, 0, none⟩ = some (.int .i64 d) ∧ w'.cell? ⟨G + 1, 1, none⟩ = some (.int .i64 fu)) (first | (with_reducible exact ⟨d0, d1⟩) | (refine ⟨?_, ?_⟩ <;> go_keep)) (fail)
  go_upto_region 3 with fail
  refine wp_named (fun W => Below w.heap.size w W ∧ Byt W v L ∧ W.heap[G]? = some (.cells #[.int .i64 p, .int .i64 q, .int .i64 t, .int .i64 k] 24 (0, 0))) ⟨by exact zw, hv.below zw, below_row hR zw⟩ ?_
  clear d0 d1 hbn hv hR hD2
  rintro w0 ⟨hb0, hv, hR⟩
  have hz0 := hb0.size
  obtain ⟨r0, r1, r2, r3⟩ := cells4 hR
  go_wp2_with fail
  refine ((HX'.out v _ hv).1).mono ?_
  rintro e w2 ⟨kd1, nn1, uu1, ss1, A1, ma1, ca1, B1, mb1, cb1, bs1, rfl, hr1, hnd1, hge1, hb2⟩
  dsimp only
  have hz2 := hb2.size
  have hbd1 := hr1.bd _ _ _
  have HR1 := Lib.hid hr1
  clear hr1 r0 r1 r2 r3
  go_upto_region 4 with fail
  refine wp_named (fun W => Below w0.heap.size w0 W ∧ Below w2.heap.size w2 W ∧ W.heap[w2.heap.size]? = some (.cells #[.int .i64 kd1, .int .i64 nn1, .int .u64 uu1, .string ss1, .slice A1 ma1 ca1, .slice B1 mb1 cb1] 31 (0, 0)) ∧ W.heap.size = w2.heap.size + 1) ⟨by exact zw, by exact zw, heap_alloc_new _ _, by simp⟩ ?_
  rintro wu ⟨hbu, hbu2, hY, hzu⟩
  replace HR1 := Lib.hid (HR1.out.below hbu2)
  clear hbu2 hb2
  generalize w2.heap.size = Y at *
  obtain ⟨r0, r1, r2, r3⟩ := cells4 (below_row hR hbu)
  go_wp2_with fail
  refine ((HX'.out v _ (hv.below hbu)).2).mono ?_
  rintro e w3 ⟨kd2, nn2, uu2, ss2, A2, ma2, ca2, B2, mb2, cb2, bs2, rfl, hr2, -, hge2, hb3⟩
  dsimp only
  have hz3 := hb3.size
  have HR2 := Lib.hid hr2
  replace HR1 := Lib.hid (HR1.out.below hb3)
  have hY3 := below_row hY hb3
  have hbw := hbu.trans (hb3.mono (by omega))
  clear hr2 hY r0 r1 r2 r3
  go_upto_region 5 with fail
  refine wp_named (fun W => Below w0.heap.size w0 W ∧ Below w3.heap.size w3 W ∧ W.heap[Y]? = some (.cells #[.int .i64 kd1, .int .i64 nn1, .int .u64 uu1, .string ss1, .slice A1 ma1 ca1, .slice B1 mb1 cb1] 31 (0, 0)) ∧ W.heap[w3.heap.size]? = some (.cells #[.int .i64 kd2, .int .i64 nn2, .int .u64 uu2, .string ss2, .slice A2 ma2 ca2, .slice B2 mb2 cb2] 31 (0, 0))) ⟨by exact zw, by exact zw, below_row hY3 zw, heap_alloc_new _ _⟩ ?_
  rintro wv ⟨hbv, hbv3, hY1, hZ1⟩
  replace HR1 := Lib.hid (HR1.out.below hbv3)
  replace HR2 := Lib.hid (HR2.out.below hbv3)
  clear hbv3 hb3 hbw hY3 hbu
  generalize w3.heap.size = Z at *
  obtain ⟨y0, y1, y2, y3, y4, y5⟩ := cells6 hY1
  obtain ⟨z0, z1, z2, z3, z4, z5⟩ := cells6 hZ1
  have HQ := Lib.hid (eqnode_true T wv _ _ _ _ _ _ _ _ _ _ _ _ _ _ HR1.out HR2.out)
  have hzv := hbv.size
  have hbwv := hb0.trans (hbv.mono hz0)
  go_wp2_with fail
  refine HQ.out.mono ?_
  rintro e w4 ⟨rfl, hb4⟩
  have hz4 := hb4.size
  have hbw4 := hbwv.trans (hb4.mono (by omega))
  go_wp2_with fail
  refine (eqb_true v (.slice a0 k5 c) L _ (byt_conv (hv.below (hbv.trans (hb4.mono hzv)))) (HCV.out _ hbw4)).mono ?_
  rintro e w5 ⟨rfl, rfl⟩
  go_upto_region 7 with fail
  have h04 := hbv.trans (hb4.mono hzv)
  obtain ⟨x0, x1, x2, x3, x4, x5⟩ := cells6 (below_row hY1 hb4)
  replace HR1 := Lib.hid (HR1.out.below hb4)
  replace HR2 := Lib.hid (HR2.out.below hb4)
  have hZ4 := below_row hZ1 hb4
  have HS := Lib.hid (spoil_any T w4 _ _ _ _ _ _ bs1 HR1.out hnd1)
  clear y0 y1 y2 y3 y4 y5 z0 z1 z2 z3 z4 z5 HQ hY1 hZ1 HR1 hb4 hbv hbwv
  go_wp2_with fail
  refine HS.out.mono ?_
  rintro e w6 ⟨rfl, ht6⟩
  have h06 := touch_below h04 ht6 hge1
  have hni : ∀ i ∈ bs2, i ∉ bs1 := fun i h2 h1 => by have := hge2 i h2; have := hbd1 i h1; omega
  have hZn : Z ∉ bs1 := fun h => by have := hbd1 Z h; omega
  have hZ6 := (ht6.block Z (Array.getElem?_eq_some_iff.1 hZ4).1 hZn).trans hZ4
  replace HR2 := Lib.hid (HR2.out.same _ _ _ fun i hi => ht6.block i (HR2.out.bd _ _ _ i hi) (hni i hi))
  obtain ⟨r0, r1, r2, r3⟩ := cells4 (below_row hR h06)
  have hz6 := h06.size
  clear x0 x1 x2 x3 x4 x5 HS ht6 h04 hZ4 hbw4 hni
  go_wp2_with fail
  refine ((HX'.out v _ (hv.below h06)).1).mono ?_
  rintro e w7 ⟨kd3, nn3, uu3, ss3, A3, ma3, ca3, B3, mb3, cb3, bs3, rfl, hr3, -, -, hb7⟩
  dsimp only
  have hz7 := hb7.size
  have HR3 := Lib.hid hr3
  replace HR2 := Lib.hid (HR2.out.below hb7)
  have hZ7 := below_row hZ6 hb7
  have h07 := h06.trans (hb7.mono hz6)
  clear r0 r1 r2 r3 hr3 hZ6
  go_upto_region 9 with fail
  refine wp_named (fun W => Below w0.heap.size w0 W ∧ Below w7.heap.size w7 W ∧ W.heap[Z]? = some (.cells #[.int .i64 kd2, .int .i64 nn2, .int .u64 uu2, .string ss2, .slice A2 ma2 ca2, .slice B2 mb2 cb2] 31 (0, 0)) ∧ W.heap[w7.heap.size]? = some (.cells #[.int .i64 kd3, .int .i64 nn3, .int .u64 uu3, .string ss3, .slice A3 ma3 ca3, .slice B3 mb3 cb3] 31 (0, 0))) ⟨by exact zw, by exact zw, below_row hZ7 zw, heap_alloc_new _ _⟩ ?_
  rintro wx ⟨hbx, hbx7, hY1, hZ1⟩
  replace HR2 := Lib.hid (HR2.out.below hbx7)
  replace HR3 := Lib.hid (HR3.out.below hbx7)
  clear hbx7 hb7 h07 hZ7 h06
  generalize w7.heap.size = U at *
  obtain ⟨y0, y1, y2, y3, y4, y5⟩ := cells6 hY1
  obtain ⟨z0, z1, z2, z3, z4, z5⟩ := cells6 hZ1
  have HQ := Lib.hid (eqnode_true T wx _ _ _ _ _ _ _ _ _ _ _ _ _ _ HR3.out HR2.out)
  have hbX := hb0.trans (hbx.mono hz0)
  have hzX := hbX.size
  clear hY1 hZ1 HR2 HR3 HX' hbx hb0
  go_wp2_with fail
  refine HQ.out.mono ?_
  rintro e w8 ⟨rfl, hb8⟩
  have hb8' := hbX.trans (hb8.mono hzX)
  have hz8 := hb8'.size
  go_wp2_with fail
  refine (works_true _).mono ?_
  rintro e w9 ⟨rfl, hb9⟩
  have hb9' := hb8'.trans (hb9.mono hz8)
  go_wp2_with fail
  go_returns
  exact ⟨rfl, hb9'⟩
theorem tells_walk (a0 : Option Addr) (len0 cap0 : Nat) (z0 : List Int) (p q t k d fu : Int) (w : World) (w0 : IsRow .u8 w a0 len0 cap0 z0) :
    Calls Tryz.prog 3 #[.slice a0 len0 cap0, .agg #[.int .i64 p, .int .i64 q, .int .i64 t, .int .i64 k], .agg #[.int .i64 d, .int .i64 fu]] w fun e w' => e = .returned (.bool true) ∧ Below w.heap.size w w' :=
  tells_core a0 len0 cap0 p q t k d fu w (front2 600 (by omega) w0)
end
end Go.Proofs.YtmpflnlajakibaaGreat
