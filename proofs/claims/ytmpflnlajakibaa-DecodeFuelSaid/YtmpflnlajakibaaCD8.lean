/- The walk of works: the ten small documents. -/
import Derived.Test.YtmpflnlajakibaaCDx
import Derived.Deep.RegionHeld3
namespace Go.Proofs.Ytmpflnlajakibaa
set_option linter.unusedVariables false
set_option linter.unusedSimpArgs false
open Go.RowKit
theorem cells6 {w : World} {Y : Nat} {v0 v1 v2 v3 v4 v5 : Value} {ty : TypeId} (h : w.heap[Y]? = some (.cells #[v0, v1, v2, v3, v4, v5] ty (0, 0))) :
    w.cell? ⟨Y, 0, none⟩ = some v0 ∧ w.cell? ⟨Y, 1, none⟩ = some v1 ∧ w.cell? ⟨Y, 2, none⟩ = some v2 ∧ w.cell? ⟨Y, 3, none⟩ = some v3 ∧ w.cell? ⟨Y, 4, none⟩ = some v4 ∧ w.cell? ⟨Y, 5, none⟩ = some v5 :=
  ⟨cell_of_row _ _ _ _ _ _ h, cell_of_row _ _ _ _ _ _ h, cell_of_row _ _ _ _ _ _ h, cell_of_row _ _ _ _ _ _ h, cell_of_row _ _ _ _ _ _ h, cell_of_row _ _ _ _ _ _ h⟩
theorem below_row {w w' : World} {Y : Nat} {ob : Obj} (h : w.heap[Y]? = some ob) (hb : Below w.heap.size w w') : w'.heap[Y]? = some ob := (hb.block _ (Array.getElem?_eq_some_iff.1 h).1).trans h
theorem eq_vec {w : World} {kd nn u : Int} {s : ByteArray} {A1 A2 : Option Addr} {m1 c1 m2 c2 g : Nat} {bs : List Nat} (h : NRep w vecT [.int .i64 kd, .int .i64 nn, .int .u64 u, .string s, .slice A1 m1 c1, .slice A2 m2 c2] bs)
    (hg : w.heap[g]? = some (.cells #[.int .i64 3, .int .i64 5, .int .u64 0, .string ⟨#[]⟩, .slice none 0 0, .slice none 0 0, .int .i64 3, .int .i64 6, .int .u64 0, .string ⟨#[]⟩, .slice none 0 0, .slice none 0 0] 44 (0, 0))) :
    Calls Try.prog 24 #[.agg #[.int .i64 kd, .int .i64 nn, .int .u64 u, .string s, .slice A1 m1 c1, .slice A2 m2 c2], .agg #[.int .i64 10, .int .i64 0, .int .u64 0, .string ⟨#[]⟩, .slice none 0 0, .slice (some ⟨g, 0, none⟩) 2 2]] w fun e w' => e = .returned (.bool true) ∧ Below w.heap.size w w' :=
  eqnode_true vecT w _ _ _ _ _ _ _ _ _ _ _ _ _ _ h (vec_rep hg)
theorem eq_zero {w : World} {kd nn u : Int} {s : ByteArray} {A1 A2 : Option Addr} {m1 c1 m2 c2 : Nat} {bs : List Nat} (h : NRep w zeroT [.int .i64 kd, .int .i64 nn, .int .u64 u, .string s, .slice A1 m1 c1, .slice A2 m2 c2] bs) :
    Calls Try.prog 24 #[.agg #[.int .i64 kd, .int .i64 nn, .int .u64 u, .string s, .slice A1 m1 c1, .slice A2 m2 c2], .agg #[.int .i64 0, .int .i64 0, .int .u64 0, .string ⟨#[]⟩, .slice none 0 0, .slice none 0 0]] w fun e w' => e = .returned (.bool true) ∧ Below w.heap.size w w' :=
  eqnode_true zeroT w _ _ _ _ _ _ _ _ _ _ _ _ _ _ h (zero_rep w)
set_option maxHeartbeats 16000000 in
set_option maxRecDepth 100000 in
theorem works_true (w : World) : Calls Try.prog 21 #[] w fun e w' => e = .returned (.bool true) ∧ Below w.heap.size w w' := by
  go_enter Try.func21, Try.ntmps21
  go_upto_region 2 with (go_at_call 34; refine (ex_0_97 _).mono ?_; rintro e w1 ⟨⟨rfl, hd⟩, hb1⟩)
  go_wp2_with fail
  refine (num_any _ _).mono ?_
  rintro e w2 ⟨rfl, hb2⟩
  have hz1 := hb1.size
  have hz2 := hb2.size
  simp only [zsz] at hz2
  have hk1 : w2.heap[w1.heap.size]? = some (.cells #[.string ⟨#[97]⟩, .string ⟨#[98]⟩] 9 (0, 0)) := (hb2.block _ (by simp)).trans (heap_alloc_new _ _)
  go_upto_region 3 with fail
  refine wp_named (fun wn => Below w.heap.size w wn ∧ Doc wn w.heap.size 0 17 17 exDoc ∧ wn.heap[w1.heap.size]? = some (.cells #[.string ⟨#[97]⟩, .string ⟨#[98]⟩] 9 (0, 0)) ∧ wn.heap[w2.heap.size]? = some (.cells #[.int .i64 1, .int .i64 0, .int .u64 0, .string ⟨#[]⟩, .slice none 0 0, .slice none 0 0, .int .i64 3, .int .i64 1, .int .u64 0, .string ⟨#[]⟩, .slice none 0 0, .slice none 0 0] 44 (0, 0)) ∧
      wn.heap[w2.heap.size + 1]? = some (.cells #[.int .i64 17, .int .i64 0, .int .u64 0, .string ⟨#[]⟩, .slice (some ⟨w1.heap.size, 0, none⟩) 2 2, .slice (some ⟨w2.heap.size, 0, none⟩) 2 2] 44 (0, 0))) ⟨by exact zw, Doc.below (show Doc w1 w.heap.size 0 17 17 exDoc from hd) zw, below_row hk1 zw, below_row (heap_alloc_new w2 _) zw, (by simpa using heap_alloc_new (w2.alloc _) _)⟩ ?_
  clear hb1 hb2 hk1 hd
  generalize w1.heap.size = K at *
  generalize w2.heap.size = G at *
  generalize hB0 : w.heap.size = B0
  rintro wn ⟨hbn, hD, hK, hG, hM⟩
  obtain ⟨z0, z1, z2, z3, z4, z5⟩ := cells6 hM
  go_wp2_with fail
  refine (reads_true hD 9 6 exTree (by decide) ev1 _ _ _ _ _ _ _ (ex_rep hK hG)).mono ?_
  rintro e w3 ⟨rfl, hb3⟩
  go_wp2_with fail
  refine (fails_true (hD.below hb3) 2 11 260 (by decide) ev2).mono ?_
  rintro e w4 ⟨rfl, hb4⟩
  replace hb4 := hb3.trans (hb4.mono hb3.size)
  clear z0 z1 z2 z3 z4 z5
  obtain ⟨z0, z1, z2, z3, z4, z5⟩ := cells6 (below_row hM hb4)
  go_wp2_with fail
  refine (reads_true (hD.below hb4) 3 0 exTree (by decide) ev3 _ _ _ _ _ _ _ (ex_rep (below_row hK hb4) (below_row hG hb4))).mono ?_
  rintro e w5 ⟨rfl, hb5⟩
  replace hb5 := hbn.trans ((hb4.trans (hb5.mono hb4.size)).mono (hB0 ▸ hbn.size))
  clear z0 z1 z2 z3 z4 z5 hb4 hb3 hbn hD hK hG hM hz1 hz2
  subst hB0
  go_wp2_with fail
  refine (ex_8_2 _).mono ?_
  rintro e w6 ⟨⟨rfl, hd⟩, hb6⟩
  replace hb6 := hb5.trans (hb6.mono hb5.size)
  go_wp2_with fail
  refine (fails_true hd 9 5 212 (by decide) ev4).mono ?_
  rintro e w7 ⟨rfl, hb7⟩
  replace hb7 := hb6.trans (hb7.mono hb6.size)
  clear hd hb5 hb6
  go_wp2_with fail
  refine (ex_4_3 _).mono ?_
  rintro e w8 ⟨⟨rfl, hd⟩, hb8⟩
  replace hb8 := hb7.trans (hb8.mono hb7.size)
  go_wp2_with fail
  refine (fails_true hd 9 5 214 (by decide) ev5).mono ?_
  rintro e w9 ⟨rfl, hb9⟩
  replace hb9 := hb8.trans (hb9.mono hb8.size)
  clear hd hb7 hb8
  go_wp2_with fail
  refine (ex_6_5 _).mono ?_
  rintro e w10 ⟨⟨rfl, hd⟩, hb10⟩
  replace hb10 := hb9.trans (hb10.mono hb9.size)
  go_wp2_with fail
  refine (fails_true hd 9 6 215 (by decide) ev6).mono ?_
  rintro e w11 ⟨rfl, hb11⟩
  replace hb11 := hb10.trans (hb11.mono hb10.size)
  clear hd hb9 hb10
  go_wp2_with fail
  refine (ex_7_0 _).mono ?_
  rintro e w12 ⟨⟨rfl, hd⟩, hb12⟩
  replace hb12 := hb11.trans (hb12.mono hb11.size)
  go_wp2_with fail
  refine (fails_true hd 9 7 214 (by decide) ev7).mono ?_
  rintro e w13 ⟨rfl, hb13⟩
  replace hb13 := hb12.trans (hb13.mono hb12.size)
  clear hd hb11 hb12
  go_wp2_with fail
  refine (ex_6_6 _).mono ?_
  rintro e w14 ⟨⟨rfl, hd⟩, hb14⟩
  replace hb14 := hb13.trans (hb14.mono hb13.size)
  go_wp2_with fail
  refine (fails_true hd 9 6 215 (by decide) ev8).mono ?_
  rintro e w15 ⟨rfl, hb15⟩
  replace hb15 := hb14.trans (hb15.mono hb14.size)
  clear hd hb13 hb14
  go_wp2_with fail
  refine (ex_12_12 _).mono ?_
  rintro e w16 ⟨⟨rfl, hd⟩, hb16⟩
  replace hb16 := hb15.trans (hb16.mono hb15.size)
  go_wp2_with fail
  refine (fails_true hd 9 12 20 (by decide) ev9).mono ?_
  rintro e w17 ⟨rfl, hb17⟩
  replace hb17 := hb16.trans (hb17.mono hb16.size)
  clear hd hb15 hb16
  have hzk := hb17.size
  go_upto_region 9 with fail
  refine wp_named (fun wn => Below w.heap.size w wn ∧ wn.heap[w17.heap.size]? = some (.cells #[.int .u8 2, .int .u8 5, .int .u8 6, .int .u8 4, .int .u8 4, .int .u8 4] 5 (0, 0)) ∧ wn.heap[w17.heap.size + 1]? = some (.cells #[.int .i64 5, .int .i64 1, .int .i64 10, .int .i64 1] 39 (0, 0))) ⟨by exact zw, below_row (heap_alloc_new w17 _) zw, (by simpa using heap_alloc_new (World.alloc w17 _) _)⟩ ?_
  clear hb17
  generalize w17.heap.size = B at *
  rintro wn ⟨hbn, hD, hR⟩
  replace hD := doc_row (L := [2, 5, 6, 4, 4, 4]) hD rfl (by decide)
  have z0 := cell_of_row _ _ 0 _ _ _ hR
  have z1 := cell_of_row _ _ 1 _ _ _ hR
  have z2 := cell_of_row _ _ 2 _ _ _ hR
  have z3 := cell_of_row _ _ 3 _ _ _ hR
  simp at z0 z1 z2 z3
  have HT1 := Lib.hid (fun (W : World) (hW : Below wn.heap.size wn W) => ev14 ▸ dtree_doc (hD.below hW) 5 1 10 1 2 3 (by decide))
  have HT2 := Lib.hid (fun (W : World) (hW : Below wn.heap.size wn W) => ev15 ▸ dtree_doc (hD.below hW) 5 1 10 1 1 3 (by decide))
  clear hD
  go_wp2_with fail
  refine (HT1.out _ (Below.refl _ _)).mono ?_
  rintro e wt ⟨kd, nn, u, s, A1, m1, c1, A2, m2, c2, bs1, rfl, hr1, -, -, hbt⟩
  dsimp only
  have HR1 := Lib.hid hr1
  have hzt := hbt.size
  clear z0 z1 z2 z3 hr1
  go_upto_region 10 with fail
  refine wp_named (fun wu => Below wn.heap.size wn wu ∧ Below wt.heap.size wt wu ∧ wu.heap[wt.heap.size]? = some (.cells #[.int .i64 kd, .int .i64 nn, .int .u64 u, .string s, .slice A1 m1 c1, .slice A2 m2 c2] 44 (0, 0))) ⟨by exact zw, by exact zw, heap_alloc_new _ _⟩ ?_
  rintro wu ⟨hbu, hbu2, hY⟩
  replace HR1 := Lib.hid (HR1.out.below hbu2)
  have hRu := below_row hR hbu
  have z0 := cell_of_row _ _ 0 _ _ _ hRu
  have z1 := cell_of_row _ _ 1 _ _ _ hRu
  have z2 := cell_of_row _ _ 2 _ _ _ hRu
  have z3 := cell_of_row _ _ 3 _ _ _ hRu
  simp at z0 z1 z2 z3
  clear hRu hbu2 hbt HT1
  generalize wt.heap.size = Y at *
  go_wp2_with fail
  refine (HT2.out _ hbu).mono ?_
  rintro e wt2 ⟨kd', nn', u', s', B1, p1, d1, B2, p2, d2, bs2, rfl, hr2, -, -, hbt2⟩
  dsimp only
  have HR2 := Lib.hid hr2
  have hzu := hbu.size
  have hzt2 := hbt2.size
  have hYt := below_row hY hbt2
  have hbw2 := hbu.trans (hbt2.mono hzu)
  clear z0 z1 z2 z3 hr2
  go_upto_region 11 with fail
  refine wp_named (fun wv => Below wn.heap.size wn wv ∧ Below wu.heap.size wu wv ∧ Below wt2.heap.size wt2 wv ∧ wv.heap[Y]? = some (.cells #[.int .i64 kd, .int .i64 nn, .int .u64 u, .string s, .slice A1 m1 c1, .slice A2 m2 c2] 44 (0, 0)) ∧ wv.heap[wt2.heap.size]? = some (.cells #[.int .i64 kd', .int .i64 nn', .int .u64 u', .string s', .slice B1 p1 d1, .slice B2 p2 d2] 44 (0, 0))) ⟨by exact zw, by exact zw, by exact zw, below_row hYt zw, heap_alloc_new _ _⟩ ?_
  rintro wv ⟨hbv, hbv2, hbv3, hY1, hZ1⟩
  replace HR1 := Lib.hid (HR1.out.below hbv2)
  replace HR2 := Lib.hid (HR2.out.below hbv3)
  clear hYt hbw2 hbt2 hbv2 hbv3 HT2 hY hbu hR
  replace hbv := hbn.trans (hbv.mono hbn.size)
  clear hzt hzt2 hzu hbn hzk
  generalize wt2.heap.size = Z at *
  have gY : Y < wv.heap.size := (Array.getElem?_eq_some_iff.1 hY1).1
  have gZ : Z < wv.heap.size := (Array.getElem?_eq_some_iff.1 hZ1).1
  obtain ⟨y0, y1, y2, y3, y4, y5⟩ := cells6 hY1
  obtain ⟨z0, z1, z2, z3, z4, z5⟩ := cells6 hZ1
  clear hY1 hZ1
  have HK := Lib.hid (fun (W : World) (h : Below wv.heap.size wv W) => (⟨h, (h.cell (p := ⟨Y, 0, none⟩) gY).trans y0, (h.cell (p := ⟨Y, 1, none⟩) gY).trans y1, (h.cell (p := ⟨Y, 2, none⟩) gY).trans y2, (h.cell (p := ⟨Y, 3, none⟩) gY).trans y3, (h.cell (p := ⟨Y, 4, none⟩) gY).trans y4, (h.cell (p := ⟨Y, 5, none⟩) gY).trans y5, (h.cell (p := ⟨Z, 0, none⟩) gZ).trans z0, (h.cell (p := ⟨Z, 1, none⟩) gZ).trans z1, (h.cell (p := ⟨Z, 2, none⟩) gZ).trans z2, (h.cell (p := ⟨Z, 3, none⟩) gZ).trans z3, (h.cell (p := ⟨Z, 4, none⟩) gZ).trans z4, (h.cell (p := ⟨Z, 5, none⟩) gZ).trans z5⟩ : Below wv.heap.size wv W ∧ W.cell? ⟨Y, 0, none⟩ = some (.int .i64 kd) ∧ W.cell? ⟨Y, 1, none⟩ = some (.int .i64 nn) ∧ W.cell? ⟨Y, 2, none⟩ = some (.int .u64 u) ∧ W.cell? ⟨Y, 3, none⟩ = some (.string s) ∧ W.cell? ⟨Y, 4, none⟩ = some (.slice A1 m1 c1) ∧ W.cell? ⟨Y, 5, none⟩ = some (.slice A2 m2 c2) ∧ W.cell? ⟨Z, 0, none⟩ = some (.int .i64 kd') ∧ W.cell? ⟨Z, 1, none⟩ = some (.int .i64 nn') ∧ W.cell? ⟨Z, 2, none⟩ = some (.int .u64 u') ∧ W.cell? ⟨Z, 3, none⟩ = some (.string s') ∧ W.cell? ⟨Z, 4, none⟩ = some (.slice B1 p1 d1) ∧ W.cell? ⟨Z, 5, none⟩ = some (.slice B2 p2 d2)))
  have hB := Below.refl wv.heap.size wv
  go_region_held3 (fun w' => Below wv.heap.size wv w' ∧ w'.cell? ⟨Y, 0, none⟩ = some (.int .i64 kd) ∧ w'.cell? ⟨Y, 1, none⟩ = some (.int .i64 nn) ∧ w'.cell? ⟨Y, 2, none⟩ = some (.int .u64 u) ∧ w'.cell? ⟨Y, 3, none⟩ = some (.string s) ∧ w'.cell? ⟨Y, 4, none⟩ = some (.slice A1 m1 c1) ∧ w'.cell? ⟨Y, 5, none⟩ = some (.slice A2 m2 c2) ∧ w'.cell? ⟨Z, 0, none⟩ = some (.int .i64 kd') ∧ w'.cell? ⟨Z, 1, none⟩ = some (.int .i64 nn') ∧ w'.cell? ⟨Z, 2, none⟩ = some (.int .u64 u') ∧ w'.cell? ⟨Z, 3, none⟩ = some (.string s') ∧ w'.cell? ⟨Z, 4, none⟩ = some (.slice B1 p1 d1) ∧ w'.cell? ⟨Z, 5, none⟩ = some (.slice B2 p2 d2)) (exact HK.out _ zw) ((first | (go_at_call 35; refine (num_any _ _).mono ?_; rintro e w1 ⟨rfl, hb1⟩; (have hz1 := hb1.size); (try simp only [zsz] at hz1); (have hB1 : Below wv.heap.size wv w1 := by exact zw); (have hs1 := hB1.size)) | (go_at_call 24; with_reducible refine (eq_zero (HR2.out.below zw)).mono ?_; rintro e w1 ⟨rfl, hb1⟩; (have hB1 : Below wv.heap.size wv w1 := by exact zw); (have hs1 := hB1.size)) | (go_at_call 24; refine (eq_vec (HR1.out.below zw) (heap_alloc_new _ _)).mono ?_; rintro e w1 ⟨rfl, hb1⟩; (have hB1 : Below wv.heap.size wv w1 := by exact zw); (have hs1 := hB1.size))))
  go_upto_region 13 with fail
  have hsv := hbv.size
  refine wp_named (fun wn => Below w.heap.size w wn) zw ?_
  clear y0 y1 y2 y3 y4 y5 z0 z1 z2 z3 z4 z5 HK HR1 HR2
  rintro wa hba
  have hsa := hba.size
  go_wp2_with fail
  refine (fails_true (doc_row (L := [1, 0, 40, 2, 40, 1]) (heap_alloc_new _ _) rfl (by decide)) 9 1 211 (by decide) ev10).mono ?_
  rintro e wb ⟨rfl, hbb⟩
  have hbB : Below w.heap.size w wb := by exact zw
  have hsb := hbB.size
  clear hbb hba
  go_wp2_with fail
  refine (fails_true (doc_row (L := [4, 1]) (heap_alloc_new _ _) rfl (by decide)) 9 0 210 (by decide) ev11).mono ?_
  rintro e wc ⟨rfl, hbc⟩
  have hbC : Below w.heap.size w wc := by exact zw
  have hsc := hbC.size
  clear hbc hbB
  go_wp2_with fail
  refine (fails_true (doc_row (L := [5, 12, 1]) (heap_alloc_new _ _) rfl (by decide)) 9 1 20 (by decide) ev12).mono ?_
  rintro e wd ⟨rfl, hbd⟩
  have hbD : Below w.heap.size w wd := by exact zw
  have hsd := hbD.size
  clear hbd hbC
  go_wp2_with fail
  refine (reads_true (doc_row (L := [0, 0, 40, 1]) (heap_alloc_new _ _) rfl (by decide)) 9 8 (.mk 10 0 0 [] [] []) (by decide) ev13 _ _ _ _ _ _ _ (leaf_rep _ 10 0 0 [])).mono ?_
  rintro e we ⟨rfl, hbe⟩
  have hbE : Below w.heap.size w we := by exact zw
  have hse := hbE.size
  clear hbe hbD
  go_wp2_with fail
  go_returns
  exact ⟨rfl, hbE⟩
end Go.Proofs.Ytmpflnlajakibaa
