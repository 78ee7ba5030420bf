/- The walk of accordionlaw11.ParseReads. -/
import Derived.Test.YtccmhhmdenfecaaGreatDoorOt
import Derived.Test.YtccmhhmdenfecaaGreatDoorJn
import Derived.Test.YtccmhhmdenfecaaGreatDoorSz
namespace Go.Proofs.YtccmhhmdenfecaaGreatDoor
set_option linter.unusedVariables false
set_option linter.unusedSimpArgs false
section
open Go.RowKit Go.Shelf
theorem touch_below {w W W' : World} {bs : List Nat} (hb : Below w.heap.size w W) (ht : Touch bs W W') (hge : ∀ i ∈ bs, w.heap.size ≤ i) : Below w.heap.size w W' :=
  ⟨ht.os.trans hb.os, ht.tape.trans hb.tape, ht.output.trans hb.output, Nat.le_trans hb.size ht.size, fun i hi => (ht.block i (Nat.lt_of_lt_of_le hi hb.size) (fun hm => by have := hge i hm; omega)).trans (hb.block i hi)⟩
set_option maxHeartbeats 16000000 in
set_option maxRecDepth 100000 in
theorem reads_short (s : List UInt8) (hs : s.length ≤ 800) (s0 : List UInt8) (hs0 : s0.length ≤ 9223372036854775807) (hsd : s = s0.take 800) (w w0 : World) (hW : WP w0 w) : Calls Tryz.prog 3 #[strV s0] w fun e w' => e = .returned (.bool true) ∧ WP w0 w' := by
  have HS := Lib.hid (fun (W : World) => short_any s0 800 hs0 (by decide) W)
  have HSD := Lib.hid hsd
  have HP := Lib.hid (fun (W : World) (hB : Below w.heap.size w W) => (parse_is s (parM s).1 (parM s).2.1 (parM s).2.2 rfl w W (by omega) ⟨hB, hW.g.below hB hW.gw, hW.gw⟩))
  have HRP := Lib.hid (fun (W : World) => show Calls Tryz.prog 12 #[strV s] W fun o w' => ∃ x0 x1 x2 x3 x4 x5, o = .returned (.tuple #[.agg #[x0, x1, x2, x3, x4, x5], .int .i64 (parM s).2.1, .int .i64 (parM s).2.2]) ∧ (∃ bs, NRep w' (parM s).1 [x0, x1, x2, x3, x4, x5] bs ∧ bs.Nodup ∧ ∀ i ∈ bs, W.heap.size ≤ i) ∧ Below W.heap.size W w' from (rparse_any s W (by omega)).mono (by
    rintro o w' ⟨⟨v, rfl, x0, x1, x2, x3, x4, x5, bs, rfl, hN, hnd, hge⟩, hb⟩
    exact ⟨x0, x1, x2, x3, x4, x5, rfl, ⟨bs, hN, hnd, hge⟩, hb⟩))
  have HW := Lib.hid hW
  generalize parM s = r at *
  obtain ⟨T, at_, e⟩ := r
  dsimp only at HP HRP
  clear hsd hW
  have qa : (at_ != at_) = false := by simp
  have qe : (e != e) = false := by simp
  go_enter Tryz.func3, Tryz.ntmps3
  go_wp2_with fail
  refine (HS.out _).mono ?_
  rintro o w1 ⟨rfl, rfl⟩
  rw [← HSD.out]
  clear HS HSD
  unfold strV at HP HRP ⊢
  go_wp2_with fail
  refine (HP.out _ (Below.refl _ _)).mono ?_
  rintro o w1 ⟨x0, x1, x2, x3, x4, x5, rfl, ⟨bs, hN, hnd, hge⟩, hb1⟩
  obtain ⟨kd1, nn1, uu1, s1, B1, n1, d1, B2, n2, d2, rfl, rfl, rfl, rfl, rfl, rfl⟩ := hN.form2
  have hba := Below.alloc (Below.refl w1.heap.size w1) (Nat.le_refl _) (.cells #[.int .i64 kd1, .int .i64 nn1, .int .u64 uu1, .string s1, .slice B1 n1 d1, .slice B2 n2 d2] 27)
  have hX := heap_alloc_new w1 (.cells #[.int .i64 kd1, .int .i64 nn1, .int .u64 uu1, .string s1, .slice B1 n1 d1, .slice B2 n2 d2] 27)
  have H2 := Lib.hid (And.intro (hb1.trans (hba.mono hb1.size)) (And.intro (hN.below hba) (And.intro hnd (And.intro hge hX))))
  have hbsz := NRep.bd _ _ _ hN
  have HBS := Lib.hid hbsz
  clear hba hX hN hnd hge hb1 hbsz
  go_upto_region 3 with fail
  refine wp_named (fun w2 => Below w.heap.size w w2 ∧ NRep w2 T [.int .i64 kd1, .int .i64 nn1, .int .u64 uu1, .string s1, .slice B1 n1 d1, .slice B2 n2 d2] bs ∧ bs.Nodup ∧ (∀ i ∈ bs, w.heap.size ≤ i) ∧ w2.heap[w1.heap.size]? = some (.cells #[.int .i64 kd1, .int .i64 nn1, .int .u64 uu1, .string s1, .slice B1 n1 d1, .slice B2 n2 d2] 27 (0, 0))) H2.out ?_
  clear H2
  generalize w1.heap.size = X at *
  rintro w2 ⟨hb2, hN2, hnd2, hge2, hX2⟩
  have HB2 := Lib.hid hb2
  have HN2 := Lib.hid (And.intro hN2 (And.intro hnd2 (And.intro hge2 hX2)))
  clear hb2 hN2 hnd2 hge2 hX2
  go_wp2_with fail
  refine (HRP.out w2).mono ?_
  clear HRP
  rintro o w3 ⟨x0, x1, x2, x3, x4, x5, rfl, ⟨bt, hN, hnd, hge⟩, hb3⟩
  obtain ⟨kd2, nn2, uu2, s2, D1, p1, f1, D2, p2, f2, rfl, rfl, rfl, rfl, rfl, rfl⟩ := hN.form2
  have hba := Below.alloc (Below.refl w3.heap.size w3) (Nat.le_refl _) (.cells #[.int .i64 kd2, .int .i64 nn2, .int .u64 uu2, .string s2, .slice D1 p1 f1, .slice D2 p2 f2] 27)
  have hb23 := hb3.trans (hba.mono hb3.size)
  have hY := heap_alloc_new w3 (.cells #[.int .i64 kd2, .int .i64 nn2, .int .u64 uu2, .string s2, .slice D1 p1 f1, .slice D2 p2 f2] 27)
  have H4 := Lib.hid (And.intro (HB2.out.trans (hb23.mono HB2.out.size)) (And.intro (HN2.out.1.below hb23) (And.intro (hN.below hba) (And.intro (show ∀ i ∈ bt, i ∉ bs from fun i hi hm => by have h1 := hge i hi; have h2 := NRep.bd _ _ _ HN2.out.1 i hm; omega) (And.intro ((hb23.block X (Array.getElem?_eq_some_iff.1 HN2.out.2.2.2).1).trans HN2.out.2.2.2) hY)))))
  have HND := Lib.hid (And.intro HN2.out.2.1 HN2.out.2.2.1)
  have HYB := Lib.hid (show ∀ i ∈ bs, i < w3.heap.size from fun i hm => by have h2 := NRep.bd _ _ _ HN2.out.1 i hm; have := hb3.size; omega)
  clear hba hb23 hY hN hnd hge hb3 HN2 HB2 HBS
  go_upto_region 4 with fail
  refine wp_named (fun w4 => Below w.heap.size w w4 ∧ NRep w4 T [.int .i64 kd1, .int .i64 nn1, .int .u64 uu1, .string s1, .slice B1 n1 d1, .slice B2 n2 d2] bs ∧ NRep w4 T [.int .i64 kd2, .int .i64 nn2, .int .u64 uu2, .string s2, .slice D1 p1 f1, .slice D2 p2 f2] bt ∧ (∀ i ∈ bt, i ∉ bs) ∧ w4.heap[X]? = some (.cells #[.int .i64 kd1, .int .i64 nn1, .int .u64 uu1, .string s1, .slice B1 n1 d1, .slice B2 n2 d2] 27 (0, 0)) ∧ w4.heap[w3.heap.size]? = some (.cells #[.int .i64 kd2, .int .i64 nn2, .int .u64 uu2, .string s2, .slice D1 p1 f1, .slice D2 p2 f2] 27 (0, 0))) H4.out ?_
  clear H4
  generalize w3.heap.size = Y at *
  rintro w4 ⟨hb4, hNa, hNb, hdis, hX4, hY4⟩
  obtain ⟨y0, y1, y2, y3, y4, y5⟩ := cells6 hX4
  obtain ⟨u0, u1, u2, u3, u4, u5⟩ := cells6 hY4
  have HR1 := Lib.hid hNa.reads
  have HR2 := Lib.hid hNb.reads
  have H4 := Lib.hid (And.intro hb4 (And.intro hNa (And.intro hNb (And.intro hdis (And.intro hX4 hY4)))))
  clear hb4 hNa hNb hdis hX4 hY4
  go_wp2_with fail
  refine (eqnodeR_true T w4 _ _ _ _ _ _ _ _ _ _ _ _ _ zw HR1.out HR2.out).mono ?_
  rintro o w5 ⟨rfl, hb5⟩
  obtain ⟨hb4, hNa, hNb, hdis, hX4, hY4⟩ := H4.out
  have hX5 := (hb5.block X (Array.getElem?_eq_some_iff.1 hX4).1).trans hX4
  have hY5 := (hb5.block Y (Array.getElem?_eq_some_iff.1 hY4).1).trans hY4
  have H5 := Lib.hid (And.intro (hb4.trans (hb5.mono hb4.size)) (And.intro (hNa.below hb5) (And.intro (hNb.below hb5) (And.intro hdis hY5))))
  clear hb4 hNa hNb hdis hX4 hY4 hb5 y0 y1 y2 y3 y4 y5 u0 u1 u2 u3 u4 u5 H4 HR1 HR2
  obtain ⟨y0, y1, y2, y3, y4, y5⟩ := cells6 hX5
  clear hX5 hY5
  have HSP := Lib.hid (spoil_any T w5 _ _ _ _ _ _ bs H5.out.2.1 HND.out.1)
  go_wp2_with fail
  refine HSP.out.mono ?_
  clear HSP
  rintro o w6 ⟨rfl, ht6⟩
  have hb6 := touch_below H5.out.1 ht6 HND.out.2
  have hN6 := NRep.same _ _ _ H5.out.2.2.1 fun i hi => ht6.block i (NRep.bd _ _ _ H5.out.2.2.1 i hi) (H5.out.2.2.2.1 i hi)
  have hY6 := (ht6.block Y (Array.getElem?_eq_some_iff.1 H5.out.2.2.2.2).1 (fun hm => by have := HYB.out Y hm; omega)).trans H5.out.2.2.2.2
  have H6 := Lib.hid (And.intro hb6 (And.intro hN6 hY6))
  clear hb6 hN6 hY6 ht6 H5 y0 y1 y2 y3 y4 y5 HND HYB
  go_wp2_with fail
  refine (HP.out w6 H6.out.1).mono ?_
  rintro o w7 ⟨x0, x1, x2, x3, x4, x5, rfl, ⟨bv, hN, hnd, hge⟩, hb7⟩
  obtain ⟨kd3, nn3, uu3, s3, E1, q1, g1, E2, q2, g2, rfl, rfl, rfl, rfl, rfl, rfl⟩ := hN.form2
  have hba := Below.alloc (Below.refl w7.heap.size w7) (Nat.le_refl _) (.cells #[.int .i64 kd3, .int .i64 nn3, .int .u64 uu3, .string s3, .slice E1 q1 g1, .slice E2 q2 g2] 27)
  have hb67 := hb7.trans (hba.mono hb7.size)
  have hZ := heap_alloc_new w7 (.cells #[.int .i64 kd3, .int .i64 nn3, .int .u64 uu3, .string s3, .slice E1 q1 g1, .slice E2 q2 g2] 27)
  have H8 := Lib.hid (And.intro (H6.out.1.trans (hb67.mono H6.out.1.size)) (And.intro (hN.below hba) (And.intro (H6.out.2.1.below hb67) (And.intro hZ ((hb67.block Y (Array.getElem?_eq_some_iff.1 H6.out.2.2).1).trans H6.out.2.2)))))
  clear hba hb67 hZ hN hnd hge hb7 H6 HP
  go_upto_region 8 with fail
  refine wp_named (fun w8 => Below w.heap.size w w8 ∧ NRep w8 T [.int .i64 kd3, .int .i64 nn3, .int .u64 uu3, .string s3, .slice E1 q1 g1, .slice E2 q2 g2] bv ∧ NRep w8 T [.int .i64 kd2, .int .i64 nn2, .int .u64 uu2, .string s2, .slice D1 p1 f1, .slice D2 p2 f2] bt ∧ w8.heap[w7.heap.size]? = some (.cells #[.int .i64 kd3, .int .i64 nn3, .int .u64 uu3, .string s3, .slice E1 q1 g1, .slice E2 q2 g2] 27 (0, 0)) ∧ w8.heap[Y]? = some (.cells #[.int .i64 kd2, .int .i64 nn2, .int .u64 uu2, .string s2, .slice D1 p1 f1, .slice D2 p2 f2] 27 (0, 0))) H8.out ?_
  clear H8
  generalize w7.heap.size = Z at *
  rintro w8 ⟨hb8, hNa, hNb, hX8, hY8⟩
  obtain ⟨y0, y1, y2, y3, y4, y5⟩ := cells6 hX8
  obtain ⟨u0, u1, u2, u3, u4, u5⟩ := cells6 hY8
  have HR1 := Lib.hid hNa.reads
  have HR2 := Lib.hid hNb.reads
  have HW8 := Lib.hid (HW.out.next hb8)
  clear hb8 hNa hNb hX8 hY8
  go_wp2_with fail
  refine (eqnodeR_true T w8 _ _ _ _ _ _ _ _ _ _ _ _ _ zw HR1.out HR2.out).mono ?_
  rintro o w9 ⟨rfl, hb9⟩
  have HW9 := Lib.hid (HW8.out.next hb9)
  clear hb9 y0 y1 y2 y3 y4 y5 u0 u1 u2 u3 u4 u5 HR1 HR2
  go_wp2_with fail
  refine (works_any w0 _ HW9.out).mono ?_
  rintro o w10 ⟨rfl, h10⟩
  have H10 := Lib.hid h10
  clear h10
  go_wp2_with fail
  go_returns
  exact ⟨rfl, H10.out⟩
theorem reads_wp (s : List UInt8) (hs : s.length ≤ 9223372036854775807) (w0 w : World) (hW : WP w0 w) : Calls Tryz.prog 3 #[strV s] w fun e w' => e = .returned (.bool true) ∧ WP w0 w' :=
  reads_short (s.take 800) (by rw [List.length_take]; omega) s hs rfl w w0 hW
theorem reads_any (s : List UInt8) (hs : s.length ≤ 9223372036854775807) (w : World) (hG : Glb w) (hB : Gb w.heap.size) : Calls Tryz.prog 3 #[strV s] w fun e w' => e = .returned (.bool true) ∧ Below w.heap.size w w' :=
  (reads_wp s hs w w (WP.refl hG hB)).mono fun _ _ h => ⟨h.1, h.2.b⟩
end
end Go.Proofs.YtccmhhmdenfecaaGreatDoor
