/- accordionlaw11.says and fails say yes. -/
import Derived.Test.YtccmhhmdenfecaaGreatDoorJk
import Derived.Test.YtccmhhmdenfecaaGreatDoorJe
namespace Go.Proofs.YtccmhhmdenfecaaGreatDoor
set_option linter.unusedVariables false
set_option linter.unusedSimpArgs false
section
open Go.RowKit
/-- A world behind another; what package variables hold stands. -/
structure WP (w0 w : World) : Prop where
  b : Below w0.heap.size w0 w
  g : Glb w
  gb : Gb w0.heap.size
theorem WP.refl {w : World} (hG : Glb w) (hB : Gb w.heap.size) : WP w w := ⟨Below.refl _ _, hG, hB⟩
theorem WP.next {w0 w w1 : World} (h : WP w0 w) (hb : Below w.heap.size w w1) : WP w0 w1 := ⟨h.b.trans (hb.mono h.b.size), h.g.below hb (h.gb.mono h.b.size), h.gb⟩
theorem WP.gw {w0 w : World} (h : WP w0 w) : Gb w.heap.size := h.gb.mono h.b.size
/-- Parse, the result known. -/
theorem parse_is (s : List UInt8) (T : DT) (a e : Int) (hP : parM s = (T, a, e)) (w0 w : World) (hl : s.length ≤ 1073741824) (hW : WP w0 w) :
    Calls Tryz.prog 11 #[strV s] w fun o w' => ∃ x0 x1 x2 x3 x4 x5, o = .returned (.tuple #[.agg #[x0, x1, x2, x3, x4, x5], .int .i64 a, .int .i64 e]) ∧ (∃ bs, NRep w' T [x0, x1, x2, x3, x4, x5] bs ∧ bs.Nodup ∧ ∀ i ∈ bs, w.heap.size ≤ i) ∧ Below w.heap.size w w' := by
  refine (parse_any s w hl hW.g hW.gw).mono ?_
  rintro o w' h
  unfold ParPost at h
  rw [hP] at h
  obtain ⟨⟨v, rfl, x0, x1, x2, x3, x4, x5, bs, rfl, hN, hnd, hge⟩, hb⟩ := h
  exact ⟨x0, x1, x2, x3, x4, x5, rfl, ⟨bs, hN, hnd, hge⟩, hb⟩
set_option maxHeartbeats 8000000 in
set_option maxRecDepth 100000 in
theorem says_yes (s : List UInt8) (T : DT) (x0 x1 x2 x3 x4 x5 : Value) (hP : parM s = (T, 0, 0)) (w0 w : World) (hl : s.length ≤ 1073741824) (hx : RRep w T [x0, x1, x2, x3, x4, x5]) (hW : WP w0 w) :
    Calls Tryz.prog 16 #[strV s, .agg #[x0, x1, x2, x3, x4, x5]] w fun e w' => e = .returned (.bool true) ∧ WP w0 w' := by
  obtain ⟨kd, nn, uu, ss, A1, m1, c1, A2, m2, c2, hcs⟩ := hx.cs6
  simp only [List.cons.injEq, and_true] at hcs
  obtain ⟨rfl, rfl, rfl, rfl, rfl, rfl⟩ := hcs
  have HP := Lib.hid (fun (W : World) (hB : Below w.heap.size w W) => parse_is s T 0 0 hP w W hl ⟨hB, hW.g.below hB hW.gw, hW.gw⟩)
  have HX := Lib.hid hx
  have HW := Lib.hid hW
  clear hP hx hW
  go_enter Tryz.func16, Tryz.ntmps16
  go_wp2_with fail
  refine (HP.out _ zw).mono ?_
  rintro o w1 ⟨y0, y1, y2, y3, y4, y5, rfl, ⟨bs, hN, hnd, hge⟩, hb⟩
  obtain ⟨kd1, nn1, uu1, s1, B1, n1, d1, B2, n2, d2, rfl, rfl, rfl, rfl, rfl, rfl⟩ := hN.form2
  have hb01 : Below w.heap.size w w1 := (Below.alloc (Below.refl _ w) (Nat.le_refl _) _).trans (hb.mono (by simp))
  have hbox : w1.heap[w.heap.size]? = some (.cells #[.int .i64 kd, .int .i64 nn, .int .u64 uu, .string ss, .slice A1 m1 c1, .slice A2 m2 c2] 27 (0, 0)) := (hb.block _ (by simp)).trans (heap_alloc_new w _)
  obtain ⟨y0, y1, y2, y3, y4, y5⟩ := cells6 hbox
  have hlt : w.heap.size < w1.heap.size := (Array.getElem?_eq_some_iff.1 hbox).1
  have HR1 := Lib.hid (hN.reads)
  have HR2 := Lib.hid (HX.out.below hb01)
  have HB := Lib.hid hb01
  clear hb hbox hb01 hN hnd hge HX HP
  go_wp2_with fail
  refine (eqnodeR_true T w1 _ _ _ _ _ _ _ _ _ _ _ _ _ zw HR1.out HR2.out).mono ?_
  rintro e w2 ⟨rfl, hb2⟩
  have HB2 := Lib.hid hb2
  clear hb2
  go_wp2_with fail
  go_returns
  exact ⟨rfl, HW.out.next (by have h1 := HB.out; have h2 := HB2.out; have h3 := h1.size; exact zw)⟩
theorem zero_reads (w : World) : RRep w zeroD zC := by
  refine NRep.reads _ _ [] ?_
  unfold zeroD zC
  rw [NRep]
  exact ⟨.slice none 0 0, .slice none 0 0, [], [], rfl, World.ownsRow_nil _ _ _ _, World.ownsRow_nil _ _ _ _, by rw [NReps]; exact ⟨rfl, rfl⟩, rfl⟩
set_option maxHeartbeats 8000000 in
set_option maxRecDepth 100000 in
theorem fails_yes (s : List UInt8) (a e : Int) (hP : parM s = (zeroD, a, e)) (w0 w : World) (hl : s.length ≤ 1073741824) (hW : WP w0 w) :
    Calls Tryz.prog 19 #[strV s, .int .i64 a, .int .i64 e] w fun o w' => o = .returned (.bool true) ∧ WP w0 w' := by
  have HP := Lib.hid (parse_is s zeroD a e hP w0 w hl hW)
  have HW := Lib.hid hW
  have ea : (a == a) = true := by simp
  have ee : (e == e) = true := by simp
  clear hP hW
  go_enter Tryz.func19, Tryz.ntmps19
  go_wp2_with fail
  refine HP.out.mono ?_
  rintro o w1 ⟨y0, y1, y2, y3, y4, y5, rfl, ⟨bs, hN, hnd, hge⟩, hb⟩
  obtain ⟨kd1, nn1, uu1, s1, B1, n1, d1, B2, n2, d2, rfl, rfl, rfl, rfl, rfl, rfl⟩ := hN.form2
  have HR1 := Lib.hid (hN.reads)
  have HR2 := Lib.hid (zero_reads w1)
  have HB := Lib.hid hb
  clear hb hN hnd hge HP
  go_wp2_with fail
  refine (eqnodeR_true zeroD w1 _ _ _ _ _ _ _ _ _ _ _ _ _ zw HR1.out HR2.out).mono ?_
  rintro e w2 ⟨rfl, hb2⟩
  have HB2 := Lib.hid hb2
  clear hb2
  go_wp2_with fail
  go_returns
  exact ⟨rfl, HW.out.next (by have h1 := HB.out; have h2 := HB2.out; have h3 := h1.size; exact zw)⟩
end
end Go.Proofs.YtccmhhmdenfecaaGreatDoor
