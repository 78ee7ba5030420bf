/- The walks of accordionlaw10.same and LexNexts. -/
import Derived.Test.YtgdhepoffnpgiaaGreatDoorNt
import Derived.Test.YtgdhepoffnpgiaaGreatDoorMb
namespace Go.Proofs.YtgdhepoffnpgiaaGreatDoor
set_option linter.unusedVariables false
set_option linter.unusedSimpArgs false
open Go.RowKit Go.Shelf
set_option maxHeartbeats 4000000 in
set_option maxRecDepth 100000 in
theorem same_any (r0 r1 r2 r3 r4 : Int) (r5 : List UInt8) (w : World) : Calls Tryz.prog 13 #[.agg #[.int .i64 r0, .int .i64 r1, .int .i64 r2, .int .i64 r3, .int .u64 r4, .string ⟨r5.toArray⟩], .agg #[.int .i64 r0, .int .i64 r1, .int .i64 r2, .int .i64 r3, .int .u64 r4, .string ⟨r5.toArray⟩]] w fun e w' => e = .returned (.bool true) ∧ Below w.heap.size w w' := by
  have e0 : (r0 == r0) = true := beq_self_eq_true _
  have e1 : (r1 == r1) = true := beq_self_eq_true _
  have e2 : (r2 == r2) = true := beq_self_eq_true _
  have e3 : (r3 == r3) = true := beq_self_eq_true _
  have e4 : (r4 == r4) = true := beq_self_eq_true _
  go_enter Tryz.func13, Tryz.ntmps13
  go_wp2_with fail
  go_ret
  exact ⟨rfl, ((Below.refl _ _).alloc (Nat.le_refl _) _).alloc (by simp) _⟩
/-- A token's row in a block of its own. -/
def TCell (w : World) (G : Nat) (T : TypeId) (r0 r1 r2 r3 r4 : Int) (r5 : List UInt8) : Prop := G < w.heap.size ∧ w.heap[G]? = some (.cells #[.int .i64 r0, .int .i64 r1, .int .i64 r2, .int .i64 r3, .int .u64 r4, .string ⟨r5.toArray⟩] T (0, 0))
theorem TCell.next {w w' : World} {G T : Nat} {r0 r1 r2 r3 r4 : Int} {r5 : List UInt8} (h : TCell w G T r0 r1 r2 r3 r4 r5) (hb : Below w.heap.size w w') : TCell w' G T r0 r1 r2 r3 r4 r5 := ⟨Nat.lt_of_lt_of_le h.1 hb.size, (hb.block _ h.1).trans h.2⟩
theorem TCell.new (w : World) (T : Nat) (r0 r1 r2 r3 r4 : Int) (r5 : List UInt8) : TCell (w.alloc (.cells #[.int .i64 r0, .int .i64 r1, .int .i64 r2, .int .i64 r3, .int .u64 r4, .string ⟨r5.toArray⟩] T (0, 0))) w.heap.size T r0 r1 r2 r3 r4 r5 := ⟨by simp, heap_alloc_new _ _⟩
theorem TCell.cells {w : World} {G T : Nat} {r0 r1 r2 r3 r4 : Int} {r5 : List UInt8} (h : TCell w G T r0 r1 r2 r3 r4 r5) : w.cell? ⟨G, 0, none⟩ = some (.int .i64 r0) ∧ w.cell? ⟨G, 1, none⟩ = some (.int .i64 r1) ∧ w.cell? ⟨G, 2, none⟩ = some (.int .i64 r2) ∧ w.cell? ⟨G, 3, none⟩ = some (.int .i64 r3) ∧ w.cell? ⟨G, 4, none⟩ = some (.int .u64 r4) ∧ w.cell? ⟨G, 5, none⟩ = some (.string ⟨r5.toArray⟩) :=
  ⟨cell_of_row _ _ 0 _ _ _ h.2, cell_of_row _ _ 1 _ _ _ h.2, cell_of_row _ _ 2 _ _ _ h.2, cell_of_row _ _ 3 _ _ _ h.2, cell_of_row _ _ 4 _ _ _ h.2, cell_of_row _ _ 5 _ _ _ h.2⟩
set_option maxHeartbeats 8000000 in
set_option maxRecDepth 100000 in
theorem nexts_any (s : List UInt8) (a : Int) (w : World) (hG : Glb w) (hB : Gb w.heap.size) : Calls Tryz.prog 4 #[strV s, .int .i64 a] w fun e w' => e = .returned (.bool true) ∧ Below w.heap.size w w' := by
  have HS1 := fun W => short_any s 600 (by omega) W
  have hx : (s.take 600).length ≤ 600 := List.length_take_le _ _
  have H0 := Lib.hid (WG.refl hG hB)
  clear hG hB
  generalize s.take 600 = x at *
  have HN := next_parts x a w w (by omega) H0.out
  have HN2 := fun W => rnext_any x a W (by omega)
  generalize nextM x a = r at *
  obtain ⟨⟨r0, r1, r2, r3, r4, r5⟩, re⟩ := r
  simp only [trV, tokV, strV] at HN HN2
  unfold strV at *
  have hee : (re == re) = true := beq_self_eq_true _
  have HS := Lib.hid HS1
  have H1 := Lib.hid HN
  have H2 := Lib.hid HN2
  have HM := Lib.hid (fun W => same_any r0 r1 r2 r3 r4 r5 W)
  clear HS1 HN HN2 hx
  go_enter Tryz.func4, Tryz.ntmps4
  go_wp2_with fail
  refine (HS.out _).mono ?_
  rintro e w9 ⟨rfl, rfl⟩
  go_wp2_with fail
  refine H1.out.mono ?_
  rintro e w1 ⟨rfl, hw1⟩
  go_upto_region 3 with fail
  refine wp_named (fun wn => WG w9 wn ∧ TCell wn w1.heap.size 36 r0 r1 r2 r3 r4 r5) ⟨hw1.next ((Below.refl _ _).alloc (Nat.le_refl _) _), TCell.new _ _ _ _ _ _ _ _⟩ ?_
  clear hw1 H1
  generalize w1.heap.size = G at *
  rintro wn ⟨hw, ht⟩
  have HW := Lib.hid (And.intro hw ht)
  clear hw ht
  go_wp2_with fail
  refine (H2.out _).mono ?_
  rintro e w2 ⟨rfl, hb2⟩
  have HW2 := Lib.hid (And.intro (HW.out.1.next hb2) (HW.out.2.next hb2))
  clear hb2 HW H2
  go_upto_region 4 with fail
  refine wp_named (fun wn => WG w9 wn ∧ TCell wn G 36 r0 r1 r2 r3 r4 r5 ∧ TCell wn w2.heap.size 39 r0 r1 r2 r3 r4 r5) ⟨HW2.out.1.next ((Below.refl _ _).alloc (Nat.le_refl _) _), HW2.out.2.next ((Below.refl _ _).alloc (Nat.le_refl _) _), TCell.new _ _ _ _ _ _ _ _⟩ ?_
  clear HW2
  generalize w2.heap.size = G2 at *
  rintro wm ⟨hw, ht, ht2⟩
  obtain ⟨a0, a1, a2, a3, a4, a5⟩ := ht.cells
  obtain ⟨b0, b1, b2, b3, b4, b5⟩ := ht2.cells
  have HW := Lib.hid hw
  clear hw ht ht2
  go_wp2_with fail
  refine (HM.out _).mono ?_
  rintro e w3 ⟨rfl, hb3⟩
  have HW3 := Lib.hid (HW.out.next hb3)
  clear hb3 HW HM a0 a1 a2 a3 a4 a5 b0 b1 b2 b3 b4 b5
  go_wp2_with fail
  refine (works_any _ _ HW3.out).mono ?_
  rintro e w4 ⟨rfl, hw4⟩
  have HW4 := Lib.hid hw4
  clear hw4
  go_wp2_with fail
  go_ret
  exact ⟨rfl, HW4.out.b⟩
end Go.Proofs.YtgdhepoffnpgiaaGreatDoor
