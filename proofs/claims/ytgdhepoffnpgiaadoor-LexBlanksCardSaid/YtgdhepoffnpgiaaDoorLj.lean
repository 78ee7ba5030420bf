/- The walk of (*strings.Builder).String on the builder in utf.reader's field. -/
import Derived.Test.YtgdhepoffnpgiaaDoorLb
import Derived.Shelf.RegionOpen
namespace Go.Proofs.YtgdhepoffnpgiaaDoor
set_option linter.unusedVariables false
set_option linter.unusedSimpArgs false
set_option linter.unusedSectionVars false
open Go.RowKit Go.Shelf
section
variable {B R : Nat} {w : World} {Q : UQ} {addr buf : Value}
theorem cellsB : Tryd.prog.cellsOf 5 = 1 := by kernel_rfl
theorem unsafe_none (W : World) (q : Option Addr) : (Builtin.unsafeString_ #[133, 3] 9 #[.pointer q, .int .i64 0]).run Tryd.prog W = .ok (.string .empty) W :=
  Lib.run_unsafeString_none W _ _ _ q
set_option maxHeartbeats 4000000 in
set_option maxRecDepth 100000 in
theorem string_some (h0 : Q.out ≠ []) (h : UOk B w R Q addr buf) :
    Calls Tryd.prog 66 #[.pointer (some ⟨R, 1, none⟩)] w fun e w' => e = .returned (strV Q.out) ∧ Below B w w' := by
  have hl0 : Q.out.length ≠ 0 := by simpa using h0
  obtain ⟨g, cap, cur, rfl, hbg, hg, hnc, hcm, hcs, htake⟩ : ∃ g cap cur, buf = .slice (some ⟨g, 0, none⟩) Q.out.length cap ∧ B ≤ g ∧ w.heap[g]? = some (.cells cur 5 (0, 0)) ∧ Q.out.length ≤ cap ∧ cap ≤ maxLen ∧ cur.size = cap * 1 ∧ cur.toList.take (Q.out.length * 1) = Lib.byteCells Q.out := by
    rcases h.own.2 with ⟨_, hz⟩ | ⟨g, cap, cur, hv, r⟩
    · exact absurd hz hl0
    · exact ⟨g, cap, cur, hv, r⟩
  have c2 : w.drew.cell? ⟨R, 2, none⟩ = some (.slice (some ⟨g, 0, none⟩) Q.out.length cap) := (cellR h.row).2.2.1
  have hSD : (Builtin.unsafeSliceData_ #[90] 133 #[.slice (some ⟨g, 0, none⟩) Q.out.length cap]).run Tryd.prog w.drew = .ok (.pointer (some ⟨g, 0, none⟩)) w.drew :=
    Lib.run_unsafeSliceData_row _ _ _ _ _ _ (by omega)
  have hUS : (Builtin.unsafeString_ #[133, 3] 9 #[.pointer (some ⟨g, 0, none⟩), .int .i64 Q.out.length]).run Tryd.prog w.drew = .ok (.string ⟨Q.out.toArray⟩) (w.drew.freeze ⟨g, 0, none⟩ Q.out.length) := by
    refine Lib.run_unsafeString_row w.drew 133 3 9 5 Tryd.underlying133 cellsB g cur.size (by have hg' : w.drew.heap[g]? = some (.cells cur 5 (0, 0)) := hg; simp [World.shape?, hg']) Q.out h0 (by omega) (by unfold maxLen at hcm; omega) ?_
    intro j x hx
    have := h.own.cells (g := g) rfl j (.int .u8 x.toNat) (by simp [Lib.byteCells, hx])
    exact this
  clear h hcs htake hg
  unfold strV
  go_enter Tryd.func66, Tryd.ntmps66
  go_wp2
  go_region
  all_goals (go_wp2; go_ret; exact ⟨rfl, Lib.below_freeze (Below.drew (Below.refl B w)) (p := ⟨g, 0, none⟩) hbg _⟩)
set_option maxHeartbeats 4000000 in
set_option maxRecDepth 100000 in
theorem string_none (h0 : Q.out = []) (h : UOk B w R Q addr buf) :
    Calls Tryd.prog 66 #[.pointer (some ⟨R, 1, none⟩)] w fun e w' => e = .returned (strV Q.out) ∧ Below B w w' := by
  have hUS := unsafe_none
  have hRw := h.lt
  have hBR := h.hB
  have hBw : B ≤ w.heap.size := by omega
  have c2 := (cellR h.row).2.2.1
  rw [h0]
  unfold strV
  rcases h.own.2 with ⟨rfl, -⟩ | ⟨g, cap, cur, rfl, hbg, hg, -, -, -, -⟩
  · have c1 : w.drew.cell? ⟨R, 2, none⟩ = some (.slice none 0 0) := c2
    have hSD : (Builtin.unsafeSliceData_ #[90] 133 #[.slice none 0 0]).run Tryd.prog w.drew = .ok (.pointer none) w.drew := rfl
    clear c2 h h0
    go_enter Tryd.func66, Tryd.ntmps66
    go_wp2
    go_region
    all_goals (go_wp2; go_ret; exact ⟨rfl, Below.drew (Below.refl B w)⟩)
  · rw [h0, List.length_nil] at c2
    by_cases hc0 : cap = 0
    · subst hc0
      have c1 : w.drew.cell? ⟨R, 2, none⟩ = some (.slice (some ⟨g, 0, none⟩) 0 0) := c2
      have hSD : (Builtin.unsafeSliceData_ #[90] 133 #[.slice (some ⟨g, 0, none⟩) 0 0]).run Tryd.prog w.drew = .ok (.pointer (some ⟨w.drew.heap.size, 0, none⟩)) (w.drew.alloc (.view ⟨g, 0, none⟩ 5)) :=
        Lib.run_unsafeSliceData_zero w.drew _ _ 5 Tryd.underlying133 ⟨g, 0, none⟩ 0 (5, cur.size) (by have hg' : w.drew.heap[g]? = some (.cells cur 5 (0, 0)) := hg; simp [World.shape?, hg'])
      have hrow := (cellR ((Lib.alloc_old w.drew (.view ⟨g, 0, none⟩ 5) R hRw).trans h.row)).2.2.1
      rw [h0, List.length_nil] at hrow
      have c3 : (w.alloc (.view ⟨g, 0, none⟩ 5)).drew.cell? ⟨R, 2, none⟩ = some (.slice (some ⟨g, 0, none⟩) 0 0) := hrow
      clear h hg h0
      go_enter Tryd.func66, Tryd.ntmps66
      go_wp2
      go_region
      all_goals (go_wp2; go_ret; exact ⟨rfl, (Below.drew (Below.refl B w)).alloc hBw _⟩)
    · have c1 : w.drew.cell? ⟨R, 2, none⟩ = some (.slice (some ⟨g, 0, none⟩) 0 cap) := c2
      have hSD : (Builtin.unsafeSliceData_ #[90] 133 #[.slice (some ⟨g, 0, none⟩) 0 cap]).run Tryd.prog w.drew = .ok (.pointer (some ⟨g, 0, none⟩)) w.drew :=
        Lib.run_unsafeSliceData_row _ _ _ _ _ _ hc0
      clear hc0 h hg h0
      go_enter Tryd.func66, Tryd.ntmps66
      go_wp2
      go_region
      all_goals (go_wp2; go_ret; exact ⟨rfl, Below.drew (Below.refl B w)⟩)
theorem string_any (h : UOk B w R Q addr buf) : Calls Tryd.prog 66 #[.pointer (some ⟨R, 1, none⟩)] w fun e w' => e = .returned (strV Q.out) ∧ Below B w w' := by
  by_cases h0 : Q.out = []
  · exact string_none h0 h
  · exact string_some h0 h
end
end Go.Proofs.YtgdhepoffnpgiaaDoor
