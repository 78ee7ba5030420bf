/- What LexBlanks' texts take over from the walks of LexAlls: tokens' rows. -/
import Derived.Test.YtgdhepoffnpgiaaDoorMa
import Derived.Test.YtgdhepoffnpgiaaDoorMc
namespace Go.Proofs.YtgdhepoffnpgiaaDoor
set_option linter.unusedVariables false
set_option linter.unusedSimpArgs false
open Go.RowKit Go.Shelf
theorem below_drew1 {B : Nat} {w w' : World} (h : Below B w w') : Below B w w'.drew := by have := below_drewN h 1; exact this
theorem setR {B : Nat} {a w : World} (h : Below B a w) {g : Nat} (hg : B ≤ g) (v0 v1 v2 v3 v4 v5 : Value) :
    Below B a ((((((w.setCell ⟨g, 0, none⟩ v0).setCell ⟨g, 1, none⟩ v1).setCell ⟨g, 2, none⟩ v2).setCell ⟨g, 3, none⟩ v3).setCell ⟨g, 4, none⟩ v4).setCell ⟨g, 5, none⟩ v5) :=
  (((((h.setCell hg v0).setCell hg v1).setCell hg v2).setCell hg v3).setCell hg v4).setCell hg v5
theorem slice1 {x : List UInt8} {m : Nat} (hm : m < x.length) (W : World) : (Instr.slice 9 (.string ⟨x.toArray⟩) (some (.int .i64 m)) (some (.int .i64 ((m : Int) + 1))) none).run Tryd.prog W = .ok (.string ⟨#[x.getD m 0]⟩) W := by
  have h := sub_run x m (m + 1) (by omega) (by omega) W
  rw [show ((m + 1 : Nat) : Int) = (m : Int) + 1 from rfl] at h
  rw [h]
  have e : (x.drop m).take (m + 1 - m) = [x.getD m 0] := by
    rw [Nat.add_sub_cancel_left, List.drop_eq_getElem_cons hm, List.take_succ_cons, List.take_zero, List.getD_eq_getElem?_getD, List.getElem?_eq_getElem hm]
    rfl
  rw [e]
/-- A token's row in a block of its own. -/
def TCell (w : World) (G : Nat) (T : TypeId) (r0 r1 r2 r3 r4 : Int) (r5 : List UInt8) : Prop := G < w.heap.size ∧ w.heap[G]? = some (.cells #[.int .i64 r0, .int .i64 r1, .int .i64 r2, .int .i64 r3, .int .u64 r4, .string ⟨r5.toArray⟩] T (0, 0))
theorem TCell.next {w w' : World} {G T : Nat} {r0 r1 r2 r3 r4 : Int} {r5 : List UInt8} (h : TCell w G T r0 r1 r2 r3 r4 r5) (hb : Below w.heap.size w w') : TCell w' G T r0 r1 r2 r3 r4 r5 := ⟨Nat.lt_of_lt_of_le h.1 hb.size, (hb.block _ h.1).trans h.2⟩
theorem TCell.new (w : World) (T : Nat) (r0 r1 r2 r3 r4 : Int) (r5 : List UInt8) : TCell (w.alloc (.cells #[.int .i64 r0, .int .i64 r1, .int .i64 r2, .int .i64 r3, .int .u64 r4, .string ⟨r5.toArray⟩] T (0, 0))) w.heap.size T r0 r1 r2 r3 r4 r5 := ⟨by simp, heap_alloc_new _ _⟩
theorem TCell.cells {w : World} {G T : Nat} {r0 r1 r2 r3 r4 : Int} {r5 : List UInt8} (h : TCell w G T r0 r1 r2 r3 r4 r5) : w.cell? ⟨G, 0, none⟩ = some (.int .i64 r0) ∧ w.cell? ⟨G, 1, none⟩ = some (.int .i64 r1) ∧ w.cell? ⟨G, 2, none⟩ = some (.int .i64 r2) ∧ w.cell? ⟨G, 3, none⟩ = some (.int .i64 r3) ∧ w.cell? ⟨G, 4, none⟩ = some (.int .u64 r4) ∧ w.cell? ⟨G, 5, none⟩ = some (.string ⟨r5.toArray⟩) :=
  ⟨cell_of_row _ _ 0 _ _ _ h.2, cell_of_row _ _ 1 _ _ _ h.2, cell_of_row _ _ 2 _ _ _ h.2, cell_of_row _ _ 3 _ _ _ h.2, cell_of_row _ _ 4 _ _ _ h.2, cell_of_row _ _ 5 _ _ _ h.2⟩
theorem flat_get6 : ∀ (l : List Tok) (j i : Nat), i < 6 → (l.flatMap tokC)[j * 6 + i]? = (l[j]?).bind fun t => (tokC t)[i]?
  | [], j, i, _ => by simp
  | t :: l, 0, i, h => by
    rw [List.flatMap_cons, Nat.zero_mul, Nat.zero_add, List.getElem?_append_left (by show i < 6; exact h)]
    rfl
  | t :: l, j + 1, i, h => by
    rw [List.flatMap_cons, List.getElem?_append_right (by show 6 ≤ _; omega)]
    have := flat_get6 l j i h
    rw [show (j + 1) * 6 + i - (tokC t).length = j * 6 + i by show _ - 6 = _; omega, this]
    rfl
/-- The cells of the j-th token of an own row. -/
theorem row_tok {B : Nat} {w : World} {T : TypeId} {A : Option Addr} {c : Nat} {l : List Tok} {j : Nat} {r0 r1 r2 r3 r4 : Int} {r5 : List UInt8} (hT : w.ownsRow B T 6 (.slice A l.length c) l.length (l.flatMap tokC)) (hj : l[j]? = some ⟨r0, r1, r2, r3, r4, r5⟩) :
    ∃ g, A = some ⟨g, 0, none⟩ ∧ l.length ≤ c ∧ c ≤ maxLen ∧ g < w.heap.size ∧ w.cell? ⟨g, j * 6, none⟩ = some (.int .i64 r0) ∧ w.cell? ⟨g, j * 6 + 1, none⟩ = some (.int .i64 r1) ∧ w.cell? ⟨g, j * 6 + 2, none⟩ = some (.int .i64 r2) ∧ w.cell? ⟨g, j * 6 + 3, none⟩ = some (.int .i64 r3) ∧ w.cell? ⟨g, j * 6 + 4, none⟩ = some (.int .u64 r4) ∧ w.cell? ⟨g, j * 6 + 5, none⟩ = some (.string ⟨r5.toArray⟩) := by
  have hlt : j < l.length := (List.getElem?_eq_some_iff.1 hj).1
  obtain ⟨g, cap, hAe, hcap, hcur⟩ : ∃ g cap, (Value.slice A l.length c) = .slice (some ⟨g, 0, none⟩) l.length cap ∧ (l.length ≤ cap ∧ cap ≤ maxLen) ∧ g < w.heap.size := by
    rcases hT.2 with ⟨-, h⟩ | ⟨g, cap, cur, h, -, h0, h1, h2, -⟩
    · omega
    · exact ⟨g, cap, h, ⟨h1, h2⟩, row_lt h0⟩
  obtain ⟨rfl, -, rfl⟩ := Value.slice.inj hAe
  have hat : ∀ i, i < 6 → w.cell? ⟨g, j * 6 + i, none⟩ = (tokC ⟨r0, r1, r2, r3, r4, r5⟩)[i]? := fun i hi => by
    rw [World.ownsRow.cellAt hT (j * 6 + i) (by omega), flat_get6 _ _ _ hi, hj]
    rfl
  exact ⟨g, rfl, hcap.1, hcap.2, hcur, hat 0 (by decide), hat 1 (by decide), hat 2 (by decide), hat 3 (by decide), hat 4 (by decide), hat 5 (by decide)⟩
end Go.Proofs.YtgdhepoffnpgiaaDoor
