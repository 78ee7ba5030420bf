/- accordionref10.Next at every offset; the walk of accordionref10.All. -/
import Derived.Test.YtccmhhmdenfecaaGreatDoorNr
import Derived.Test.YtccmhhmdenfecaaGreatDoorNm
namespace Go.Proofs.YtccmhhmdenfecaaGreatDoor
set_option linter.unusedVariables false
set_option linter.unusedSimpArgs false
open Go.RowKit Go.Shelf
theorem unq4 : Hid (∀ (s : List UInt8) (W : World), s.length ≤ 1073741824 → Calls Tryz.prog 97 #[strV s] W fun o w' => o = .returned (.tuple #[strV (unqM s).1, .int .i64 (unqM s).2.1, .int .i64 (unqM s).2.2.1, .int .i64 (unqM s).2.2.2]) ∧ Below W.heap.size W w') :=
  Lib.hid (fun s W h => by
    have := runq_any s W h
    rw [rUnq_eq] at this
    exact this)
/-- The reference's Next is the program's. -/
theorem rnext_any (l : List UInt8) (a : Int) (w : World) (hl : l.length ≤ 1073741824) : Calls Tryz.prog 57 #[strV l, .int .i64 a] w fun o w' => o = .returned (trV (nextM l a)) ∧ Below w.heap.size w w' := by
  by_cases h : a < 0 ∨ (l.length : Int) < a
  · exact rnext_range l a w hl h
  · obtain ⟨n, rfl⟩ : ∃ n : Nat, a = n := ⟨a.toNat, by omega⟩
    exact rnext_in unq4 l n w hl (by omega)
end Go.Proofs.YtccmhhmdenfecaaGreatDoor
