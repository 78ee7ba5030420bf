/- What the rows' listed variables give the walks; a world that meets the condition. -/
import Derived.Test.YtccmhhmdenfecaaGreatDoorJb
import Derived.Test.YtccmhhmdenfecaaGreatDoorRows
import Derived.ProofKit
import Derived.LaidMore
import Derived.Lay
import Derived.Lib.LaidU8
import Derived.PinnedBridge
import Derived.Stop.LaidErr
import Derived.LaidLaws
import Derived.OpenShut
import Derived.Stop.Joined
namespace Go.Proofs.YtccmhhmdenfecaaGreatDoor
set_option linter.unusedVariables false
set_option linter.unusedSimpArgs false
open Go.ChangeShapes Go.WideShapes Go.ChangeAt Go.RowKit
theorem own : ownKnob Tryz.prog.godebug = none := by kernel_rfl
/-- The variables that lex's rows list. -/
def lxLaid : List (String × DataW Unit) := [("math/bits.deBruijn32tab", Rows.laid_math_bits_deBruijn32tab), ("math/bits.deBruijn64tab", Rows.laid_math_bits_deBruijn64tab), ("internal/strconv.uint64pow10", Rows.laid_internal_strconv_uint64pow10), ("unicode/utf8.acceptRanges", Rows.laid_unicode_utf8_acceptRanges), ("strconv.ErrRange", Rows.laid_strconv_ErrRange), ("strconv.ErrSyntax", Rows.laid_strconv_ErrSyntax), ("unicode/utf8.first", Rows.laid_unicode_utf8_first)]
theorem lx_star : "*" ++ "errors.errorString" = "*errors.errorString" := by decide
theorem lx_row (u : TypeId) (h : Tryz.prog.typeName? 3 u = some "*errors.errorString") : u = 209 :=
  typeName_ptr_named (nm := "errors.errorString") (by rw [lx_star]; kernel_rfl) (by kernel_rfl) (by decide) u (by rw [lx_star]; exact h)
theorem lx_u8 : U8Extra Tryz.prog Tryz.lays260_ren := ⟨by kernel_rfl, by kernel_rfl, by kernel_rfl, by kernel_rfl, by kernel_rfl, by kernel_rfl, by kernel_rfl⟩
theorem lx_accept : (Rows.laid_unicode_utf8_acceptRanges : DataW Unit) = Lib.acceptData := by kernel_rfl
theorem lx_first : Rows.laid_unicode_utf8_first = Lib.firstData := Pinned.utf8First_eq
theorem glb_of_laid {W : World} (h : laidMetH Tryz.prog lxLaid W) : Glb W ∧ Gb W.heap.size := by
  have hL : laidMet Tryz.prog lxLaid W := by rwa [MakeChecks.laidMetH_plain _ _ _ (by kernel_rfl)] at h
  have h3 := Lib.laidMet.reads hL (n := "unicode/utf8.first") (d := Rows.laid_unicode_utf8_first) (by simp [lxLaid])
  have h4 := Lib.laidMet.reads hL (n := "unicode/utf8.acceptRanges") (d := Rows.laid_unicode_utf8_acceptRanges) (by simp [lxLaid])
  rw [lx_first] at h3
  rw [lx_accept] at h4
  have hT : Tabs W := utf8Tabs_of_reads Tryz.lays260 lx_u8 h3 h4
  obtain ⟨a, s, hv, -, -, -⟩ := laid_sentinel hL.tail.tail.tail.tail (show Tryz.prog.globalNamed "strconv.ErrRange" = some 5 by kernel_rfl) (show (Tryz.prog.globals[5]?).map (·.type) = some 81 by kernel_rfl) Tryz.underlying81 lx_row Tryz.underlying209 Tryz.underlying211 rfl rfl Tryz.underlying9 (by kernel_rfl) (by kernel_rfl)
  have hE : W.cell? ⟨5, 0, none⟩ = some (.iface 209 (.pointer (some a))) := by
    have := World.var?_cell (show Tryz.prog.globalNamed "strconv.ErrRange" = some 5 by kernel_rfl) hv 0
    simpa using this
  refine ⟨⟨hT, _, _, hE⟩, Lib.lt_of_cell (hT.1 0 (by decide)), Lib.lt_of_cell (hT.2 0 (by decide)).1, Lib.lt_of_cell hE⟩
theorem lx_world (os : Os) (args : Array Value) : laidMetH Tryz.prog lxLaid ((World.laidAll Tryz.prog os lxLaid).forCall (fun _ _ => 0) ⟨#[], args, []⟩).memory := by
  rw [MakeChecks.laidMetH_plain _ _ _ (by kernel_rfl)]
  exact laidMet_laidAll _ (by kernel_rfl) (by kernel_rfl)
end Go.Proofs.YtccmhhmdenfecaaGreatDoor
