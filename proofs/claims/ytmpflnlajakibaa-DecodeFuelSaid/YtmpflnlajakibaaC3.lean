/- The state of the reference's decoder; the walks of tell and target. -/
import Derived.Test.YtmpflnlajakibaaC12
import Derived.Test.YtmpflnlajakibaaIn
import Derived.Deep.RegionHeld3
namespace Go.Proofs.Ytmpflnlajakibaa
set_option linter.unusedVariables false
set_option linter.unusedSimpArgs false
set_option linter.unusedSectionVars false
open Go.RowKit
section
variable {w : World} {lk b o n cap : Nat} {D : List UInt8} {dp fu at_ e : Int}
theorem tgtB_le' {L : List UInt8} {p q t k lim : Int} (h : tgtB L p q t k lim = true) : loadV L p q ≤ p ∧ beginsV t k (p - loadV L p q) < lim := by
  simpa [tgtB] using h
end
end Go.Proofs.Ytmpflnlajakibaa
