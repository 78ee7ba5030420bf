/- The walks of the reference's numbers. The kinds. -/
import Derived.Test.YtmpflnlajakibaaC5
namespace Go.Proofs.Ytmpflnlajakibaa
set_option linter.unusedVariables false
set_option linter.unusedSimpArgs false
open Go.RowKit
end Go.Proofs.Ytmpflnlajakibaa
