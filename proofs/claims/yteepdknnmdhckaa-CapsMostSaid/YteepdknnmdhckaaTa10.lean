/-
  The table: judge, what it refuses (chapter 18).
-/
import Derived.Test.YteepdknnmdhckaaTa9
namespace Go.Proofs.Yteepdknnmdhckaa
open Go Go.RowKit Go.MuLone
set_option linter.unusedVariables false
set_option linter.unusedSimpArgs false
set_option maxRecDepth 100000
set_option maxHeartbeats 2000000
end Go.Proofs.Yteepdknnmdhckaa
