/- Proved here: closed facts of the row of OutboxMarks; no condition. -/
import Derived.Test.YtbpeidblbebjpaaGreatWl
import Derived.Test.YtbpeidblbebjpaaGreatRows
import Derived.Test.YtbpeidblbebjpaaGreatChecked
namespace Go.Mw
set_option linter.unusedVariables false
set_option linter.unusedSimpArgs false
open Go Go.Proofs Go.Proofs.YtbpeidblbebjpaaGreat
theorem j1 : (laidOutB Tryz.pinned.checked.prog) = true := by kernel_rfl
theorem j2 : (mapsRowed Tryz.pinned.checked.prog) = true := by kernel_rfl
end Go.Mw
