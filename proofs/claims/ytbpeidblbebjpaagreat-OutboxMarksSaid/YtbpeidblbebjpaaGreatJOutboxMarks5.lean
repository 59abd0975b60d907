/- Proved here: closed facts of the row of OutboxMarks; no condition. -/
import Derived.Test.YtbpeidblbebjpaaGreatWl
import Derived.Test.YtbpeidblbebjpaaGreatRows
import Derived.Test.YtbpeidblbebjpaaGreatChecked
namespace Go.Mw
set_option linter.unusedVariables false
set_option linter.unusedSimpArgs false
open Go Go.Proofs Go.Proofs.YtbpeidblbebjpaaGreat
theorem j11 : ((Rows.outboxMarksRow.recurses == Tryz.pinned.checked.prog.recurses 8)) = true := by kernel_rfl
theorem j12 : ((Rows.outboxMarksRow.named == Tryz.pinned.checked.prog.varsNamed 8)) = true := by kernel_rfl
end Go.Mw
