/- Proved here: closed facts of the row of OutboxMarks; no condition. -/
import Derived.Test.YtbpeidblbebjpaaGreatWl
import Derived.Test.YtbpeidblbebjpaaGreatRows
import Derived.Test.YtbpeidblbebjpaaGreatChecked
namespace Go.Mw
set_option linter.unusedVariables false
set_option linter.unusedSimpArgs false
open Go Go.Proofs Go.Proofs.YtbpeidblbebjpaaGreat
theorem j9 : ((Rows.outboxMarksRow.inPlace == Tryz.pinned.checked.prog.inPlace 8)) = true := by kernel_rfl
theorem j10 : ((Rows.outboxMarksRow.unfollowed == Tryz.pinned.checked.prog.unfollowed 8)) = true := by kernel_rfl
end Go.Mw
