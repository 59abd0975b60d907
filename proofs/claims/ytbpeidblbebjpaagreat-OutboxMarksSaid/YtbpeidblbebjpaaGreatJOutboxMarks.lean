/- Proved here: the closed facts of the row of OutboxMarks, together; no condition. -/
import Derived.Test.YtbpeidblbebjpaaGreatJOutboxMarks0
import Derived.Test.YtbpeidblbebjpaaGreatJOutboxMarks1
import Derived.Test.YtbpeidblbebjpaaGreatJOutboxMarks2
import Derived.Test.YtbpeidblbebjpaaGreatJOutboxMarks3
import Derived.Test.YtbpeidblbebjpaaGreatJOutboxMarks4
import Derived.Test.YtbpeidblbebjpaaGreatJOutboxMarks5
import Derived.Test.YtbpeidblbebjpaaGreatJOutboxMarks6
import Derived.Test.YtbpeidblbebjpaaGreatJOutboxMarks7
namespace Go.Mw
set_option linter.unusedVariables false
set_option linter.unusedSimpArgs false
open Go Go.Proofs Go.Proofs.YtbpeidblbebjpaaGreat
theorem jf : joinedFacts Tryz.pinned.checked.prog 8 Tryz.f8 Rows.outboxMarksSpec Rows.outboxMarksRow = true := by
  unfold joinedFacts
  simp only [Bool.and_eq_true]
  exact ⟨⟨⟨⟨⟨⟨⟨⟨⟨⟨⟨⟨⟨⟨⟨⟨⟨⟨⟨⟨⟨⟨⟨⟨⟨⟨⟨⟨⟨⟨⟨j0, j1⟩, j2⟩, j3⟩, j4⟩, j5⟩, j6⟩, j7⟩, j8⟩, j9⟩, j10⟩, j11⟩, j12⟩, j13⟩, j14⟩, j15⟩, j16⟩, j17⟩, j18⟩, j19⟩, j20⟩, j21⟩, j22⟩, j23⟩, j24⟩, j25⟩, j26⟩, j27⟩, (by kernel_rfl)⟩, j29⟩, j30⟩, j31⟩
end Go.Mw
