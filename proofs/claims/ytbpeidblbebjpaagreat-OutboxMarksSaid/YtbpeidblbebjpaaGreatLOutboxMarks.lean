/- Proved here: OutboxMarks holds for each input; no condition. -/
import Derived.Test.YtbpeidblbebjpaaGreatROutboxMarks
import Derived.Test.YtbpeidblbebjpaaGreatJOutboxMarks
import Derived.Test.YtbpeidblbebjpaaGreatPOutboxMarks
namespace Go.Mw
set_option linter.unusedVariables false
set_option linter.unusedSimpArgs false
open Go Go.Proofs Go.Proofs.YtbpeidblbebjpaaGreat
theorem over (pure : ∀ (a0 : (List maundlaw29_Op)), ∃ K, p_maundlaw29_OutboxMarks K a0 = some true) : Rows.outboxMarksRow.holds Tryz.pinned (OpenSpec.ofChange Rows.outboxMarksSpec) :=
  OpenClaim.holds_of_wide 8 Tryz.f8 rfl rfl rfl rfl rfl rfl rfl ⟨rfl, rfl, rfl, rfl, rfl⟩ rfl rfl rfl rfl rfl (by kernel_rfl) Tryz.func8 jf
    (of_decide_eq_true (by kernel_rfl)) (by unfold Func.isWrapper; first | (rw [if_pos (by decide +kernel)]; kernel_rfl) | (rw [if_neg (by decide +kernel)]; exact ⟨rfl, rfl⟩))
    (fun os started H enc _ => lifted pure os started H enc)
end Go.Mw
namespace Go.Proofs.YtbpeidblbebjpaaGreat
/-- The law, for each input. -/
theorem outboxMarks_holds : Rows.OutboxMarksSaid := Go.Mw.over Go.Mw.OutboxMarks_pure
#print axioms outboxMarks_holds
end Go.Proofs.YtbpeidblbebjpaaGreat
