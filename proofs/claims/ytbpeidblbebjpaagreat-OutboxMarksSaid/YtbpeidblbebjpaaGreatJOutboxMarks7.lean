/- Proved here: closed facts of the row of OutboxMarks; no condition. -/
import Derived.Test.YtbpeidblbebjpaaGreatWl
import Derived.Test.YtbpeidblbebjpaaGreatRows
import Derived.Test.YtbpeidblbebjpaaGreatChecked
namespace Go.Mw
set_option linter.unusedVariables false
set_option linter.unusedSimpArgs false
open Go Go.Proofs Go.Proofs.YtbpeidblbebjpaaGreat
theorem j0 : (Rows.outboxMarksRow.wf (OpenSpec.ofChange Rows.outboxMarksSpec)) = true := by kernel_rfl
theorem j3 : (Tryz.f8.params.all (Tryz.pinned.checked.prog.readableRec ·)) = true := by kernel_rfl
theorem j4 : (namedTie Tryz.pinned.checked.prog Rows.outboxMarksRow.named Rows.outboxMarksSpec.vars) = true := by kernel_rfl
theorem j5 : ((Rows.outboxMarksRow.stops == [])) = true := by kernel_rfl
theorem j6 : ((Tryz.pinned.checked.prog.stops == [])) = true := by kernel_rfl
theorem j7 : ((Rows.outboxMarksRow.knobs == [])) = true := by kernel_rfl
theorem j8 : ((Tryz.pinned.checked.prog.stopKnobs == [])) = true := by kernel_rfl
theorem j13 : ((Rows.outboxMarksRow.maps == (Tryz.f8.params.toList ++ Rows.outboxMarksSpec.plain.varTypes Tryz.pinned.checked.prog).any (Tryz.pinned.checked.prog.mapsRec ·))) = true := by kernel_rfl
theorem j14 : ((Rows.outboxMarksRow.ifaces == (Tryz.f8.params.toList ++ Rows.outboxMarksSpec.plain.varTypes Tryz.pinned.checked.prog).any (Tryz.pinned.checked.prog.ifacesRec ·))) = true := by kernel_rfl
theorem j15 : ((Rows.outboxMarksRow.mapsOut == Tryz.pinned.checked.prog.mapsAmong Tryz.f8.resultTypes.toList)) = true := by kernel_rfl
theorem j17 : ((Rows.outboxMarksRow.wideKeys == (Tryz.f8.params.toList ++ Rows.outboxMarksSpec.plain.varTypes Tryz.pinned.checked.prog ++ Tryz.f8.resultTypes.toList).any (Tryz.pinned.checked.prog.wideKeysFrom ·))) = true := by kernel_rfl
theorem j18 : (Rows.outboxMarksSpec.vars.all (Tryz.pinned.checked.prog.varReadable ·)) = true := by kernel_rfl
theorem j19 : (Tryz.f8.resultTypes.all (fun t => Tryz.pinned.checked.prog.readableRec t && decide (t < Tryz.pinned.checked.prog.types.size))) = true := by kernel_rfl
theorem j20 : ((Rows.outboxMarksRow.ifacesOut == Tryz.f8.resultTypes.toList.any (Tryz.pinned.checked.prog.ifacesRec ·))) = true := by kernel_rfl
theorem j21 : ((Rows.outboxMarksRow.loopsOut == Tryz.f8.resultTypes.toList.any (Tryz.pinned.checked.prog.loopsFrom ·))) = true := by kernel_rfl
theorem j23 : (Rows.outboxMarksRow.shortTexts.isNone) = true := by kernel_rfl
theorem j28 : ((Rows.outboxMarksRow.kinds == (if Rows.outboxMarksRow.domain.isEmpty then [] else Tryz.f8.params.toList.map fun t => match Tryz.pinned.checked.prog.underlying t with | some (.int k) => some k | _ => none))) = true := by kernel_rfl
theorem j29 : ((Rows.outboxMarksRow.pinned == Rows.outboxMarksRow.pinnedBy)) = true := by kernel_rfl
theorem j30 : ((Rows.outboxMarksRow.veiled == (Tryz.f8.params.toList ++ Rows.outboxMarksSpec.plain.varTypes Tryz.pinned.checked.prog ++ Tryz.f8.resultTypes.toList).any (Tryz.pinned.checked.prog.veiledRec ·))) = true := by kernel_rfl
theorem j31 : (Rows.outboxMarksRow.veiledFits Tryz.pinned.checked.prog Tryz.f8.params.toList (Tryz.f8.params.toList ++ Rows.outboxMarksSpec.plain.varTypes Tryz.pinned.checked.prog ++ Tryz.f8.resultTypes.toList)) = true := by kernel_rfl
end Go.Mw
