/- The row's closed facts, each by itself: printed by a program. -/
import Derived.Test.YtppabkcakledcaaGreatDoorAkFok
import Derived.Test.YtppabkcakledcaaGreatDoorRows
namespace Go.Proofs.YtppabkcakledcaaGreatDoor
open Ak Go
set_option maxRecDepth 100000
set_option linter.unusedVariables false
theorem jn0 : (Rows.serverNilRow.wf (OpenSpec.ofChange Rows.serverNilSpec)) = true := by kernel_rfl
theorem jn1 : (laidOutB Tryz.pinned.checked.prog) = true := by kernel_rfl
theorem jn2 : (mapsRowed Tryz.pinned.checked.prog) = true := by kernel_rfl
theorem jn3 : (Tryz.f4.params.all (Tryz.pinned.checked.prog.readableRec ·)) = true := by kernel_rfl
theorem jn4 : (namedTie Tryz.pinned.checked.prog Rows.serverNilRow.named Rows.serverNilSpec.vars) = true := by kernel_rfl
theorem jn5 : ((Rows.serverNilRow.stops == [])) = true := by kernel_rfl
theorem jn6 : ((Tryz.pinned.checked.prog.stops == [])) = true := by kernel_rfl
theorem jn7 : ((Rows.serverNilRow.knobs == [])) = true := by kernel_rfl
theorem jn8 : ((Tryz.pinned.checked.prog.stopKnobs == [])) = true := by kernel_rfl
theorem jn9 : ((Rows.serverNilRow.inPlace == Tryz.pinned.checked.prog.inPlace 4)) = true := by kernel_rfl
theorem jn10 : ((Rows.serverNilRow.unfollowed == Tryz.pinned.checked.prog.unfollowed 4)) = true := by kernel_rfl
theorem jn11 : ((Rows.serverNilRow.recurses == Tryz.pinned.checked.prog.recurses 4)) = true := by kernel_rfl
theorem jn12 : ((Rows.serverNilRow.named == Tryz.pinned.checked.prog.varsNamed 4)) = true := by kernel_rfl
theorem jn13 : ((Rows.serverNilRow.maps == (Tryz.f4.params.toList ++ Rows.serverNilSpec.plain.varTypes Tryz.pinned.checked.prog).any (Tryz.pinned.checked.prog.mapsRec ·))) = true := by kernel_rfl
theorem jn14 : ((Rows.serverNilRow.ifaces == (Tryz.f4.params.toList ++ Rows.serverNilSpec.plain.varTypes Tryz.pinned.checked.prog).any (Tryz.pinned.checked.prog.ifacesRec ·))) = true := by kernel_rfl
theorem jn15 : ((Rows.serverNilRow.mapsOut == Tryz.pinned.checked.prog.mapsAmong Tryz.f4.resultTypes.toList)) = true := by kernel_rfl
theorem jn16 : ((Rows.serverNilRow.loops == (Tryz.f4.params.toList ++ Rows.serverNilSpec.plain.varTypes Tryz.pinned.checked.prog).any (Tryz.pinned.checked.prog.loopsFrom ·))) = true := by kernel_rfl
theorem jn17 : ((Rows.serverNilRow.wideKeys == (Tryz.f4.params.toList ++ Rows.serverNilSpec.plain.varTypes Tryz.pinned.checked.prog ++ Tryz.f4.resultTypes.toList).any (Tryz.pinned.checked.prog.wideKeysFrom ·))) = true := by kernel_rfl
theorem jn18 : (Rows.serverNilSpec.vars.all (Tryz.pinned.checked.prog.varReadable ·)) = true := by kernel_rfl
theorem jn19 : (Tryz.f4.resultTypes.all (fun t => Tryz.pinned.checked.prog.readableRec t && decide (t < Tryz.pinned.checked.prog.types.size))) = true := by kernel_rfl
theorem jn20 : ((Rows.serverNilRow.ifacesOut == Tryz.f4.resultTypes.toList.any (Tryz.pinned.checked.prog.ifacesRec ·))) = true := by kernel_rfl
theorem jn21 : ((Rows.serverNilRow.loopsOut == Tryz.f4.resultTypes.toList.any (Tryz.pinned.checked.prog.loopsFrom ·))) = true := by kernel_rfl
theorem jn22 : ((Rows.serverNilRow.plainKeys == Tryz.pinned.checked.prog.plainKeys)) = true := by kernel_rfl
theorem jn23 : (Rows.serverNilRow.shortTexts.isNone) = true := by kernel_rfl
theorem jn24 : (Tryz.pinned.checked.prog.stopsHeard) = true := by kernel_rfl
theorem jn25 : (Tryz.pinned.checked.prog.mayEnter) = true := by kernel_rfl
theorem jn26 : ((Rows.serverNilRow.lifted == Tryz.pinned.checked.prog.liftsFinal)) = true := by kernel_rfl
theorem jn27 : ((Tryz.pinned.checked.prog.make == some Rows.serverNilRow.make)) = true := by kernel_rfl
theorem jn28 : ((Rows.serverNilRow.kinds == (if Rows.serverNilRow.domain.isEmpty then [] else Tryz.f4.params.toList.map fun t => match Tryz.pinned.checked.prog.underlying t with | some (.int k) => some k | _ => none))) = true := by kernel_rfl
theorem jn29 : ((Rows.serverNilRow.pinned == Rows.serverNilRow.pinnedBy)) = true := by kernel_rfl
theorem jn30 : ((Rows.serverNilRow.veiled == (Tryz.f4.params.toList ++ Rows.serverNilSpec.plain.varTypes Tryz.pinned.checked.prog ++ Tryz.f4.resultTypes.toList).any (Tryz.pinned.checked.prog.veiledRec ·))) = true := by kernel_rfl
theorem jn31 : (Rows.serverNilRow.veiledFits Tryz.pinned.checked.prog Tryz.f4.params.toList (Tryz.f4.params.toList ++ Rows.serverNilSpec.plain.varTypes Tryz.pinned.checked.prog ++ Tryz.f4.resultTypes.toList)) = true := by kernel_rfl
end Go.Proofs.YtppabkcakledcaaGreatDoor
