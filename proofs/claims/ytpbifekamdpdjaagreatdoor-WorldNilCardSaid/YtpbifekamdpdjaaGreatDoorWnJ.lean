/- The row's closed facts, each by itself: printed by a program. -/
import Derived.Test.YtpbifekamdpdjaaGreatDoorAkFok
import Derived.Test.YtpbifekamdpdjaaGreatDoorRows
namespace Go.Proofs.YtpbifekamdpdjaaGreatDoor
open Ak Go
set_option maxRecDepth 100000
set_option linter.unusedVariables false
theorem jn0 : (Rows.worldNilRow.wf (OpenSpec.ofChange Rows.worldNilSpec)) = true := by kernel_rfl
theorem jn1 : (laidOutB Tryz.pinned.checked.prog) = true := by kernel_rfl
theorem jn2 : (mapsRowed Tryz.pinned.checked.prog) = true := by kernel_rfl
theorem jn3 : (Tryz.f3.params.all (Tryz.pinned.checked.prog.readableRec ·)) = true := by kernel_rfl
theorem jn4 : (namedTie Tryz.pinned.checked.prog Rows.worldNilRow.named Rows.worldNilSpec.vars) = true := by kernel_rfl
theorem jn5 : ((Rows.worldNilRow.stops == [])) = true := by kernel_rfl
theorem jn6 : ((Tryz.pinned.checked.prog.stops == [])) = true := by kernel_rfl
theorem jn7 : ((Rows.worldNilRow.knobs == [])) = true := by kernel_rfl
theorem jn8 : ((Tryz.pinned.checked.prog.stopKnobs == [])) = true := by kernel_rfl
theorem jn9 : ((Rows.worldNilRow.inPlace == Tryz.pinned.checked.prog.inPlace 3)) = true := by kernel_rfl
theorem jn10 : ((Rows.worldNilRow.unfollowed == Tryz.pinned.checked.prog.unfollowed 3)) = true := by kernel_rfl
theorem jn11 : ((Rows.worldNilRow.recurses == Tryz.pinned.checked.prog.recurses 3)) = true := by kernel_rfl
theorem jn12 : ((Rows.worldNilRow.named == Tryz.pinned.checked.prog.varsNamed 3)) = true := by kernel_rfl
theorem jn13 : ((Rows.worldNilRow.maps == (Tryz.f3.params.toList ++ Rows.worldNilSpec.plain.varTypes Tryz.pinned.checked.prog).any (Tryz.pinned.checked.prog.mapsRec ·))) = true := by kernel_rfl
theorem jn14 : ((Rows.worldNilRow.ifaces == (Tryz.f3.params.toList ++ Rows.worldNilSpec.plain.varTypes Tryz.pinned.checked.prog).any (Tryz.pinned.checked.prog.ifacesRec ·))) = true := by kernel_rfl
theorem jn15 : ((Rows.worldNilRow.mapsOut == Tryz.pinned.checked.prog.mapsAmong Tryz.f3.resultTypes.toList)) = true := by kernel_rfl
theorem jn16 : ((Rows.worldNilRow.loops == (Tryz.f3.params.toList ++ Rows.worldNilSpec.plain.varTypes Tryz.pinned.checked.prog).any (Tryz.pinned.checked.prog.loopsFrom ·))) = true := by kernel_rfl
theorem jn17 : ((Rows.worldNilRow.wideKeys == (Tryz.f3.params.toList ++ Rows.worldNilSpec.plain.varTypes Tryz.pinned.checked.prog ++ Tryz.f3.resultTypes.toList).any (Tryz.pinned.checked.prog.wideKeysFrom ·))) = true := by kernel_rfl
theorem jn18 : (Rows.worldNilSpec.vars.all (Tryz.pinned.checked.prog.varReadable ·)) = true := by kernel_rfl
theorem jn19 : (Tryz.f3.resultTypes.all (fun t => Tryz.pinned.checked.prog.readableRec t && decide (t < Tryz.pinned.checked.prog.types.size))) = true := by kernel_rfl
theorem jn20 : ((Rows.worldNilRow.ifacesOut == Tryz.f3.resultTypes.toList.any (Tryz.pinned.checked.prog.ifacesRec ·))) = true := by kernel_rfl
theorem jn21 : ((Rows.worldNilRow.loopsOut == Tryz.f3.resultTypes.toList.any (Tryz.pinned.checked.prog.loopsFrom ·))) = true := by kernel_rfl
theorem jn22 : ((Rows.worldNilRow.plainKeys == Tryz.pinned.checked.prog.plainKeys)) = true := by kernel_rfl
theorem jn23 : (Rows.worldNilRow.shortTexts.isNone) = true := by kernel_rfl
theorem jn24 : (Tryz.pinned.checked.prog.stopsHeard) = true := by kernel_rfl
theorem jn25 : (Tryz.pinned.checked.prog.mayEnter) = true := by kernel_rfl
theorem jn26 : ((Rows.worldNilRow.lifted == Tryz.pinned.checked.prog.liftsFinal)) = true := by kernel_rfl
theorem jn27 : ((Tryz.pinned.checked.prog.make == some Rows.worldNilRow.make)) = true := by kernel_rfl
theorem jn28 : ((Rows.worldNilRow.kinds == (if Rows.worldNilRow.domain.isEmpty then [] else Tryz.f3.params.toList.map fun t => match Tryz.pinned.checked.prog.underlying t with | some (.int k) => some k | _ => none))) = true := by kernel_rfl
theorem jn29 : ((Rows.worldNilRow.pinned == Rows.worldNilRow.pinnedBy)) = true := by kernel_rfl
theorem jn30 : ((Rows.worldNilRow.veiled == (Tryz.f3.params.toList ++ Rows.worldNilSpec.plain.varTypes Tryz.pinned.checked.prog ++ Tryz.f3.resultTypes.toList).any (Tryz.pinned.checked.prog.veiledRec ·))) = true := by kernel_rfl
theorem jn31 : (Rows.worldNilRow.veiledFits Tryz.pinned.checked.prog Tryz.f3.params.toList (Tryz.f3.params.toList ++ Rows.worldNilSpec.plain.varTypes Tryz.pinned.checked.prog ++ Tryz.f3.resultTypes.toList)) = true := by kernel_rfl
end Go.Proofs.YtpbifekamdpdjaaGreatDoor
