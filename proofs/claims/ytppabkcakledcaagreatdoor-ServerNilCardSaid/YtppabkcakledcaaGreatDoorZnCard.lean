/- ServerNil: for every input the law returns true and each argument reads afterwards as it read before; the variables that the row lists are tied to the program's text. -/
import Derived.Test.YtppabkcakledcaaGreatDoorZnRow
import Derived.Test.YtppabkcakledcaaGreatDoorZnJ
import Derived.JoinedOf
import Derived.Test.YtppabkcakledcaaGreatDoorCards
import Derived.Test.YtppabkcakledcaaGreatDoorTie
import Derived.SevenTiedAt
namespace Go.Proofs.YtppabkcakledcaaGreatDoor
open Ak Go
set_option maxRecDepth 100000
theorem jn : joinedFacts Tryz.pinned.checked.prog 4 Tryz.f4 Rows.serverNilSpec Rows.serverNilRow = true := band (band (band (band (band (band (band (band (band (band (band (band (band (band (band (band (band (band (band (band (band (band (band (band (band (band (band (band (band (band (band (jn0) jn1) jn2) jn3) jn4) jn5) jn6) jn7) jn8) jn9) jn10) jn11) jn12) jn13) jn14) jn15) jn16) jn17) jn18) jn19) jn20) jn21) jn22) jn23) jn24) jn25) jn26) jn27) jn28) jn29) jn30) jn31
theorem nm4 : Tryz.pinned.checked.prog.funcNamed "grommet/grommetlaw26.ServerNil" = some 4 := by kernel_rfl
theorem serverNil_row : Rows.ServerNilSaid :=
  OpenClaim.holds_of_wide 4 Tryz.f4 rfl rfl rfl rfl rfl rfl rfl ⟨rfl, rfl, rfl, rfl, rfl⟩ rfl rfl rfl rfl rfl nm4 Tryz.func4 jn
    (of_decide_eq_true (by kernel_rfl)) (by unfold Func.isWrapper; first | (rw [if_pos (by decide +kernel)]; kernel_rfl) | (rw [if_neg (by decide +kernel)]; exact ⟨rfl, rfl⟩))
    (fun os started H enc _ => lifted os started H enc)
#print axioms serverNil_row
theorem stood4 : ∀ (j : Nat) t, Tryz.f4.params[j]? = some t → Tryz.prog.wantsStandIn t = false := fun j t ht => by
  rw [Tryz.params4] at ht
  have hm : t ∈ [3, 47, 23, 23] := by simpa using Array.mem_of_getElem? ht
  have hall : ([3, 47, 23, 23].all fun u => !Tryz.prog.wantsStandIn u) = true := by kernel_rfl
  exact (show Tryz.prog.wantsStandIn t = false by simpa using List.all_eq_true.1 hall t hm)
theorem q1 : Rows.serverNilRow.wfByText (OpenSpec.ofChange Rows.serverNilSpec) = true := by kernel_rfl
theorem q2 : Tryz.pinned.checked.prog.mainIs = some (true, "162091cbeaa38ccd3ba163d75affb48164db6112fcefee89f412852dd374dc71".toList) := by kernel_rfl
theorem q3 : false = Tryz.pinned.checked.prog.looks [] := by kernel_rfl
theorem q4 : false = Rows.serverNilRow.goesBy Tryz.pinned.checked.prog := by kernel_rfl
/-- THE TIED CARD. -/
theorem serverNil_holds : Rows.ServerNilCardSaid :=
  Claim7.holds_tied_plain_at .later [] [.data, .data, .data] true (true, "162091cbeaa38ccd3ba163d75affb48164db6112fcefee89f412852dd374dc71") false
    serverNil_row (fun _ h => by cases h) q1 (fun _ h => by cases h) serverNil_row_tie rfl ⟨rfl, rfl⟩ q2 rfl
    (fun f fn hf hfn => by
      obtain rfl : f = 4 := Option.some.inj (nm4.symm.trans hf) |>.symm
      obtain rfl : fn = Tryz.f4 := (Option.some.inj (Tryz.func4.symm.trans hfn)).symm
      exact ⟨q3, stood4⟩)
    q4
#print axioms serverNil_holds
end Go.Proofs.YtppabkcakledcaaGreatDoor
