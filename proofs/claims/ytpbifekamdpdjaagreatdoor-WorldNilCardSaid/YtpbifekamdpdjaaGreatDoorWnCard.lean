/- WorldNil: for every input the law returns true and each argument reads afterwards as it read before; the variables that the row lists are tied to the program's text. -/
import Derived.Test.YtpbifekamdpdjaaGreatDoorWnRow
import Derived.Test.YtpbifekamdpdjaaGreatDoorWnJ
import Derived.JoinedOf
import Derived.Test.YtpbifekamdpdjaaGreatDoorCards
import Derived.Test.YtpbifekamdpdjaaGreatDoorTie
import Derived.SevenTiedAt
namespace Go.Proofs.YtpbifekamdpdjaaGreatDoor
open Ak Go
set_option maxRecDepth 100000
theorem jn : joinedFacts Tryz.pinned.checked.prog 3 Tryz.f3 Rows.worldNilSpec Rows.worldNilRow = true := band (band (band (band (band (band (band (band (band (band (band (band (band (band (band (band (band (band (band (band (band (band (band (band (band (band (band (band (band (band (band (jn0) jn1) jn2) jn3) jn4) jn5) jn6) jn7) jn8) jn9) jn10) jn11) jn12) jn13) jn14) jn15) jn16) jn17) jn18) jn19) jn20) jn21) jn22) jn23) jn24) jn25) jn26) jn27) jn28) jn29) jn30) jn31
theorem nm3 : Tryz.pinned.checked.prog.funcNamed "grommet/grommetlaw27.WorldNil" = some 3 := by kernel_rfl
theorem worldNil_row : Rows.WorldNilSaid :=
  OpenClaim.holds_of_wide 3 Tryz.f3 rfl rfl rfl rfl rfl rfl rfl ⟨rfl, rfl, rfl, rfl, rfl⟩ rfl rfl rfl rfl rfl nm3 Tryz.func3 jn
    (of_decide_eq_true (by kernel_rfl)) (by unfold Func.isWrapper; first | (rw [if_pos (by decide +kernel)]; kernel_rfl) | (rw [if_neg (by decide +kernel)]; exact ⟨rfl, rfl⟩))
    (fun os started H enc _ => lifted os started H enc)
#print axioms worldNil_row
theorem stood3 : ∀ (j : Nat) t, Tryz.f3.params[j]? = some t → Tryz.prog.wantsStandIn t = false := fun j t ht => by
  rw [Tryz.params3] at ht
  have hm : t ∈ [31, 3] := by simpa using Array.mem_of_getElem? ht
  have hall : ([31, 3].all fun u => !Tryz.prog.wantsStandIn u) = true := by kernel_rfl
  exact (show Tryz.prog.wantsStandIn t = false by simpa using List.all_eq_true.1 hall t hm)
theorem goes_none (P : Program) (h : P.funcs.toList.any Func.goes = false) (f : FuncId) : P.goes f = false := by
  have h1 : ∀ g : Nat, (P.funcs[g]?).any Func.goes = false := fun g => by
    cases e : P.funcs[g]? with
    | none => rfl
    | some fn =>
      have hm : fn ∈ P.funcs.toList := by
        rw [← Array.getElem?_toList] at e
        exact List.mem_of_getElem? e
      show Func.goes fn = false
      have := List.any_eq_false.1 h fn hm
      simpa using this
  have h2 : P.funcs.any Func.goes = false := by rw [← Array.any_toList]; exact h
  unfold Program.goes
  rw [h2, Bool.and_false, Bool.or_false]
  exact List.any_eq_false.2 fun g _ => by simp [h1 g]
theorem goesBy_none (c : OpenClaim) (P : Program) (h : P.funcs.toList.any Func.goes = false) : false = c.goesBy P := by
  have h1 : ∀ f, P.goes f = false := goes_none P h
  unfold OpenClaim.goesBy Program.goesAt Program.goesFrom
  have e1 : (P.funcNamed c.func).any P.goes = false := by cases P.funcNamed c.func <;> simp [h1]
  have e2 : P.inits.toList.any P.goes = false := List.any_eq_false.2 fun g _ => by simp [h1 g]
  rw [e1, Bool.false_or]
  cases c.start <;> simp_all
theorem q1 : Rows.worldNilRow.wfByText (OpenSpec.ofChange Rows.worldNilSpec) = true := by kernel_rfl
theorem q2 : Tryz.pinned.checked.prog.mainIs = some (true, "5c8cc436065c762da80ceb8aa762f941a6926e0346ca9857b511db4a28012723".toList) := by kernel_rfl
theorem q3 : false = Tryz.pinned.checked.prog.looks [] := by kernel_rfl
theorem nogo : Tryz.pinned.checked.prog.funcs.toList.any Func.goes = false := by kernel_rfl
theorem q4 : false = Rows.worldNilRow.goesBy Tryz.pinned.checked.prog := goesBy_none _ _ nogo
/-- THE TIED CARD. -/
theorem worldNil_holds : Rows.WorldNilCardSaid :=
  Claim7.holds_tied_plain_at .later [] [.data, .data, .data] true (true, "5c8cc436065c762da80ceb8aa762f941a6926e0346ca9857b511db4a28012723") false
    worldNil_row (fun _ h => by cases h) q1 (fun _ h => by cases h) worldNil_row_tie rfl ⟨rfl, rfl⟩ q2 rfl
    (fun f fn hf hfn => by
      obtain rfl : f = 3 := Option.some.inj (nm3.symm.trans hf) |>.symm
      obtain rfl : fn = Tryz.f3 := (Option.some.inj (Tryz.func3.symm.trans hfn)).symm
      exact ⟨q3, stood3⟩)
    q4
#print axioms worldNil_holds
end Go.Proofs.YtpbifekamdpdjaaGreatDoor
