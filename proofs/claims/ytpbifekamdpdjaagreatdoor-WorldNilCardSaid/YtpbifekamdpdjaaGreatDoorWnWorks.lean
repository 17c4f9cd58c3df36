/- The anchor of layer 27, run by the evaluator in the kernel; then a summary. -/
import Derived.Test.YtpbifekamdpdjaaGreatDoorWnLay
import Derived.Test.YtpbifekamdpdjaaGreatDoorAkGlue
namespace Go.Proofs.YtpbifekamdpdjaaGreatDoor.Tab
open Ak Go
set_option maxRecDepth 100000
set_option maxHeartbeats 100000000 in
theorem works : callF FT SW 1000 100 (.rf 11) [] (σl 4) isT = some () := by kernel_rfl
theorem glLt : ∀ g, isIn gl g = true → g < 4 := fun g hg => by
  simp only [gl, isIn, Bool.or_eq_true] at hg
  simp at hg
  omega
noncomputable def SX : Nat → Option Sm := fun f => Bool.rec (motive := fun _ => Option Sm) (SW f) (some trueS) (Nat.beq f 11)
theorem sokX : SOk Tryz.prog (tiOf Tryz.prog) gl SX := fun f G h args σ K r hG => by
  cases e : Nat.beq f 11 with
  | false => simp only [SX, e] at h; exact sok f G h args σ K r hG
  | true =>
    simp only [SX, e] at h
    obtain rfl := Nat.eq_of_beq_eq_true e
    cases h
    exact true_ok (by kernel_rfl) (of_decide_eq_true (by kernel_rfl)) fok sok (by decide) glLt works args σ K r hG
#print axioms sokX
end Go.Proofs.YtpbifekamdpdjaaGreatDoor.Tab
