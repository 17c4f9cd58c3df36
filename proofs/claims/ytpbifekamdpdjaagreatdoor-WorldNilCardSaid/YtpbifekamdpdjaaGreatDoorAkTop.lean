/- The evaluator is right: a function's contract from a run of the evaluator. -/
import Derived.Test.YtpbifekamdpdjaaGreatDoorAkDrw8
namespace Ak
open Go
theorem callsOf {P : Program} {TI : TypeId → Option Ti} {gl : List Nat} {α : Type} (hT : TIok P TI) (hE : EqOk P TI) (hm : P.follows .mixedOrders = true) {F : Nat → Option Af} {S : Nat → Option (List V → H → (V → H → Option α) → Option α)} (hF : FOk P TI gl F) (hS : SOk P TI gl S)
    {lf n f : Nat} {args : List V} {σ : H} {K : V → H → Option α} {r : α} (h : callN F S (fun _ _ _ _ => none) lf n (.rf f) args σ K = some r) {ρ : Rho} {own : Own} {w : World} {args' : Array Value} (ha : RelL ρ args args'.toList) (hr : HR (CC TI gl) ρ own σ w) (hg : GlR gl ρ) :
    Calls P f args' w (fun e w' => ∃ v', e = .returned v' ∧ SimV (CC TI gl) K r ρ own σ w v' w') := by
  obtain ⟨fn, _, _, _, h4⟩ := callN_ok hT hE hF hS (drw_ok hT hE hm) lf n (.rf f) args σ K r h ρ own w args' ha hr hg
  exact callsIn_wide.1 (h4 0)
#print axioms callsOf
end Ak
