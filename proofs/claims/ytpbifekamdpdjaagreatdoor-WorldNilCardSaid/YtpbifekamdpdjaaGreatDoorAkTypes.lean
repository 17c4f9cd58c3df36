/- The types' table of any program. -/
import Derived.Test.YtpbifekamdpdjaaGreatDoorAkTop
namespace Ak
open Go
def zeroOk (d : TypeDesc) (v : Value) : Bool :=
  match isAg d, v with
  | true, .agg _ => true
  | true, _ => false
  | false, v => v.oneCell'
def badS (P : Program) (t : TypeId) : TypeDesc → Bool
  | .struct _ => P.stoodInHeld t
  | _ => false
def tiOf (P : Program) (t : TypeId) : Option Ti :=
  match P.underlying t, P.info? t with
  | some d, some j => bif badS P t d then none else some { d := d, size := j.size, bytes := j.bytes, zero := match j.zero with | some v => bif zeroOk d v then ofSs v.cells.toList else none | none => none }
  | _, _ => none
theorem tiOf_ok (P : Program) : TIok P (tiOf P) := by
  constructor
  · intro t i h
    unfold tiOf at h
    split at h
    · rename_i d j h1 h2; obtain ⟨_, h⟩ := bif_else h; cases h; exact h1
    · cases h
  · intro t i h
    unfold tiOf at h
    split at h
    · rename_i d j h1 h2
      obtain ⟨_, h⟩ := bif_else h
      cases h
      refine ⟨j, h2, rfl, rfl, fun z hz => ?_⟩
      simp only at hz
      split at hz
      · rename_i v hv
        obtain ⟨h3, h4⟩ := bif_then hz
        refine ⟨v, hv, h4, fun ha => ?_, fun ha => ?_⟩
        · simp only [zeroOk] at h3
          simp only at ha
          rw [ha] at h3
          cases v <;> first | exact ⟨_, rfl⟩ | cases h3
        · simp only [zeroOk] at h3
          simp only at ha
          rw [ha] at h3
          exact h3
      · cases hz
    · cases h
theorem tiOf_eq (P : Program) (h8 : 8 ≤ P.depth) : EqOk P (tiOf P) := by
  refine ⟨h8, fun t i fs h hd => ?_⟩
  unfold tiOf at h
  split at h
  · rename_i d j h1 h2
    obtain ⟨h3, h⟩ := bif_else h
    cases h
    simp only at hd
    subst hd
    exact h3
  · cases h
end Ak
