/- A table of functions is the program's: told function by function. -/
import Derived.Test.YtpbifekamdpdjaaGreatDoorAkTop
import Derived.Test.YtpbifekamdpdjaaGreatDoorAkFast4
import Derived.Test.YtpbifekamdpdjaaGreatDoorAkTypes
namespace Ak
open Go
/-- What is asked of one function. -/
def fokF (P : Program) (gl : List Nat) (i : Nat) (fn : Func) : Option Af := bif fn.name == "runtime.NumGoroutine" then none else cFunc (tiOf P) gl i fn
def FokAt (P : Program) (gl : List Nat) (i : Nat) (a : Af) : Prop := ∃ fn c, P.funcs[i]? = some fn ∧ fn.name ≠ "runtime.NumGoroutine" ∧ fn.body = some c ∧ cFunc (tiOf P) gl i fn = some a
theorem fokAt_of {P : Program} {gl : List Nat} {i : Nat} {a : Af} {fn : Func} (h : P.funcs[i]? = some fn) (h2 : fokF P gl i fn = some a) : FokAt P gl i a := by
  unfold fokF at h2
  obtain ⟨h3, h4⟩ := bif_else h2
  have hb : ∃ c, fn.body = some c := by
    unfold cFunc at h4
    split at h4
    · rename_i c hc; exact ⟨c, hc⟩
    · cases h4
  obtain ⟨c, hc⟩ := hb
  exact ⟨fn, c, h, fun e => by rw [e] at h3; exact absurd h3 (by decide), hc, h4⟩
/-- All entries of a trie, with their places. -/
def AllT {α : Type} (p : Nat → α → Prop) : T α → (Nat → Nat) → Prop
  | .lf, _ => True
  | .nd l v r, φ => (∀ a, v = some a → p (φ 0) a) ∧ AllT p l (fun n => φ (2 * n + 1)) ∧ AllT p r (fun n => φ (2 * n + 2))
theorem allT_get {α : Type} {p : Nat → α → Prop} : ∀ (t : T α) (φ : Nat → Nat) (n : Nat) (a : α), AllT p t φ → t.get n = some a → p (φ n) a
  | .lf, φ, n, a, _, h => by rw [T.get_lf] at h; cases h
  | .nd l v r, φ, 0, a, hp, h => hp.1 a h
  | .nd l v r, φ, k + 1, a, hp, h => by
    have hm := Nat.mod_add_div k 2
    rcases Nat.mod_two_eq_zero_or_one k with hk | hk
    · simp only [T.get, hk] at h
      have := allT_get l _ _ a hp.2.1 h
      have e : 2 * (k / 2) + 1 = k + 1 := by omega
      simpa [e] using this
    · simp only [T.get, hk] at h
      have := allT_get r _ _ a hp.2.2 h
      have e : 2 * (k / 2) + 2 = k + 1 := by omega
      simpa [e] using this
theorem allT_none {α : Type} {p : α → Prop} : ∀ a, (none : Option α) = some a → p a := fun _ h => by cases h
theorem allT_some {α : Type} {p : α → Prop} {b : α} (h : p b) : ∀ a, some b = some a → p a := fun _ e => by cases e; exact h
theorem fok_of {P : Program} {gl : List Nat} {t : T Af} (h : AllT (FokAt P gl) t (fun n => n)) : FOk P (tiOf P) gl (fun n => gtT t (pathOf n)) := fun f a e => by
  have e : gtT t (pathOf f) = some a := e
  rw [gtT_eq] at e
  exact allT_get t _ f a h e
theorem band {a b : Bool} (ha : a = true) (hb : b = true) : (a && b) = true := by rw [ha, hb]; rfl
end Ak
