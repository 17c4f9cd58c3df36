/- From a run of the evaluator to a call of the machine that answers true and leaves what was there; the start. -/
import Derived.Test.YtppabkcakledcaaGreatDoorAkSort2
import Derived.Test.YtppabkcakledcaaGreatDoorAkFok
import GoSem.ClaimWide
import Derived.ChangeMaps5
namespace Ak
open Go Go.RowKit
set_option linter.unusedVariables false
/-- The answer: true. -/
noncomputable def isT (v : V) (_ : H) : R := boolF v fun b => ckB b (some ())
theorem isT_some {v : V} {σ : H} {r : Unit} (h : isT v σ = some r) : v = .bool true := by
  unfold isT at h
  rw [boolF_eq] at h
  split at h
  · rename_i b
    obtain ⟨e, _⟩ := ckB_some h
    rw [e]
  · cases h
theorem rel_bool_inv' {ρ : Rho} {b : Bool} {v' : Value} (h : Rel ρ (.bool b) v') : v' = .bool b := by cases h; rfl
theorem Fr.below {ρ ρ' : Rho} {own' : Own} {σ σ' : H} {w w' : World} (h : Fr ρ (fun _ => none) σ w ρ' own' σ' w') : Below w.heap.size w w' :=
  ⟨h.os, h.tape, h.out, h.size, fun k hk => (h.heap k hk rfl).2⟩
theorem walk_of_run {P : Program} {gl : List Nat} {F : Nat → Option Af} {S : Nat → Option Sm} {lf n f : Nat} {args : List V} {σ : H} (hm : P.follows .mixedOrders = true) (h8 : 8 ≤ P.depth) (hF : FOk P (tiOf P) gl F) (hS : SOk P (tiOf P) gl S)
    (run : callF F S lf n (.rf f) args σ isT = some ()) {ρ : Rho} {W : World} {args' : Array Value} (ha : RelL ρ args args'.toList) (hr : HR (CC (tiOf P) gl) ρ (fun _ => none) σ W) (hg : GlR gl ρ) :
    Calls P f args' W fun e W' => e = .returned (.bool true) ∧ Below W.heap.size W W' := by
  rw [callF_eq] at run
  refine (callsOf (tiOf_ok P) (tiOf_eq P h8) hm hF hS run ha hr hg).mono ?_
  rintro e W' ⟨v', rfl, v, σ', ρ', own', h1, h2, h3, h4⟩
  obtain rfl := isT_some h1
  rw [rel_bool_inv' h2]
  exact ⟨rfl, h4.below⟩

/-- Where the package-level variables lie. -/
def rho0 (N : Nat) (top : Nat → Nat) : Rho := fun g => if g < N then some ⟨g, 0, 0, top g⟩ else none
theorem glR0 {N : Nat} {top : Nat → Nat} {gl : List Nat} (h : ∀ g, isIn gl g = true → g < N) : GlR gl (rho0 N top) := fun g e => ⟨top g, by simp [rho0, h g e]⟩
theorem hr0 {C : Cor} {N : Nat} {top : Nat → Nat} {σ : H} {W : World} (hN : N = σ.next) (hsz : N ≤ W.heap.size)
    (ho : ∀ g o, σ.get g = some o → g < N → ∃ c z, o = .cells c z 0 (top g) true ∧ ∃ arr el fr, W.heap[g]? = some (.cells arr el fr) ∧ top g ≤ arr.size ∧ ∀ off, off < top g → ∃ v', arr[off]? = some v' ∧ Rel (rho0 N top) (cget c z off) v') :
    HR C (rho0 N top) (fun _ => none) σ W := by
  refine ⟨fun id L e => ?_, fun id L o e ex => ?_, fun b id e => by cases e⟩
  · unfold rho0 at e
    split at e
    · rename_i h; cases e; exact ⟨by omega, by simp; omega⟩
    · cases e
  · unfold rho0 at e
    split at e
    · rename_i h
      cases e
      obtain ⟨c, z, rfl, arr, el, fr, h1, h2, h3⟩ := ho id o ex h
      exact ⟨rfl, Nat.le_refl _, by simp, arr, el, fr, h1, by simpa using h2, (fun e => by cases e), fun off _ hlt => by
        obtain ⟨v', e1, e2⟩ := h3 off hlt
        exact ⟨v', by simpa using e1, e2⟩⟩
    · cases e

/-! Arguments. -/
theorem cell_int {P : Program} {w : World} {r : Reach} {base : Nat} {u : TypeId} {k : IntKind} {v : Value} (hu : P.underlying u = some (.int k)) (h : Cell.okWide P w r base u v) : ∃ n, v = .int k n := by
  unfold Cell.okWide at h
  rw [hu] at h
  have h2 : Cell.ok P w r base u v := by
    cases v <;> exact h
  unfold Cell.ok at h2
  rw [hu] at h2
  cases v <;> simp at h2
  rename_i k' n
  exact ⟨n, by rw [h2.1]⟩
theorem cell_str {P : Program} {w : World} {r : Reach} {base : Nat} {u : TypeId} {v : Value} (hu : P.underlying u = some .string) (h : Cell.okWide P w r base u v) : ∃ s, v = .string s := by
  unfold Cell.okWide at h
  rw [hu] at h
  have h2 : Cell.ok P w r base u v := by
    cases v <;> exact h
  unfold Cell.ok at h2
  rw [hu] at h2
  cases v <;> simp at h2
  exact ⟨_, rfl⟩
/-- A struct's cells. -/
theorem agg_cells {P : Program} {w : World} {r : Reach} {base : Nat} {t : TypeId} {fs : Array Field} {ts : List TypeId} {v : Value} (hu : P.underlying t = some (.struct fs)) (h : Value.okWide P w r base t v) (hts : P.cellTypes P.depth t = some ts) (hn : P.cellsOf t = ts.length) :
    ∃ l : List Value, v = .agg ⟨l⟩ ∧ l.length = ts.length ∧ ∀ (i : Nat) (x : Value) (u : TypeId), l[i]? = some x → ts[i]? = some u → Cell.okWide P w r base u x := by
  unfold Value.okWide at h
  rw [hu] at h
  obtain ⟨cs, rfl, hsz, ts', h1, _, h2⟩ := h
  rw [hts] at h1
  cases h1
  refine ⟨cs.toList, rfl, by simpa [hn] using hsz, fun i x u e1 e2 => ?_⟩
  obtain ⟨u', h3, h4⟩ := h2 i x (by simpa using e1)
  have hlt : i < ts.length := (List.getElem?_eq_some_iff.1 e2).1
  rw [Nat.mod_eq_of_lt hlt, e2] at h3
  cases h3
  exact h4
theorem rel_str (ρ : Rho) (b : ByteArray) : Rel ρ (.str (b.data.toList.map UInt8.toNat)) (.string b) := .str _ b rfl
end Ak
