/- Loads and stores of the abstract heap, as the machine makes them. -/
import Derived.Test.YtpbifekamdpdjaaGreatDoorAkRel
import Derived.Test.YtpbifekamdpdjaaGreatDoorAkComp
import Derived.Laws.Entries
namespace Ak
open Go

theorem Loc.at_add {L : Loc} {off j : Nat} (h : L.lo ≤ off) : (L.at off).add j = L.at (off + j) := by
  unfold Loc.at Addr.add
  split
  · rename_i e; subst e; rfl
  · simp only [Addr.mk.injEq, and_true, true_and]; omega

theorem bif_some {α : Type} {c : Bool} {x y : Option α} {r : α} (h : (bif c then x else y) = some r) : (c = true ∧ x = some r) ∨ (c = false ∧ y = some r) := by
  cases c
  · exact .inr ⟨rfl, h⟩
  · exact .inl ⟨rfl, h⟩
theorem bif_then {α : Type} {c : Bool} {x : Option α} {r : α} (h : (bif c then x else none) = some r) : c = true ∧ x = some r := by
  cases c
  · cases h
  · exact ⟨rfl, h⟩
theorem bif_else {α : Type} {c : Bool} {x : Option α} {r : α} (h : (bif c then none else x) = some r) : c = false ∧ x = some r := by
  cases c
  · exact ⟨rfl, h⟩
  · cases h
theorem leB_iff {a b : Nat} : leB a b = true ↔ a ≤ b := by unfold leB; rw [Nat.ble_eq]
theorem blt_iff {a b : Nat} : Nat.blt a b = true ↔ a < b := by
  unfold Nat.blt; rw [Nat.ble_eq]; exact Iff.rfl

theorem add_add (a : Addr) (h : a.spot = none) (i j : Nat) : a.add (i + j) = (a.add i).add j := by
  obtain ⟨b, o, s⟩ := a
  simp only at h
  subst h
  unfold Addr.add
  by_cases hi : i = 0 <;> by_cases hj : j = 0 <;> simp [hi, hj, Nat.add_assoc]

theorem getElem_cell {w : World} {b : Nat} {arr : Array Value} {el : TypeId} {fr : Nat × Nat} (h : w.heap[b]? = some (.cells arr el fr)) (j : Nat) :
    w.cell? ⟨b, j, none⟩ = arr[j]? := by simp [World.cell?, h]

section
variable {α : Type} {C : Cor} {ρ : Rho} {own : Own} {σ : H} {w : World}

/-- An object's loc, where a pointer into it is known. -/
theorem ldK_ok {id off : Nat} {L : Loc} {K : V → Option α} {r : α} (h : ldK σ id off K = some r) (hr : HR C ρ own σ w) (hL : ρ id = some L) :
    ∃ v v', K v = some r ∧ w.cell? (L.at off) = some v' ∧ Rel ρ v v' ∧ L.lo ≤ off := by
  unfold ldK at h
  split at h
  · rename_i c z lo hi ro ho
    obtain ⟨hc, hK⟩ := bif_then h
    simp only [Bool.and_eq_true, leB_iff, blt_iff] at hc
    obtain ⟨_, h2, h3, arr, el, fr, h4, h5, _, h7⟩ := hr.obj _ _ _ hL ho
    obtain ⟨v', e, rv⟩ := h7 off hc.1 hc.2
    refine ⟨_, v', hK, ?_, rv, by omega⟩
    unfold Loc.at
    rw [getElem_cell h4]; exact e
  · cases h

theorem ldnK_ok {id : Nat} {L : Loc} (hr : HR C ρ own σ w) (hL : ρ id = some L) : ∀ (n off : Nat) {K : List V → Option α} {r : α}, ldnK σ id off n K = some r → (n = 0 ∨ L.lo ≤ off) ∧
    ∃ vs vs', K vs = some r ∧ RelL ρ vs vs' ∧ vs'.length = n ∧ ∀ j v, vs'[j]? = some v → w.cell? (L.at (off + j)) = some v
  | 0, off, K, r, h => ⟨.inl rfl, [], [], h, .nil ρ, rfl, fun j v e => by simp at e⟩
  | n + 1, off, K, r, h => by
    simp only [ldnK] at h
    obtain ⟨v, v', h1, h2, h3, h4⟩ := ldK_ok h hr hL
    obtain ⟨_, vs, vs', k1, k2, k3, k4⟩ := ldnK_ok hr hL n (off + 1) h1
    refine ⟨.inr h4, v :: vs, v' :: vs', k1, .cons h3 k2, by simp [k3], fun j x e => ?_⟩
    cases j with
    | zero => simp at e; subst e; exact h2
    | succ j =>
      have := k4 j x (by simpa using e)
      rwa [show off + 1 + j = off + (j + 1) from by omega] at this

/-- Is a place in an own block of cells? -/
theorem st1K_ok (P : Program) {id off : Nat} {L : Loc} {v : V} {v' : Value} {K : H → Option α} {r : α} (h : st1K σ id off v K = some r) (hr : HR C ρ own σ w) (hL : ρ id = some L) (hv : Rel ρ v v') :
    ∃ σ', K σ' = some r ∧ (store (L.at off) v').run P w = .ok () (w.setCell (L.at off) v') ∧ L.lo ≤ off ∧
      HR C ρ own σ' (w.setCell (L.at off) v') ∧ Fr ρ own σ w ρ own σ' (w.setCell (L.at off) v') := by
  unfold st1K at h
  split at h
  · rename_i c z lo hi ho
    obtain ⟨hc, hK⟩ := bif_then h
    simp only [Bool.and_eq_true, leB_iff, blt_iff] at hc
    obtain ⟨⟨hlo, hhi⟩, h1⟩ := hc
    obtain ⟨q1, q2, q3, arr, el, fr, q4, q5, q6, q7⟩ := hr.obj _ _ _ hL ho
    simp at q1
    obtain ⟨u, e, _⟩ := q7 off hlo hhi
    have hcell : w.cell? (L.at off) = some u := by unfold Loc.at; rw [getElem_cell q4]; exact e
    have hfr : w.frozen? (L.at off) = false := q6 rfl (off - L.lo) (by omega)
    have hrun : (store (L.at off) v').run P w = .ok () (w.setCell (L.at off) v') := by
      rw [run_store P w _ _ _ (rel_one hv h1), hcell]; simp [hfr]
    have hblk : (w.setCell (L.at off) v').heap[L.blk]? = some (.cells (arr.setIfInBounds (L.base + (off - L.lo)) v') el fr) := by
      simp only [World.setCell, Loc.at, Array.getElem?_modify, q4]; simp
    obtain ⟨m1, m2⟩ := hr.mut hL q1 (.cells (c.set off v) z lo hi false) (w' := w.setCell (L.at off) v')
      (fun b hb => RowKit.Below.heap_setCell _ _ _ _ (by simpa [Loc.at] using hb)) (by simp) rfl rfl rfl
      ⟨by simp [q1], q2, q3, _, el, fr, hblk, by simpa using q5, fun _ j hj => by
          have := q6 rfl j hj
          simp only [World.frozen?, q4] at this
          simp only [World.frozen?, hblk]
          exact this,
        fun o ho1 ho2 => by
          by_cases eo : o = off
          · subst eo
            refine ⟨v', ?_, ?_⟩
            · have hb := (Array.getElem?_eq_some_iff.1 e).1
              simp [hb]
            · simp only [cget, T.get_set_same]; exact hv
          · obtain ⟨x, ex, rx⟩ := q7 o ho1 ho2
            refine ⟨x, ?_, ?_⟩
            · rw [Array.getElem?_setIfInBounds_ne (by omega)]; exact ex
            · simp only [cget, T.get_set_ne _ _ eo]; exact rx⟩
      (fun ⟨_, e9⟩ => by rw [q4] at e9; cases e9)
    exact ⟨_, hK, hrun, by omega, m1, m2⟩
  · cases h

theorem stnK_ok (P : Program) {id : Nat} {L : Loc} (hL : ρ id = some L) : ∀ (vs : List V) (vs' : List Value) (off : Nat) {σ : H} {w : World} {K : H → Option α} {r : α} (i : Nat) (a : Addr),
    stnK σ id off vs K = some r → HR C ρ own σ w → RelL ρ vs vs' → (vs ≠ [] → a.add i = L.at off) → a.spot = none →
    ∃ σ' w', K σ' = some r ∧ (storeCells a vs' i).run P w = .ok () w' ∧ HR C ρ own σ' w' ∧ Fr ρ own σ w ρ own σ' w'
  | [], vs', off, σ, w, K, r, i, a, h, hr, hv, _, _ => by
    obtain rfl := hv.nil_inv
    exact ⟨σ, w, h, rfl, hr, .refl _ _ _ _⟩
  | v :: vs, vs', off, σ, w, K, r, i, a, h, hr, hv, ha, hs => by
    obtain ⟨v', vs', rfl, hv1, hv2⟩ := hv.cons_inv
    simp only [stnK] at h
    obtain ⟨σ1, h1, h2, h3, h4, h5⟩ := st1K_ok P h hr hL hv1
    have hadd := ha (by simp)
    obtain ⟨σ2, w2, k1, k2, k3, k4⟩ := stnK_ok P hL vs vs' (off + 1) (i + 1) a h1 h4 hv2 (fun _ => by
      rw [add_add a hs i 1, hadd, Loc.at_add h3]) hs
    refine ⟨σ2, w2, k1, ?_, k3, h5.trans k4⟩
    simp only [storeCells, Sem.run_bind, hadd, h2, Result.andThen_ok, k2]
end
end Ak
