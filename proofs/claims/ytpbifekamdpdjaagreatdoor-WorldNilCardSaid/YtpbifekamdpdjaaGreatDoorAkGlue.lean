/- From a run of the evaluator to a call of the machine that answers true and leaves what was there; the start. -/
import Derived.Test.YtpbifekamdpdjaaGreatDoorAkSort2
import Derived.Test.YtpbifekamdpdjaaGreatDoorAkFok
import GoSem.ClaimWide
import Derived.ChangeMaps5
namespace Ak
open Go Go.RowKit
set_option linter.unusedVariables false
set_option linter.unusedSimpArgs false
/-- The answer: true. -/
noncomputable def isT (v : V) (_ : H) : R := boolF v fun b => ckB b (some ())
theorem isT_some {v : V} {σ : H} {r : Unit} (h : isT v σ = some r) : v = .bool true := by
  unfold isT at h
  rw [boolF_eq] at h
  split at h
  · rename_i b
    obtain ⟨e, _⟩ := ckB_some h
    rw [e]
  · cases h
theorem rel_bool_inv' {ρ : Rho} {b : Bool} {v' : Value} (h : Rel ρ (.bool b) v') : v' = .bool b := by cases h; rfl
theorem Fr.below {ρ ρ' : Rho} {own' : Own} {σ σ' : H} {w w' : World} (h : Fr ρ (fun _ => none) σ w ρ' own' σ' w') : Below w.heap.size w w' :=
  ⟨h.os, h.tape, h.out, h.size, fun k hk => (h.heap k hk rfl).2⟩
theorem walk_of_run {P : Program} {gl : List Nat} {F : Nat → Option Af} {S : Nat → Option Sm} {lf n f : Nat} {args : List V} {σ : H} (hm : P.follows .mixedOrders = true) (h8 : 8 ≤ P.depth) (hF : FOk P (tiOf P) gl F) (hS : SOk P (tiOf P) gl S)
    (run : callF F S lf n (.rf f) args σ isT = some ()) {ρ : Rho} {W : World} {args' : Array Value} (ha : RelL ρ args args'.toList) (hr : HR (CC (tiOf P) gl) ρ (fun _ => none) σ W) (hg : GlR gl ρ) :
    Calls P f args' W fun e W' => e = .returned (.bool true) ∧ Below W.heap.size W W' := by
  rw [callF_eq] at run
  refine (callsOf (tiOf_ok P) (tiOf_eq P h8) hm hF hS run ha hr hg).mono ?_
  rintro e W' ⟨v', rfl, v, σ', ρ', own', h1, h2, h3, h4⟩
  obtain rfl := isT_some h1
  rw [rel_bool_inv' h2]
  exact ⟨rfl, h4.below⟩

/-- Where the package-level variables lie. -/
def rho0 (N : Nat) (top : Nat → Nat) : Rho := fun g => if g < N then some ⟨g, 0, 0, top g⟩ else none
theorem glR0 {N : Nat} {top : Nat → Nat} {gl : List Nat} (h : ∀ g, isIn gl g = true → g < N) : GlR gl (rho0 N top) := fun g e => ⟨top g, by simp [rho0, h g e]⟩
theorem hr0 {C : Cor} {N : Nat} {top : Nat → Nat} {σ : H} {W : World} (hN : N = σ.next) (hsz : N ≤ W.heap.size)
    (ho : ∀ g o, σ.get g = some o → g < N → ∃ c z, o = .cells c z 0 (top g) true ∧ ∃ arr el fr, W.heap[g]? = some (.cells arr el fr) ∧ top g ≤ arr.size ∧ ∀ off, off < top g → ∃ v', arr[off]? = some v' ∧ Rel (rho0 N top) (cget c z off) v') :
    HR C (rho0 N top) (fun _ => none) σ W := by
  refine ⟨fun id L e => ?_, fun id L o e ex => ?_, fun b id e => by cases e⟩
  · unfold rho0 at e
    split at e
    · rename_i h; cases e; exact ⟨by omega, by simp; omega⟩
    · cases e
  · unfold rho0 at e
    split at e
    · rename_i h
      cases e
      obtain ⟨c, z, rfl, arr, el, fr, h1, h2, h3⟩ := ho id o ex h
      exact ⟨rfl, Nat.le_refl _, by simp, arr, el, fr, h1, by simpa using h2, (fun e => by cases e), fun off _ hlt => by
        obtain ⟨v', e1, e2⟩ := h3 off hlt
        exact ⟨v', by simpa using e1, e2⟩⟩
    · cases e

/-! Arguments. -/
theorem cell_int {P : Program} {w : World} {r : Reach} {base : Nat} {u : TypeId} {k : IntKind} {v : Value} (hu : P.underlying u = some (.int k)) (h : Cell.okWide P w r base u v) : ∃ n, v = .int k n := by
  unfold Cell.okWide at h
  rw [hu] at h
  have h2 : Cell.ok P w r base u v := by
    cases v <;> exact h
  unfold Cell.ok at h2
  rw [hu] at h2
  cases v <;> simp at h2
  rename_i k' n
  exact ⟨n, by rw [h2.1]⟩
theorem cell_str {P : Program} {w : World} {r : Reach} {base : Nat} {u : TypeId} {v : Value} (hu : P.underlying u = some .string) (h : Cell.okWide P w r base u v) : ∃ s, v = .string s := by
  unfold Cell.okWide at h
  rw [hu] at h
  have h2 : Cell.ok P w r base u v := by
    cases v <;> exact h
  unfold Cell.ok at h2
  rw [hu] at h2
  cases v <;> simp at h2
  exact ⟨_, rfl⟩
/-- A struct's cells. -/
theorem agg_cells {P : Program} {w : World} {r : Reach} {base : Nat} {t : TypeId} {fs : Array Field} {ts : List TypeId} {v : Value} (hu : P.underlying t = some (.struct fs)) (h : Value.okWide P w r base t v) (hts : P.cellTypes P.depth t = some ts) (hn : P.cellsOf t = ts.length) :
    ∃ l : List Value, v = .agg ⟨l⟩ ∧ l.length = ts.length ∧ ∀ (i : Nat) (x : Value) (u : TypeId), l[i]? = some x → ts[i]? = some u → Cell.okWide P w r base u x := by
  unfold Value.okWide at h
  rw [hu] at h
  obtain ⟨cs, rfl, hsz, ts', h1, _, h2⟩ := h
  rw [hts] at h1
  cases h1
  refine ⟨cs.toList, rfl, by simpa [hn] using hsz, fun i x u e1 e2 => ?_⟩
  obtain ⟨u', h3, h4⟩ := h2 i x (by simpa using e1)
  have hlt : i < ts.length := (List.getElem?_eq_some_iff.1 e2).1
  rw [Nat.mod_eq_of_lt hlt, e2] at h3
  cases h3
  exact h4
theorem cell_slc {P : Program} {w : World} {r : Reach} {base : Nat} {u e : TypeId} {v : Value} (hu : P.underlying u = some (.slice e)) (h : Cell.okWide P w r base u v) :
    v = .slice none 0 0 ∨ ∃ (b o len cap : Nat), v = .slice (some ⟨b, o, none⟩) len cap ∧ len ≤ cap ∧ b < w.heap.size := by
  unfold Cell.okWide at h
  rw [hu] at h
  have h2 : Cell.ok P w r base u v := by
    cases v <;> exact h
  unfold Cell.ok at h2
  rw [hu] at h2
  cases v with
  | slice a len cap =>
    cases a with
    | none =>
      cases len with
      | zero => cases cap with
        | zero => exact .inl rfl
        | succ n => exact h2.elim
      | succ n => exact h2.elim
    | some a =>
      obtain ⟨h3, _, h4⟩ := h2
      obtain ⟨_, h5, row, cells, h6, _⟩ := h4
      obtain ⟨b, o, s⟩ := a
      simp only at h5 h6
      subst h5
      refine .inr ⟨b, o, len, cap, rfl, h3, ?_⟩
      unfold World.shape? at h6
      cases hb : w.heap[b]? with
      | none => rw [hb] at h6; cases h6
      | some x => exact (Array.getElem?_eq_some_iff.1 hb).1
  | _ => exact h2.elim
/-- An argument's memory, beside what is known. -/
theorem HR.addArg {C : Cor} {ρ : Rho} {own : Own} {σ : H} {w : World} (h : HR C ρ own σ w) {L : Loc} (hL : L.blk < w.heap.size) (hn : σ.get σ.next = none) : HR C (ρ.add σ.next L) own { σ with next := σ.next + 1 } w := by
  have hx : Ext ρ (ρ.add σ.next L) := Rho.ext_add h.fresh
  refine ⟨fun id M e => ?_, fun id M o e ex => ?_, h.own⟩
  · unfold Rho.add at e
    split at e
    · rename_i hi; cases e; subst hi; exact ⟨Nat.lt_succ_self _, hL⟩
    · exact ⟨Nat.lt_succ_of_lt (h.dom id M e).1, (h.dom id M e).2⟩
  · have ex2 : σ.get id = some o := ex
    unfold Rho.add at e
    split at e
    · rename_i hi; subst hi; rw [hn] at ex2; cases ex2
    · exact (h.obj id M o e ex2).stable hx rfl rfl
theorem rel_slcArg {ρ : Rho} {id b o len cap : Nat} (h : ρ id = some ⟨b, o, 0, cap⟩) (hl : len ≤ cap) : Rel ρ (.slc id 0 1 len cap true) (.slice (some ⟨b, o, none⟩) len cap) :=
  .slc id 0 1 len cap true ⟨b, o, 0, cap⟩ ⟨b, o, none⟩ cap h (Nat.le_refl _) hl (Nat.le_refl _) (fun _ => rfl) (by simp) (fun _ => by simp [Loc.at])
theorem rel_str (ρ : Rho) (b : ByteArray) : Rel ρ (.str (b.data.toList.map UInt8.toNat)) (.string b) := .str _ b rfl

/-! A function without arguments that answers true, run once: a summary. -/
/-- The variable layout.least: three whole numbers in a row, at number 1. -/
noncomputable def leastF (σ : H) (r : R) : R := getF σ 1 fun o => cellsO o fun c z lo hi ro => ckB ro (ckB (Nat.beq lo 0) (ckB (Nat.beq hi 3)
  (cgetF c z 0 fun a => cgetF c z 1 fun b => cgetF c z 2 fun d => eqkF 0 a (.int .i64 (.ofNat 1)) fun x => ckB x (eqkF 0 b (.int .i64 (.ofNat 2)) fun y => ckB y (eqkF 0 d (.int .i64 (.ofNat 2)) fun q => ckB q r)))))
def leastO : O := .cells (.nd (.nd .lf (some (.int .i64 (.ofNat 2))) .lf) (some (.int .i64 (.ofNat 1))) (.nd .lf (some (.int .i64 (.ofNat 2))) .lf)) [] 0 3 true
/-- The start heap of N variables. -/
def σl (N : Nat) : H := { next := N, obs := .nd (.nd .lf (some leastO) .lf) none .lf, log := [] }
noncomputable def trueS : Sm := fun args σ K => nilA args (leastF σ (K (.bool true) σ))
theorem eqkF_some {a : V} {k : Int} {K : Bool → R} {r : R} {x : Unit} (h : (eqkF 0 a (.int .i64 k) fun y => ckB y r) = some x) : a = .int .i64 k ∧ r = some x := by
  rw [eqkF_eq] at h
  cases a <;> try (cases h; done)
  rename_i l b
  simp only [eqk] at h
  cases hk : kindB l .i64 with
  | false => rw [hk] at h; cases h
  | true =>
    rw [hk] at h
    obtain ⟨h1, h2⟩ := ckB_some h
    have h3 : l = .i64 := by simpa [kindB] using hk
    have h4 : b = k := by simpa using h1
    exact ⟨by rw [h3, h4], h2⟩
theorem leastF_some {σ : H} {r : R} {x : Unit} (h : leastF σ r = some x) : r = some x ∧ ∃ c z, σ.get 1 = some (.cells c z 0 3 true) ∧ cget c z 0 = .int .i64 1 ∧ cget c z 1 = .int .i64 2 ∧ cget c z 2 = .int .i64 2 := by
  unfold leastF at h
  rw [getF_eq] at h
  split at h
  · rename_i o ho
    rw [cellsO_eq] at h
    split at h
    · rename_i c z lo hi ro
      obtain ⟨h1, hA⟩ := ckB_some h
      clear h
      obtain ⟨h2, hB⟩ := ckB_some hA
      clear hA
      obtain ⟨h3, hC⟩ := ckB_some hB
      clear hB
      simp only [cgetF_eq] at hC
      obtain ⟨e1, hD⟩ := eqkF_some (K := fun _ => none) hC
      clear hC
      obtain ⟨e2, hE⟩ := eqkF_some (K := fun _ => none) hD
      clear hD
      obtain ⟨e3, hr⟩ := eqkF_some (K := fun _ => none) hE
      clear hE
      have h2 := Nat.eq_of_beq_eq_true h2
      have h3 := Nat.eq_of_beq_eq_true h3
      subst h1 h2 h3
      exact ⟨hr, c, z, ho, e1, e2, e3⟩
    · cases h
  · cases h
theorem true_ok {P : Program} {gl : List Nat} {F : Nat → Option Af} {S : Nat → Option Sm} {lf n f N : Nat} (hm : P.follows .mixedOrders = true) (h8 : 8 ≤ P.depth) (hF : FOk P (tiOf P) gl F) (hS : SOk P (tiOf P) gl S) (hN : 1 < N) (hgl : ∀ g, isIn gl g = true → g < N)
    (run : callF F S lf n (.rf f) [] (σl N) isT = some ()) (args : List V) (σ : H) (K : V → H → R) (r : Unit) (h : trueS args σ K = some r) : CallOk P (tiOf P) gl (.fn f) args σ K r := by
  intro ρ own w args' ha hr hg
  obtain ⟨h0, h⟩ := nilA_some h
  subst h0
  obtain ⟨hK, c, z, hl, e0, e1, e2⟩ := leastF_some h
  have hsmall : HR (CC (tiOf P) gl) (fun id => if id < N then ρ id else none) (fun _ => none) (σl N) w := by
    refine ⟨fun id L e => ?_, fun id L o e ex => ?_, fun b id e => by cases e⟩
    · split at e
      · rename_i hi; exact ⟨hi, (hr.dom id L e).2⟩
      · cases e
    · split at e
      · have h1 : id = 1 := by
          cases id with
          | zero => cases ex
          | succ k => cases k with
            | zero => rfl
            | succ j =>
              exfalso
              have hj := Nat.mod_two_eq_zero_or_one (j + 1)
              simp only [σl, H.get, T.get] at ex
              rcases hj with hj | hj
              · rw [hj] at ex
                simp only at ex
                have : (j + 1) / 2 ≠ 0 := by omega
                cases hq : (j + 1) / 2 with
                | zero => exact absurd hq this
                | succ m =>
                  rw [hq] at ex
                  simp only [T.get, T.get_lf] at ex
                  split at ex <;> cases ex
              · rw [hj] at ex
                simp only [T.get_lf] at ex
                cases ex
        subst h1
        cases ex
        obtain ⟨_, h2, h3, arr, el, fr, h4, h5, _, h7⟩ := hr.obj 1 L _ e hl
        refine ⟨rfl, h2, h3, arr, el, fr, h4, h5, (fun e => by cases e), fun off a b => ?_⟩
        have hoff : off = 0 ∨ off = 1 ∨ off = 2 := by omega
        rcases hoff with rfl | rfl | rfl
        · obtain ⟨v', k1, k2⟩ := h7 0 a b; rw [e0] at k2; cases k2; exact ⟨_, k1, .int _ _⟩
        · obtain ⟨v', k1, k2⟩ := h7 1 a b; rw [e1] at k2; cases k2; exact ⟨_, k1, .int _ _⟩
        · obtain ⟨v', k1, k2⟩ := h7 2 a b; rw [e2] at k2; cases k2; exact ⟨_, k1, .int _ _⟩
      · cases e
  have hgs : GlR gl (fun id => if id < N then ρ id else none) := fun g e => by
    obtain ⟨t, e2⟩ := hg g e
    exact ⟨t, by simp [hgl g e, e2]⟩
  rw [callF_eq] at run
  have ha0 : args' = #[] := by have := ha.nil_inv; cases args'; simp_all
  subst ha0
  obtain ⟨fn, q1, q2, q3, q4⟩ := callN_ok (tiOf_ok P) (tiOf_eq P h8) hF hS (drw_ok (tiOf_ok P) (tiOf_eq P h8) hm) lf n (.rf f) [] (σl N) isT () run _ _ w #[] (.nil _) hsmall hgs
  refine .inl ⟨fn, q1, q2, q3, fun m => callsIn_wide.2 ((callsIn_wide.1 (q4 m)).mono ?_)⟩
  rintro e w' ⟨v', rfl, v, σ', ρ', own', k1, k2, k3, k4⟩
  obtain rfl := isT_some k1
  rw [rel_bool_inv' k2]
  obtain ⟨g1, g2⟩ := hr.below k4.below
  exact ⟨_, rfl, .bool true, σ, ρ, own, hK, .bool true, g1, g2⟩
end Ak
