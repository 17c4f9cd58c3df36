/- Regions that draw their order: the machine does what the evaluator has done. -/
import Derived.Test.YtpbifekamdpdjaaGreatDoorAkDrw4
namespace Ak
open Go
section
variable {P : Program} {TI : TypeId → Option Ti} {gl : List Nat} {α : Type}

theorem cAos_get {nt : Nat} {ops : Array Oper} : ∀ {l : List Oper} {as : List Ao}, cAos TI gl nt ops l = some as → as.length = l.length ∧ ∀ (i : Nat) (o : Oper), l[i]? = some o → ∃ a, as[i]? = some a ∧ cAo TI gl nt ops o = some a
  | [], as, h => by cases h; exact ⟨rfl, fun i o h => by simp at h⟩
  | o :: l, as, h => by
    simp only [cAos] at h
    split at h
    · rename_i a as' h1 h2
      cases h
      obtain ⟨k1, k2⟩ := cAos_get h2
      refine ⟨by simp [k1], fun i o' ho => ?_⟩
      cases i with
      | zero => simp at ho; subst ho; exact ⟨a, rfl, h1⟩
      | succ i => exact k2 i o' (by simpa using ho)
    · cases h

/-- A block laid for a number that was allotted before. -/
theorem HR.adopt {C : Cor} {ρ : Rho} {own : Own} {σ : H} {w : World} (h : HR C ρ own σ w) {a : Nat} {L : Loc} {ob : Obj} {o : O} (ha : ρ a = none) (hlt : a < σ.next) (hg : σ.get a = some o) (hL : L.blk = w.heap.size)
    (ho : OR C (ρ.add a L) (own.add w.heap.size a) (w.alloc ob) a L o) : HR C (ρ.add a L) (own.add w.heap.size a) σ (w.alloc ob) := by
  have hold : ∀ b, b < w.heap.size → (w.alloc ob).heap[b]? = w.heap[b]? := fun b hb => RowKit.Below.heap_alloc w ob b hb
  refine ⟨fun id M e => ?_, fun id M x e ex => ?_, fun b id e => ?_⟩
  · unfold Rho.add at e
    split at e
    · rename_i hi; cases e; subst hi; exact ⟨hlt, by rw [hL]; simp⟩
    · obtain ⟨x, y⟩ := h.dom _ _ e; exact ⟨x, by simp; omega⟩
  · by_cases hi : id = a
    · subst hi
      have : L = M := by simpa [Rho.add] using e
      subst this
      rw [hg] at ex; cases ex
      exact ho
    · have e' : ρ id = some M := by simpa [Rho.add, hi] using e
      have hb := (h.dom _ _ e').2
      exact (h.obj id M x e' ex).stable (Rho.ext_add ha) (hold _ hb) (by unfold Own.add; rw [if_neg (by omega)])
  · unfold Own.add at e
    split at e
    · rename_i hb; subst hb; simp
    · have := h.own _ _ e; simp; omega

theorem Fr.adopt {ρ ρ0 : Rho} {own own0 : Own} {σ σ0 : H} {w w0 : World} (f : Fr ρ0 own0 σ0 w0 ρ own σ w) {a : Nat} {L : Loc} {ob : Obj} (ha : ρ a = none) (hn : σ0.next ≤ a) :
    Fr ρ0 own0 σ0 w0 (ρ.add a L) (own.add w.heap.size a) σ (w.alloc ob) := by
  have hold : ∀ b, b < w.heap.size → (w.alloc ob).heap[b]? = w.heap[b]? := fun b hb => RowKit.Below.heap_alloc w ob b hb
  refine ⟨f.ext.trans (Rho.ext_add ha), f.next, fun id e hi => ?_, f.log, fun b hb e => ?_, by have := f.size; simp; omega, f.os, f.tape, f.out, fun b hb => ?_⟩
  · obtain ⟨x, y⟩ := f.un id e hi
    exact ⟨by unfold Rho.add; rw [if_neg (by omega)]; exact x, y⟩
  · obtain ⟨x, y⟩ := f.heap b hb e
    have := f.size
    exact ⟨by unfold Own.add; rw [if_neg (by omega)]; exact x, (hold b (by omega)).trans y⟩
  · obtain ⟨r, e⟩ := f.lps b hb
    exact ⟨r, (hold b (Array.getElem?_eq_some_iff.1 e).1).trans e⟩

theorem alc_congr (p : Ap) {e e' : X → V} (h : ∀ x ∈ p.xs, e' x = e x) : alc p e' = alc p e := by
  cases p <;> simp only [Ap.xs, List.mem_cons, List.not_mem_nil, or_false, forall_eq_or_imp, forall_eq, List.mem_append, Option.mem_toList] at h <;> simp only [alc]
  case bsl zs len ps => rw [buildL_congr (zcells zs len) (e := e) (e' := e') (fun y hy => h y (by simpa using hy))]
  case box x => rw [h]
  case s2b x => rw [h]
  case mkMh x => rw [h]
  case mkS zs b x y => rw [h.1, h.2]

variable {hd : Hd α} {ops : Array Oper} {asl : List Ao} {befs : List (List Nat)} {ord : List Nat} {K : Ex → T V → H → Option α} {r : α} {nt B : Nat} {ro : Option Nat} {ρ0 : Rho} {own0 : Own} {σ0 : H} {w0 : World} {L : Nat → Bool} {act : Act} {w : World}

def listedAt (L : Nat → Bool) (i : Nat) : Nat → Bool := fun j => if j = i then true else L j

/-- The machine has done a delayed one. -/
theorem Inv.caught {Pp : Nat} {A : Nat → Option Nat} {lds : List (List Nat × List Nat)} {tmP tms : T V} {σP : H} {ρ : Rho} {own : Own} (hF : DF ops.toList asl befs ord) (h : Inv TI gl hd asl befs ord K r nt B ro ρ0 own0 σ0 w0 L act w Pp A lds tmP tms σP ρ own)
    {q : Nat} (hq : q < Pp) (hL : L (ord.getD q 0) = false) (hrd : ∀ j ∈ befs.getD (ord.getD q 0) [], L j = true) {v : V} (hv : ∀ t, (aoAt asl (ord.getD q 0)).dst = some t → tmP.get t = some v) {ρ1 : Rho} {own1 : Own} {act' : Act} {w' : World}
    (hA : At TI gl B ro nt ρ1 own1 (cv tms (aoAt asl (ord.getD q 0)).dst v) σP act' w') (hfr : Fr ρ0 own0 σ0 w0 ρ1 own1 σP w') (hun : ∀ q' a, q' ≠ q → A q' = some a → ρ a = none → a < σP.next → ρ1 a = none) :
    Inv TI gl hd asl befs ord K r nt B ro ρ0 own0 σ0 w0 (listedAt L (ord.getD q 0)) act' w' Pp A lds tmP (cv tms (aoAt asl (ord.getD q 0)).dst v) σP ρ1 own1 := by
  have hP := h.hP
  have hqn : q < asl.length := by omega
  have hO := hF.lt q hqn
  obtain ⟨hdst, hnam, hef⟩ := aoAt_dst hO
  have hsame : ∀ p, p < asl.length → ord.getD p 0 = ord.getD q 0 → p = q := by
    intro p hp e
    rcases Nat.lt_trichotomy p q with h1 | h1 | h1
    · exact absurd e (hF.inj p q h1 hqn)
    · exact h1
    · exact absurd e.symm (hF.inj q p h1 hp)
  refine ⟨hP, h.run, hA, hfr, fun p hp hl => ?_, fun p hp he => ?_, fun t => ?_, fun q' hq' hL' => ?_, h.ainj, h.abnd⟩
  · unfold listedAt at hl
    split at hl
    · rename_i e; rw [hsame p hp e]; exact hq
    · exact h.done p hp hl
  · unfold listedAt
    split
    · rfl
    · exact h.effs p hp he
  · rw [cv_get]
    by_cases hd2 : (aoAt asl (ord.getD q 0)).dst = some t
    · rw [if_pos hd2]; exact .inr (hv t hd2).symm
    · rw [if_neg hd2]
      rcases h.tmr t with ⟨p, h1, h2, h3⟩ | h1
      · refine .inl ⟨p, h1, ?_, h3⟩
        unfold listedAt
        rw [if_neg]
        · exact h2
        · intro e; rw [e, hdst] at h3; exact hd2 h3
      · exact .inr h1
  · unfold listedAt at hL'
    split at hL'
    · cases hL'
    · rename_i hne
      obtain ⟨tmq, vq, d1, d2, d3⟩ := h.del q' hq' hL'
      have hqq : q' ≠ q := fun e => hne (by rw [e])
      refine ⟨tmq, vq, fun t ht => ?_, d2, ?_⟩
      · rw [cv_get]
        rcases d1 t ht with ⟨p, h1, h2, h3, h4, h5⟩ | h1
        · by_cases e : ord.getD p 0 = ord.getD q 0
          · rw [e, hdst] at h3
            rw [if_pos h3, h5, hv t h3]
            refine .inr ⟨fun p' hp' hpd => ?_, rfl⟩
            unfold listedAt
            by_cases e2 : ord.getD p' 0 = ord.getD q 0
            · rw [if_pos e2]
            · exact absurd hpd (hF.dst _ _ t hO (hF.lt p' (by omega)) (fun x => e2 x.symm) (by rw [hdst]; exact h3))
          · refine .inl ⟨p, h1, ?_, h3, h4, h5⟩
            unfold listedAt; rw [if_neg e]; exact h2
        · obtain ⟨h1, h2⟩ := h1
          by_cases hd2 : (aoAt asl (ord.getD q 0)).dst = some t
          · -- the writer stands in an order to it
            exfalso
            have hq'n : q' < asl.length := by omega
            have hO' := hF.lt q' hq'n
            rcases hF.nam _ _ t hO hO' (fun e => hne e.symm) (by rw [hdst]; exact hd2) (by rw [(aoAt_dst hO').2.1]; exact ht) with h4 | h4
            · have := hF.bef q q' hqn hq'n h4
              rw [h1 q this (by rw [hdst]; exact hd2)] at hL
              cases hL
            · rw [hrd _ h4] at hL'; cases hL'
          · rw [if_neg hd2]
            refine .inr ⟨fun p hp hpd => ?_, h2⟩
            unfold listedAt
            split
            · rfl
            · exact h1 p hp hpd
      · rcases d3 with d3 | d3 | ⟨e1, e2, o, f, a, e3, e4, e5, e6, e7, e8, e9⟩
        · exact .inl d3
        · exact .inr (.inl d3)
        · exact .inr (.inr ⟨e1, e2, o, f, a, e3, e4, e5, hun q' a hqq e4 e6 e9, e7, e8, e9⟩)
end
end Ak
