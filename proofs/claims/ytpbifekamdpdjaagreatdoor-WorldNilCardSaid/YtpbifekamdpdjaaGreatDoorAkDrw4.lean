/- Regions that draw their order: the invariant; the evaluator goes ahead. -/
import Derived.Test.YtpbifekamdpdjaaGreatDoorAkDrw3
namespace Ak
open Go

def aoAt (asl : List Ao) (i : Nat) : Ao := asl.getD i { dst := none, op := .bad, g := none }

/-- An operation that the evaluator has done and the machine has not. -/
def Del {α : Type} (hd : Hd α) (asl : List Ao) (befs : List (List Nat)) (ord : List Nat) (A : Nat → Option Nat) (L : Nat → Bool) (Pp : Nat) (lds : List (List Nat × List Nat)) (tmP tms : T V) (σP : H) (ρ : Rho) (n0 : Nat) (q : Nat) : Prop :=
  ∃ tmq v, (∀ t ∈ aoNames (aoAt asl (ord.getD q 0)), (∃ p, p < Pp ∧ L (ord.getD p 0) = false ∧ dstOf asl (ord.getD p 0) = some t ∧ ord.getD p 0 ∈ befs.getD (ord.getD q 0) [] ∧ tmq.get t = tmP.get t) ∨ ((∀ p, p < q → dstOf asl (ord.getD p 0) = some t → L (ord.getD p 0) = true) ∧ tms.get t = tmq.get t)) ∧
    (∀ t, (aoAt asl (ord.getD q 0)).dst = some t → tmP.get t = some v) ∧
    ((gdV (aoAt asl (ord.getD q 0)).g tmq = some false ∧ v = .tup []) ∨
     (gdV (aoAt asl (ord.getD q 0)).g tmq = some true ∧ isAlc (aoAt asl (ord.getD q 0)).op = false ∧
       (∀ (σ' : H) (K' : V → H → Option α), (∀ id ∈ reads (aoAt asl (ord.getD q 0)).op (ev tmq), σ'.get id = σP.get id) → opK hd (aoAt asl (ord.getD q 0)).op (ev tmq) σ' K' = K' v σ') ∧
       (∀ id ∈ reads (aoAt asl (ord.getD q 0)).op (ev tmq), id < σP.next) ∧ (reads (aoAt asl (ord.getD q 0)).op (ev tmq), unOf asl befs ord q) ∈ lds) ∨
     (gdV (aoAt asl (ord.getD q 0)).g tmq = some true ∧ isAlc (aoAt asl (ord.getD q 0)).op = true ∧
       ∃ o f a, alc (aoAt asl (ord.getD q 0)).op (ev tmq) = some (o, f) ∧ A q = some a ∧ v = f a ∧ ρ a = none ∧ σP.get a = some o ∧ n0 ≤ a ∧ a < σP.next))

structure Inv {α : Type} (TI : TypeId → Option Ti) (gl : List Nat) (hd : Hd α) (asl : List Ao) (befs : List (List Nat)) (ord : List Nat) (K : Ex → T V → H → Option α) (r : α) (nt B : Nat) (ro : Option Nat) (ρ0 : Rho) (own0 : Own) (σ0 : H) (w0 : World)
    (L : Nat → Bool) (act : Act) (w : World) (Pp : Nat) (A : Nat → Option Nat) (lds : List (List Nat × List Nat)) (tmP tms : T V) (σP : H) (ρ : Rho) (own : Own) : Prop where
  hP : Pp ≤ asl.length
  run : drwK hd ((drwL asl befs ord).drop Pp) Pp lds tmP σP (K .normal) = some r
  at_ : At TI gl B ro nt ρ own tms σP act w
  fr : Fr ρ0 own0 σ0 w0 ρ own σP w
  done : ∀ p, p < asl.length → L (ord.getD p 0) = true → p < Pp
  effs : ∀ p, p < Pp → aoEff asl (ord.getD p 0) = true → L (ord.getD p 0) = true
  tmr : ∀ t, (∃ p, p < Pp ∧ L (ord.getD p 0) = false ∧ dstOf asl (ord.getD p 0) = some t) ∨ tms.get t = tmP.get t
  del : ∀ q, q < Pp → L (ord.getD q 0) = false → Del hd asl befs ord A L Pp lds tmP tms σP ρ σ0.next q
  ainj : ∀ q q' a, A q = some a → A q' = some a → q = q'
  abnd : ∀ q a, A q = some a → q < Pp ∧ a < σP.next

section
variable {P : Program} {TI : TypeId → Option Ti} {gl : List Nat} {α : Type}

theorem HR.lay {C : Cor} {ρ : Rho} {own : Own} {σ : H} {w : World} (h : HR C ρ own σ w) (o : O) : HR C ρ own (σ.push o) w :=
  ⟨fun id L e => ⟨Nat.lt_succ_of_lt (h.dom id L e).1, (h.dom id L e).2⟩, fun id L x e ex => by
    have := (h.dom id L e).1
    rw [H.get_push, if_neg (by omega)] at ex
    exact h.obj id L x e ex, h.own⟩
theorem Fr.lay {ρ ρ0 : Rho} {own own0 : Own} {σ σ0 : H} {w w0 : World} (f : Fr ρ0 own0 σ0 w0 ρ own σ w) (o : O) : Fr ρ0 own0 σ0 w0 ρ own (σ.push o) w := by
  have hn := f.next
  refine ⟨f.ext, Nat.le_succ_of_le hn, fun id e hi => ?_, ?_, f.heap, f.size, f.os, f.tape, f.out, f.lps⟩
  · obtain ⟨a, b⟩ := f.un id e hi
    exact ⟨a, by rw [H.get_push, if_neg (by omega)]; exact b⟩
  · obtain ⟨l, e, p⟩ := f.log
    exact ⟨l, e, fun id hi hne => by rw [H.get_push, if_neg (by omega)]; exact p id hi hne⟩

theorem drwL_drop {asl : List Ao} {befs : List (List Nat)} {ord : List Nat} {p : Nat} (hp : p < ord.length) :
    (drwL asl befs ord).drop p = (aoAt asl (ord.getD p 0), aoEff asl (ord.getD p 0), unOf asl befs ord p) :: (drwL asl befs ord).drop (p + 1) := by
  have hl : p < (drwL asl befs ord).length := by simp [drwL, hp]
  rw [List.drop_eq_getElem_cons hl]
  simp [drwL, aoAt]

theorem allLt_ok {n : Nat} : ∀ {l : List Nat}, allLt l n = true → ∀ id ∈ l, id < n
  | [], _, id, h => by cases h
  | a :: l, h, id, hi => by
    simp only [allLt, Bool.and_eq_true] at h
    cases hi with
    | head => exact blt_iff.1 h.1
    | tail _ hi => exact allLt_ok h.2 id hi

theorem cv_get (tm : T V) (dst : Option Nat) (v : V) (t : Nat) : (cv tm dst v).get t = if dst = some t then some v else tm.get t := by
  cases dst with
  | none => simp [cv]
  | some d =>
    simp only [cv, T.get_set, Option.some.injEq]
    by_cases h : t = d
    · subst h; simp
    · rw [if_neg h, if_neg (fun e => h e.symm)]

theorem aoAt_dst {asl : List Ao} {i : Nat} (hi : i < asl.length) : dstOf asl i = (aoAt asl i).dst ∧ namesOf asl i = aoNames (aoAt asl i) ∧ aoEff asl i = apEff (aoAt asl i).op := by
  simp [dstOf, namesOf, aoEff, aoAt, List.getD_eq_getElem?_getD, hi]

theorem ev_xs {op : Ap} {tm tm' : T V} (h : ∀ t ∈ xNames op.xs, tm'.get t = tm.get t) : ∀ x ∈ op.xs, ev tm' x = ev tm x := by
  generalize op.xs = l at h
  induction l with
  | nil => intro x hx; cases hx
  | cons y l ih =>
    intro x hx
    cases y with
    | t i =>
      cases hx with
      | head => simp only [ev]; rw [h i (by simp [xNames])]
      | tail _ hx => exact ih (fun t ht => h t (by simp [xNames, ht])) x hx
    | c v =>
      cases hx with
      | head => rfl
      | tail _ hx => exact ih (fun t ht => h t (by simpa [xNames] using ht)) x hx

variable {hd : Hd α} {ops : List Oper} {asl : List Ao} {befs : List (List Nat)} {ord : List Nat} {K : Ex → T V → H → Option α} {r : α} {nt B : Nat} {ro : Option Nat} {ρ0 : Rho} {own0 : Own} {σ0 : H} {w0 : World} {L : Nat → Bool} {act : Act} {w : World}

/-- One step of the evaluator ahead of the machine. -/
theorem Inv.adv {Pp : Nat} {A : Nat → Option Nat} {lds : List (List Nat × List Nat)} {tmP tms : T V} {σP : H} {ρ : Rho} {own : Own} (hF : DF ops asl befs ord) (h : Inv TI gl hd asl befs ord K r nt B ro ρ0 own0 σ0 w0 L act w Pp A lds tmP tms σP ρ own)
    (hp : Pp < asl.length) (he : aoEff asl (ord.getD Pp 0) = false) : ∃ A' lds' tmP' σP', Inv TI gl hd asl befs ord K r nt B ro ρ0 own0 σ0 w0 L act w (Pp + 1) A' lds' tmP' tms σP' ρ own := by
  have hrun := h.run
  have hO := hF.lt Pp hp
  obtain ⟨hdst, hnam, hef⟩ := aoAt_dst hO
  rw [drwL_drop (by rw [hF.len]; exact hp), he] at hrun
  simp only [drwK, cond_false] at hrun
  obtain ⟨tm', htm', hcase⟩ := gdK_ok hrun
  have hLP : L (ord.getD Pp 0) = false := by
    cases hq : L (ord.getD Pp 0) with
    | false => rfl
    | true => exact absurd (h.done Pp hp hq) (Nat.lt_irrefl _)
  -- the names of the new one
  have hnames : ∀ v, ∀ t ∈ aoNames (aoAt asl (ord.getD Pp 0)), (∃ p, p < Pp + 1 ∧ L (ord.getD p 0) = false ∧ dstOf asl (ord.getD p 0) = some t ∧ ord.getD p 0 ∈ befs.getD (ord.getD Pp 0) [] ∧ tm'.get t = (cv tm' (aoAt asl (ord.getD Pp 0)).dst v).get t) ∨ ((∀ p, p < Pp → dstOf asl (ord.getD p 0) = some t → L (ord.getD p 0) = true) ∧ tms.get t = tm'.get t) := by
    intro v t ht
    by_cases hx : ∃ p, p < Pp ∧ L (ord.getD p 0) = false ∧ dstOf asl (ord.getD p 0) = some t
    · obtain ⟨p, h1, h2, h3⟩ := hx
      have hpn : p < asl.length := by omega
      have hne := hF.inj p Pp h1 hp
      rcases hF.nam _ _ t (hF.lt p hpn) hO hne h3 (by rw [hnam]; exact ht) with h4 | h4
      · refine .inl ⟨p, by omega, h2, h3, h4, ?_⟩
        rw [cv_get, if_neg]
        intro e
        exact hF.own _ t hO (by rw [hdst]; exact e) (by rw [hnam]; exact ht)
      · have := hF.bef Pp p hp hpn h4
        omega
    · refine .inr ⟨fun p h1 h3 => ?_, ?_⟩
      · cases hq : L (ord.getD p 0) with
        | true => rfl
        | false => exact absurd ⟨p, h1, hq, h3⟩ hx
      · rcases h.tmr t with h1 | h1
        · exact absurd h1 hx
        · rw [h1, htm']
  have hdone : ∀ p, p < asl.length → L (ord.getD p 0) = true → p < Pp + 1 := fun p a b => Nat.lt_succ_of_lt (h.done p a b)
  have heffs : ∀ p, p < Pp + 1 → aoEff asl (ord.getD p 0) = true → L (ord.getD p 0) = true := by
    intro p a b
    rcases Nat.lt_succ_iff_lt_or_eq.1 a with a | rfl
    · exact h.effs p a b
    · rw [he] at b; cases b
  -- the rest stays
  have key : ∀ (v : V) (σ' : H) (lds' : List (List Nat × List Nat)) (A' : Nat → Option Nat), drwK hd ((drwL asl befs ord).drop (Pp + 1)) (Pp + 1) lds' (cv tm' (aoAt asl (ord.getD Pp 0)).dst v) σ' (K .normal) = some r →
      At TI gl B ro nt ρ own tms σ' act w → Fr ρ0 own0 σ0 w0 ρ own σ' w → (∀ x ∈ lds, x ∈ lds') → (∀ id, id < σP.next → σ'.get id = σP.get id) → σP.next ≤ σ'.next → (∀ q a, q < Pp → A q = some a → A' q = some a) →
      (∀ q q' a, A' q = some a → A' q' = some a → q = q') → (∀ q a, A' q = some a → q < Pp + 1 ∧ a < σ'.next) →
      Del hd asl befs ord A' L (Pp + 1) lds' (cv tm' (aoAt asl (ord.getD Pp 0)).dst v) tms σ' ρ σ0.next Pp →
      Inv TI gl hd asl befs ord K r nt B ro ρ0 own0 σ0 w0 L act w (Pp + 1) A' lds' (cv tm' (aoAt asl (ord.getD Pp 0)).dst v) tms σ' ρ own := by
    intro v σ' lds' A' k1 k2 k3 k4 k5 k6 k7 k8 k9 k10
    refine ⟨hp, k1, k2, k3, hdone, heffs, fun t => ?_, fun q hq hL => ?_, k8, k9⟩
    · rw [cv_get]
      by_cases hd2 : (aoAt asl (ord.getD Pp 0)).dst = some t
      · exact .inl ⟨Pp, Nat.lt_succ_self _, hLP, by rw [hdst]; exact hd2⟩
      · rw [if_neg hd2, htm']
        rcases h.tmr t with ⟨p, h1, h2⟩ | h1
        · exact .inl ⟨p, by omega, h2⟩
        · exact .inr h1
    · rcases Nat.lt_succ_iff_lt_or_eq.1 hq with hq | rfl
      · obtain ⟨tmq, vq, d1, d2, d3⟩ := h.del q hq hL
        have hqn : q < asl.length := by omega
        refine ⟨tmq, vq, fun t ht => ?_, fun t ht => ?_, ?_⟩
        · rcases d1 t ht with ⟨p, h1, h2, h3, h4, h5⟩ | h1
          · refine .inl ⟨p, by omega, h2, h3, h4, ?_⟩
            rw [cv_get, if_neg, htm']
            · exact h5
            · intro e
              exact hF.dst _ _ t (hF.lt p (by omega)) hO (hF.inj p Pp h1 hp) h3 (by rw [hdst]; exact e)
          · exact .inr h1
        · rw [cv_get, if_neg, htm']
          · exact d2 t ht
          · intro e
            have hq1 := (aoAt_dst (hF.lt q hqn)).1
            exact hF.dst _ _ t (hF.lt q hqn) hO (hF.inj q Pp hq hp) (by rw [hq1]; exact ht) (by rw [hdst]; exact e)
        · rcases d3 with d3 | ⟨e1, e2, e3, e4, e5⟩ | ⟨e1, e2, o, f, a, e3, e4, e5, e6, e7, e8, e9⟩
          · exact .inl d3
          · exact .inr (.inl ⟨e1, e2, fun σ'' K' hs => e3 σ'' K' fun id hid => by rw [hs id hid, k5 id (e4 id hid)], fun id hid => Nat.lt_of_lt_of_le (e4 id hid) k6, k4 _ e5⟩)
          · exact .inr (.inr ⟨e1, e2, o, f, a, e3, k7 q a hq e4, e5, e6, by rw [k5 a e9]; exact e7, e8, Nat.lt_of_lt_of_le e9 k6⟩)
      · exact k10
  rcases hcase with ⟨hg, hc⟩ | ⟨hg, hc⟩
  · obtain ⟨hlt, hc⟩ := bif_then hc
    have hgv : gdV (aoAt asl (ord.getD Pp 0)).g tm' = some true := by rw [gdV_congr (tm := tmP) fun d b _ => htm' d]; exact hg
    cases hal : isAlc (aoAt asl (ord.getD Pp 0)).op with
    | true =>
      obtain ⟨o, f, ha, hk⟩ := alc_opK hal hc
      refine ⟨fun q => if q = Pp then some σP.next else A q, _, _, _, key (f σP.next) (σP.push o) _ _ hk ⟨h.at_.hr.lay o, h.at_.gl, h.at_.tm, h.at_.nt, h.at_.ro, h.at_.dr, h.at_.b⟩ (h.fr.lay o) (fun x hx => List.mem_cons_of_mem _ hx) (fun id hid => by rw [H.get_push, if_neg (by omega)]) (Nat.le_succ _)
        (fun q a hq e => by rw [if_neg (by omega)]; exact e) (fun q q' a e e' => ?_) (fun q a e => ?_) ?_⟩
      · split at e <;> split at e'
        · omega
        · cases e; have := (h.abnd q' _ e').2; omega
        · cases e'; have := (h.abnd q _ e).2; omega
        · exact h.ainj q q' a e e'
      · split at e
        · rename_i hq; cases e; subst hq; exact ⟨Nat.lt_succ_self _, Nat.lt_succ_self _⟩
        · obtain ⟨a1, a2⟩ := h.abnd q a e; exact ⟨by omega, Nat.lt_succ_of_lt a2⟩
      · refine ⟨tm', f σP.next, hnames _, fun t ht => by rw [cv_get, if_pos ht], .inr (.inr ⟨hgv, hal, o, f, σP.next, ha, by simp, rfl, h.at_.hr.fresh, by rw [H.get_push, if_pos rfl], h.fr.next, Nat.lt_succ_self _⟩)⟩
    | false =>
      obtain ⟨v, hk, hpure⟩ := pure_ok (by rw [← hef]; exact he) hal hc
      exact ⟨A, _, _, _, key v σP _ A hk h.at_ h.fr (fun x hx => List.mem_cons_of_mem _ hx) (fun _ _ => rfl) (Nat.le_refl _) (fun _ _ _ e => e) h.ainj (fun q a e => ⟨Nat.lt_succ_of_lt (h.abnd q a e).1, (h.abnd q a e).2⟩)
        ⟨tm', v, hnames _, fun t ht => by rw [cv_get, if_pos ht], .inr (.inl ⟨hgv, hal, hpure, allLt_ok hlt, List.mem_cons_self ..⟩)⟩⟩
  · have hgv : gdV (aoAt asl (ord.getD Pp 0)).g tm' = some false := by rw [gdV_congr (tm := tmP) fun d b _ => htm' d]; exact hg
    exact ⟨A, lds, _, _, key (.tup []) σP lds A hc h.at_ h.fr (fun x hx => hx) (fun _ _ => rfl) (Nat.le_refl _) (fun _ _ _ e => e) h.ainj (fun q a e => ⟨Nat.lt_succ_of_lt (h.abnd q a e).1, (h.abnd q a e).2⟩)
      ⟨tm', .tup [], hnames _, fun t ht => by rw [cv_get, if_pos ht], .inl ⟨hgv, rfl⟩⟩⟩
end
end Ak
