/- Regions that draw their order: an operation with an effect; all orders. -/
import Derived.Test.YtpbifekamdpdjaaGreatDoorAkDrw6
namespace Ak
open Go
section
variable {P : Program} {TI : TypeId → Option Ti} {gl : List Nat} {α : Type}

theorem notIn_ok : ∀ {l : List Nat} {n : Nat}, notIn l n = true → n ∉ l
  | [], n, _, h => by cases h
  | a :: l, n, h, hn => by
    simp only [notIn, Bool.and_eq_true, Bool.not_eq_true'] at h
    cases hn with
    | head => simp at h
    | tail _ hn => exact notIn_ok h.2 hn
theorem allNotIn_ok {log : List Nat} : ∀ {l : List Nat}, allNotIn log l = true → ∀ id ∈ l, id ∉ log
  | [], _, id, h => by cases h
  | a :: l, h, id, hi => by
    simp only [allNotIn, Bool.and_eq_true] at h
    cases hi with
    | head => exact notIn_ok h.1
    | tail _ hi => exact allNotIn_ok h.2 id hi
theorem okLds_ok {pos : Nat} {log : List Nat} : ∀ {lds : List (List Nat × List Nat)}, okLds pos log lds = true → ∀ ids un, (ids, un) ∈ lds → pos ∈ un → ∀ id ∈ ids, id ∉ log
  | [], _, ids, un, h, _ => by cases h
  | (i0, u0) :: lds, h, ids, un, hm, hp => by
    simp only [okLds, Bool.and_eq_true, Bool.or_eq_true, Bool.not_eq_true'] at h
    cases hm with
    | head =>
      rcases h.1 with h1 | h1
      · rw [isIn_iff.2 hp] at h1; cases h1
      · exact allNotIn_ok h1
    | tail _ hm => exact okLds_ok h.2 ids un hm hp

theorem HR.relog {C : Cor} {ρ : Rho} {own : Own} {σ : H} {w : World} (h : HR C ρ own σ w) (l : List Nat) : HR C ρ own { σ with log := l } w := ⟨h.dom, fun id L o e ex => h.obj id L o e ex, h.own⟩
theorem Fr.relog {ρ ρ' : Rho} {own own' : Own} {σ σ' : H} {w w' : World} (f : Fr ρ own { σ with log := [] } w ρ' own' σ' w') : Fr ρ own σ w ρ' own' { σ' with log := σ'.log ++ σ.log } w' := by
  obtain ⟨l, e, p⟩ := f.log
  refine ⟨f.ext, f.next, fun id a b => f.un id a b, ⟨l, ?_, fun id a b => p id a b⟩, f.heap, f.size, f.os, f.tape, f.out, f.lps⟩
  simp only [List.append_nil] at e
  simp [e]

variable {hd : Hd α} {ops : Array Oper} {asl : List Ao} {befs : List (List Nat)} {ord : List Nat} {K : Ex → T V → H → Option α} {r : α} {nt B : Nat} {ro : Option Nat} {ρ0 : Rho} {own0 : Own} {σ0 : H} {w0 : World} {L : Nat → Bool} {act : Act} {w : World}

theorem Inv.head {Pp : Nat} {A : Nat → Option Nat} {lds : List (List Nat × List Nat)} {tmP tms tm' : T V} {σP σn : H} {ρ : Rho} {own : Own} (hF : DF ops.toList asl befs ord) (h : Inv TI gl hd asl befs ord K r nt B ro ρ0 own0 σ0 w0 L act w Pp A lds tmP tms σP ρ own)
    (hp : Pp < asl.length) (he : aoEff asl (ord.getD Pp 0) = true) (hrd : ∀ j ∈ befs.getD (ord.getD Pp 0) [], L j = true) (htm : ∀ t, tm'.get t = tmP.get t) {v : V} {ρ1 : Rho} {own1 : Own} {act' : Act} {w' : World}
    (hrun : drwK hd ((drwL asl befs ord).drop (Pp + 1)) (Pp + 1) lds (cv tm' (aoAt asl (ord.getD Pp 0)).dst v) σn (K .normal) = some r) (hA : At TI gl B ro nt ρ1 own1 (cv tms (aoAt asl (ord.getD Pp 0)).dst v) σn act' w') (hfr : Fr ρ0 own0 σ0 w0 ρ1 own1 σn w')
    (hnx : σP.next ≤ σn.next) (hun : ∀ id, ρ id = none → id < σP.next → ρ1 id = none ∧ σn.get id = σP.get id) (hlds : ∀ ids un, (ids, un) ∈ lds → Pp ∈ un → ∀ id ∈ ids, id < σP.next → σn.get id = σP.get id) :
    Inv TI gl hd asl befs ord K r nt B ro ρ0 own0 σ0 w0 (listedAt L (ord.getD Pp 0)) act' w' (Pp + 1) A lds (cv tm' (aoAt asl (ord.getD Pp 0)).dst v) (cv tms (aoAt asl (ord.getD Pp 0)).dst v) σn ρ1 own1 := by
  have hO := hF.lt Pp hp
  obtain ⟨hdst, hnam, hef⟩ := aoAt_dst hO
  have hsame : ∀ p, p < asl.length → ord.getD p 0 = ord.getD Pp 0 → p = Pp := by
    intro p hpn e
    rcases Nat.lt_trichotomy p Pp with h1 | h1 | h1
    · exact absurd e (hF.inj p Pp h1 hp)
    · exact h1
    · exact absurd e.symm (hF.inj Pp p h1 hpn)
  refine ⟨hp, hrun, hA, hfr, fun p hpn hl => ?_, fun p hpn hep => ?_, fun t => ?_, fun q hq hLq => ?_, h.ainj, fun q a e => ⟨Nat.lt_succ_of_lt (h.abnd q a e).1, Nat.lt_of_lt_of_le (h.abnd q a e).2 hnx⟩⟩
  · unfold listedAt at hl
    split at hl
    · rename_i e; rw [hsame p hpn e]; exact Nat.lt_succ_self _
    · exact Nat.lt_succ_of_lt (h.done p hpn hl)
  · unfold listedAt
    split
    · rfl
    · rename_i hne
      rcases Nat.lt_succ_iff_lt_or_eq.1 hpn with h1 | rfl
      · exact h.effs p h1 hep
      · exact absurd rfl hne
  · rw [cv_get, cv_get]
    by_cases hd2 : (aoAt asl (ord.getD Pp 0)).dst = some t
    · rw [if_pos hd2, if_pos hd2]; exact .inr rfl
    · rw [if_neg hd2, if_neg hd2, htm]
      rcases h.tmr t with ⟨p, h1, h2, h3⟩ | h1
      · refine .inl ⟨p, by omega, ?_, h3⟩
        unfold listedAt
        rw [if_neg (hF.inj p Pp h1 hp)]; exact h2
      · exact .inr h1
  · unfold listedAt at hLq
    split at hLq
    · cases hLq
    · rename_i hne
      have hqP : q < Pp := by
        rcases Nat.lt_succ_iff_lt_or_eq.1 hq with h1 | rfl
        · exact h1
        · exact absurd rfl hne
      have hqn : q < asl.length := by omega
      have hOq := hF.lt q hqn
      have hnb : ord.getD q 0 ∉ befs.getD (ord.getD Pp 0) [] := fun hb => by rw [hrd _ hb] at hLq; cases hLq
      obtain ⟨tmq, vq, d1, d2, d3⟩ := h.del q hqP hLq
      refine ⟨tmq, vq, fun t ht => ?_, fun t ht => ?_, ?_⟩
      · rcases d1 t ht with ⟨p, h1, h2, h3, h4, h5⟩ | ⟨h1, h2⟩
        · have hpd : (aoAt asl (ord.getD Pp 0)).dst ≠ some t := by
            rw [← hdst]
            exact hF.dst _ _ t (hF.lt p (by omega)) hO (hF.inj p Pp h1 hp) h3
          refine .inl ⟨p, by omega, ?_, h3, h4, ?_⟩
          · unfold listedAt; rw [if_neg (hF.inj p Pp h1 hp)]; exact h2
          · rw [cv_get, if_neg hpd, htm]; exact h5
        · refine .inr ⟨fun p hpq hpd => ?_, ?_⟩
          · unfold listedAt
            split
            · rfl
            · exact h1 p hpq hpd
          · rw [cv_get, if_neg]
            · exact h2
            · intro e
              rcases hF.nam _ _ t hO hOq (fun x => hne x.symm) (by rw [hdst]; exact e) (by rw [(aoAt_dst hOq).2.1]; exact ht) with h4 | h4
              · have := hF.bef Pp q hp hqn h4
                omega
              · exact hnb h4
      · rw [cv_get, if_neg, htm]
        · exact d2 t ht
        · intro e
          exact hF.dst _ _ t hOq hO hne (by rw [(aoAt_dst hOq).1]; exact ht) (by rw [hdst]; exact e)
      · rcases d3 with d3 | ⟨e1, e2, e3, e4, e5⟩ | ⟨e1, e2, o, f, a, e3, e4, e5, e6, e7, e8, e9⟩
        · exact .inl d3
        · have hun2 : Pp ∈ unOf asl befs ord q := by
            simp only [unOf, List.mem_filter, List.mem_range, Bool.and_eq_true, Bool.not_eq_true', he]
            refine ⟨by rw [hF.len]; exact hp, ⟨blt_iff.2 hqP, trivial⟩, ?_⟩
            cases hm : memB (befs.getD (ord.getD Pp 0) []) (ord.getD q 0) with
            | false => rfl
            | true => exact absurd (isIn_iff.1 hm) hnb
          exact .inr (.inl ⟨e1, e2, fun σ' K' hs => e3 σ' K' fun id hid => by rw [hs id hid, hlds _ _ e5 hun2 id hid (e4 id hid)], fun id hid => Nat.lt_of_lt_of_le (e4 id hid) hnx, e5⟩)
        · obtain ⟨x1, x2⟩ := hun a e6 e9
          exact .inr (.inr ⟨e1, e2, o, f, a, e3, e4, e5, x1, x2.trans e7, e8, Nat.lt_of_lt_of_le e9 hnx⟩)

theorem head_ok (hT : TIok P TI) (hE : EqOk P TI) (hH : HdOk P TI gl hd) (hc : cAos TI gl nt ops ops.toList = some asl) (hF : DF ops.toList asl befs ord) {Pp : Nat} {A : Nat → Option Nat} {lds : List (List Nat × List Nat)} {tmP tms : T V} {σP : H} {ρ : Rho} {own : Own}
    (h : Inv TI gl hd asl befs ord K r nt B ro ρ0 own0 σ0 w0 L act w Pp A lds tmP tms σP ρ own) (hp : Pp < asl.length) (he : aoEff asl (ord.getD Pp 0) = true) (hrd : ∀ j ∈ befs.getD (ord.getD Pp 0) [], L j = true) (m : Nat) (Q : Exit → Act → World → Prop) (K' : Act → World → Prop)
    (hK : ∀ act' w' tmP' tms' σ' ρ' own', Inv TI gl hd asl befs ord K r nt B ro ρ0 own0 σ0 w0 (listedAt L (ord.getD Pp 0)) act' w' (Pp + 1) A lds tmP' tms' σ' ρ' own' → K' act' w') : wpOpIn (fenceOf ro) m P ops Q (ord.getD Pp 0) K' act w := by
  have hO := hF.lt Pp hp
  obtain ⟨hlen, hget⟩ := cAos_get hc
  have hO2 : ord.getD Pp 0 < ops.toList.length := by omega
  obtain ⟨o, ho⟩ : ∃ o, ops[ord.getD Pp 0]? = some o := ⟨ops[ord.getD Pp 0]'(by simpa using hO2), by simp at hO2; simp [hO2]⟩
  obtain ⟨a, ha, hao⟩ := hget (ord.getD Pp 0) o (by simpa using ho)
  have haa : aoAt asl (ord.getD Pp 0) = a := by simp only [aoAt, List.getD_eq_getElem?_getD] at ha ⊢; rw [ha]; rfl
  obtain ⟨hd1, hd2, hd3, _⟩ := cAo_ok hao
  obtain ⟨hdst, hnam, hef⟩ := aoAt_dst hO
  have hhead := fun tm' σn htm v ρ1 own1 act' w' a1 a2 a3 a4 a5 a6 => h.head (tm' := tm') (σn := σn) hF hp he hrd htm (v := v) (ρ1 := ρ1) (own1 := own1) (act' := act') (w' := w') a1 a2 a3 a4 a5 a6
  have hrun := h.run
  rw [drwL_drop (by rw [hF.len]; exact hp), he] at hrun
  rw [haa] at hhead hrun hnam
  simp only [drwK, cond_true] at hrun
  obtain ⟨tm', htm', hcase⟩ := gdK_ok hrun
  have hag : ∀ t ∈ aoNames a, tms.get t = tmP.get t := by
    intro t ht
    rcases h.tmr t with ⟨p, h1, h2, h3⟩ | h1
    · have hpn : p < asl.length := by omega
      rcases hF.nam _ _ t (hF.lt p hpn) hO (hF.inj p Pp h1 hp) h3 (by rw [hnam]; exact ht) with h4 | h4
      · rw [hrd _ h4] at h2; cases h2
      · have := hF.bef Pp p hp hpn h4
        omega
    · exact h1
  have hgv : gdV a.g tms = gdV a.g tmP := gdV_congr fun d b e => hag d (by simp [aoNames, e])
  have hxs : ∀ x ∈ a.op.xs, ev tms x = ev tm' x := ev_xs fun t ht => by rw [htm']; exact hag t (by simp [aoNames, ht])
  unfold wpOpIn
  rw [ho]
  simp only
  rcases hcase with ⟨g1, hk⟩ | ⟨g1, hk⟩
  · rw [wanted_of hao (hgv.trans g1) h.at_.tm]
    simp only [if_true]
    rw [← opK_congr hd a.op hxs, hd3] at hk
    refine oper_sim hT hE hH hk (h.at_.hr.relog []) h.at_.gl h.at_.tm ro m _ _ fun v' w' hs => ?_
    obtain ⟨v, σ1, ρ1, own1, k1, k2, k3, k4⟩ := hs
    obtain ⟨hok, k1⟩ := bif_then k1
    have hfr := k4.relog
    have hAt := h.at_.step hfr (k3.relog (σ1.log ++ σP.log)) hd1 k2
    refine hK _ _ _ _ _ _ _ (hhead tm' _ htm' v ρ1 own1 _ w' k1 (by rw [hd2]; exact hAt) (h.fr.trans hfr) k4.next (fun id e hi => k4.un id e hi) fun ids un hm hu id hid hlt => ?_)
    obtain ⟨l, e, hl⟩ := k4.log
    simp only [List.append_nil] at e
    refine hl id hlt ?_
    rw [← e]
    exact okLds_ok hok ids un hm hu id hid
  · rw [wanted_of hao (hgv.trans g1) h.at_.tm]
    simp only [Bool.false_eq_true, if_false]
    refine ⟨fun f _ => fenceOf_fn ro f, hK _ _ _ _ _ _ _ (hhead tm' σP htm' (.tup []) ρ own _ w hk ?_ h.fr (Nat.le_refl _) (fun id e _ => ⟨e, rfl⟩) (fun _ _ _ _ _ _ _ => rfl))⟩
    rw [hd2]
    exact h.at_.mv hd1 (rel_tup (cs' := []) (.nil _))
end
end Ak
