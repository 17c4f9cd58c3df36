/- Regions that draw their order: all orders. -/
import Derived.Test.YtpbifekamdpdjaaGreatDoorAkDrw7
namespace Ak
open Go

def cnt (L : Nat → Bool) : Nat → Nat
  | 0 => 0
  | n + 1 => cnt L n + (if L n then 0 else 1)
theorem cnt_le {L : Nat → Bool} : ∀ n, cnt L n ≤ n
  | 0 => Nat.le_refl _
  | n + 1 => by have := cnt_le (L := L) n; simp only [cnt]; split <;> omega
theorem cnt_mono {L L' : Nat → Bool} (h : ∀ i, L i = true → L' i = true) : ∀ n, cnt L' n ≤ cnt L n
  | 0 => Nat.le_refl _
  | n + 1 => by
    have := cnt_mono h n
    simp only [cnt]
    cases hl : L n with
    | true => rw [h n hl]; simp; omega
    | false => simp only [Bool.false_eq_true, if_false]; split <;> omega
theorem cnt_lt {L L' : Nat → Bool} (h : ∀ i, L i = true → L' i = true) {i : Nat} (hi : L i = false) (hi' : L' i = true) : ∀ n, i < n → cnt L' n < cnt L n
  | 0, hn => by omega
  | n + 1, hn => by
    simp only [cnt]
    by_cases e : i = n
    · subst e
      have := cnt_mono h i
      simp [hi, hi']; omega
    · have := cnt_lt h hi hi' n (by omega)
      cases hl : L n with
      | true => rw [h n hl]; simp; omega
      | false => simp only [Bool.false_eq_true, if_false]; split <;> omega
theorem cnt_zero {L : Nat → Bool} : ∀ n, cnt L n = 0 → ∀ i, i < n → L i = true
  | 0, _, i, hi => by omega
  | n + 1, h, i, hi => by
    simp only [cnt] at h
    by_cases e : i = n
    · subst e
      cases hl : L i with
      | true => rfl
      | false => rw [hl] at h; simp at h
    · exact cnt_zero n (by omega) i (by omega)

section
variable {P : Program} {TI : TypeId → Option Ti} {gl : List Nat} {α : Type}
variable {hd : Hd α} {ops : Array Oper} {asl : List Ao} {ord : List Nat} {K : Ex → T V → H → Option α} {r : α} {nt B : Nat} {ro : Option Nat} {ρ0 : Rho} {own0 : Own} {σ0 : H} {w0 : World}

theorem Inv.norm {befs : List (List Nat)} (hF : DF ops.toList asl befs ord) {L : Nat → Bool} {act : Act} {w : World} : ∀ (k Pp : Nat) (A : Nat → Option Nat) (lds : List (List Nat × List Nat)) (tmP tms : T V) (σP : H) (ρ : Rho) (own : Own), asl.length - Pp = k →
    Inv TI gl hd asl befs ord K r nt B ro ρ0 own0 σ0 w0 L act w Pp A lds tmP tms σP ρ own →
    ∃ Pp A lds tmP tms σP ρ own, Inv TI gl hd asl befs ord K r nt B ro ρ0 own0 σ0 w0 L act w Pp A lds tmP tms σP ρ own ∧ (Pp = asl.length ∨ (Pp < asl.length ∧ aoEff asl (ord.getD Pp 0) = true))
  | 0, Pp, A, lds, tmP, tms, σP, ρ, own, hk, h => ⟨Pp, A, lds, tmP, tms, σP, ρ, own, h, .inl (by have := h.hP; omega)⟩
  | k + 1, Pp, A, lds, tmP, tms, σP, ρ, own, hk, h => by
    have hp : Pp < asl.length := by omega
    cases he : aoEff asl (ord.getD Pp 0) with
    | true => exact ⟨Pp, A, lds, tmP, tms, σP, ρ, own, h, .inr ⟨hp, he⟩⟩
    | false =>
      obtain ⟨A', lds', tmP', σP', h'⟩ := h.adv hF hp he
      exact Inv.norm hF k (Pp + 1) A' lds' tmP' tms σP' ρ own (by omega) h'

theorem getD_listed {listed : Array Bool} {i : Nat} (hi : i < listed.size) : (fun j => (listed.setIfInBounds i true).getD j true) = listedAt (fun j => listed.getD j true) i := by
  funext j
  unfold listedAt
  by_cases e : j = i
  · subst e; simp [hi]
  · rw [if_neg e]
    simp only [Array.getD_eq_getD_getElem?]
    rw [Array.getElem?_setIfInBounds_ne (Ne.symm e)]

theorem getD_tf {listed : Array Bool} {j : Nat} (h : listed.getD j false = true) : listed.getD j true = true := by
  simp only [Array.getD_eq_getD_getElem?] at h ⊢
  cases hq : listed[j]? with
  | none => rfl
  | some b => rw [hq] at h; exact h
theorem getD_ft {listed : Array Bool} {j : Nat} (hj : j < listed.size) (h : listed.getD j true = true) : listed.getD j false = true := by
  simp only [Array.getD_eq_getD_getElem?, Array.getElem?_eq_getElem hj, Option.getD_some] at h ⊢
  exact h

theorem ready_ok {listed : Array Bool} {i : Nat} (h : i ∈ Region.ready .any ops listed) : i < ops.size ∧ listed.getD i true = false ∧ ∃ o, ops[i]? = some o ∧ ∀ j ∈ bindL o, listed.getD j false = true := by
  simp only [Region.ready, List.mem_filter, List.mem_range, Bool.and_eq_true, Bool.not_eq_true'] at h
  obtain ⟨h1, h2, h3⟩ := h
  refine ⟨h1, h2, ?_⟩
  cases ho : ops[i]? with
  | none => rw [ho] at h3; cases h3
  | some o =>
    rw [ho] at h3
    refine ⟨o, rfl, fun j hj => ?_⟩
    simp only [Option.map_some, Option.getD_some, Array.all_eq_true_iff_forall_mem, Bool.or_eq_true, Bool.not_eq_true'] at h3
    simp only [bindL, List.mem_map, List.mem_filter, Array.mem_toList_iff] at hj
    obtain ⟨e, ⟨he1, he2⟩, rfl⟩ := hj
    rcases h3 e he1 with h4 | h4
    · rw [he2] at h4; cases h4
    · exact h4
theorem ready_mk {listed : Array Bool} {i : Nat} {o : Oper} (h1 : i < ops.size) (h2 : listed.getD i true = false) (ho : ops[i]? = some o) (h3 : ∀ j ∈ bindL o, listed.getD j false = true) : i ∈ Region.ready .any ops listed := by
  simp only [Region.ready, List.mem_filter, List.mem_range, Bool.and_eq_true, Bool.not_eq_true']
  refine ⟨h1, h2, ?_⟩
  rw [ho]
  simp only [Option.map_some, Option.getD_some, Array.all_eq_true_iff_forall_mem, Bool.or_eq_true, Bool.not_eq_true']
  intro e he
  cases hb : Region.binds .any e with
  | false => exact .inl rfl
  | true => exact .inr (h3 e.on (by simp only [bindL, List.mem_map, List.mem_filter, Array.mem_toList_iff]; exact ⟨e, ⟨he, hb⟩, rfl⟩))

theorem any_ok (hT : TIok P TI) (hE : EqOk P TI) (hH : HdOk P TI gl hd) (hc : cAos TI gl nt ops ops.toList = some asl) (hF : DF ops.toList asl (befF ops.toList) ord) (m : Nat) : ∀ (fuel : Nat) (listed : Array Bool) (act : Act) (w : World), listed.size = ops.size → cnt (fun j => listed.getD j true) asl.length ≤ fuel →
    (∀ i, i < asl.length → listed.getD i true = true → ∀ j ∈ (befF ops.toList).getD i [], listed.getD j true = true) →
    (∃ Pp A lds tmP tms σP ρ own, Inv TI gl hd asl (befF ops.toList) ord K r nt B ro ρ0 own0 σ0 w0 (fun j => listed.getD j true) act w Pp A lds tmP tms σP ρ own) →
    wpAnyIn (fenceOf ro) m P .any ops (Post TI gl B ro nt K r ρ0 own0 σ0 w0) fuel listed act w := by
  have hlen : asl.length = ops.size := by have := (cAos_get hc).1; simpa using this
  have hgood := befF_good ops.toList
  -- all done
  have fin : ∀ (listed : Array Bool) (act : Act) (w : World), (∀ i, i < asl.length → listed.getD i true = true) → (∃ Pp A lds tmP tms σP ρ own, Inv TI gl hd asl (befF ops.toList) ord K r nt B ro ρ0 own0 σ0 w0 (fun j => listed.getD j true) act w Pp A lds tmP tms σP ρ own) →
      Post TI gl B ro nt K r ρ0 own0 σ0 w0 .normal act w := by
    intro listed act w hall ⟨Pp, A, lds, tmP, tms, σP, ρ, own, h⟩
    obtain ⟨Pp, A, lds, tmP, tms, σP, ρ, own, h, hcase⟩ := Inv.norm hF _ Pp A lds tmP tms σP ρ own rfl h
    rcases hcase with hP | ⟨hP, _⟩
    · have hrun := h.run
      have hdl : (drwL asl (befF ops.toList) ord).length = asl.length := by simp [drwL, hF.len]
      rw [List.drop_of_length_le (by omega)] at hrun
      simp only [drwK] at hrun
      have htm : ∀ t, tms.get t = tmP.get t := by
        intro t
        rcases h.tmr t with ⟨p, h1, h2, _⟩ | h1
        · rw [hall _ (hF.lt p (by omega))] at h2; cases h2
        · exact h1
      exact ⟨.normal, tmP, σP, ρ, own, hrun, trivial, ⟨h.at_.hr, h.at_.gl, fun t v e => h.at_.tm t v (by rw [htm]; exact e), h.at_.nt, h.at_.ro, h.at_.dr, h.at_.b⟩, h.fr⟩
    · exact absurd (h.done Pp hP (hall _ (hF.lt Pp hP))) (Nat.lt_irrefl _)
  have stuck : ∀ (listed : Array Bool), listed.size = ops.size → Region.ready .any ops listed = [] → ∀ i, i < asl.length → listed.getD i true = true := by
    intro listed hsz hr
    have key : ∀ p, p < asl.length → listed.getD (ord.getD p 0) true = true := by
      intro p
      induction p using Nat.strongRecOn with
      | _ p ih =>
        intro hp
        cases hl : listed.getD (ord.getD p 0) true with
        | true => rfl
        | false =>
          exfalso
          have hO := hF.lt p hp
          have hO2 : ord.getD p 0 < ops.size := by omega
          have ho : ops[ord.getD p 0]? = some ops[ord.getD p 0] := by simp
          have : ord.getD p 0 ∈ Region.ready .any ops listed := by
            refine ready_mk hO2 hl ho fun j hj => ?_
            have hji := hF.bnd (ord.getD p 0) _ (by simp) hO j hj
            obtain ⟨p', hp', rfl⟩ := hF.sur j (by omega)
            have hb := (hgood.2 (ord.getD p 0) _ (by simp)).2 _ hj
            exact getD_ft (by omega) (ih p' (hF.bef p' p hp' hp hb) hp')
          rw [hr] at this
          cases this
    intro i hi
    obtain ⟨p, hp, rfl⟩ := hF.sur i hi
    exact key p hp
  intro fuel
  induction fuel with
  | zero =>
    intro listed act w hsz hcnt hcl hI
    have hall := cnt_zero asl.length (by omega : cnt (fun j => listed.getD j true) asl.length = 0)
    refine ⟨?_, fin listed act w hall hI⟩
    cases hr : Region.ready .any ops listed with
    | nil => rfl
    | cons i l =>
      obtain ⟨h1, h2, _⟩ := ready_ok (by rw [hr]; exact List.mem_cons_self .. : i ∈ Region.ready .any ops listed)
      rw [hall i (by omega)] at h2
      cases h2
  | succ fuel ih =>
    intro listed act w hsz hcnt hcl hI
    refine ⟨fun hr => fin listed act w (stuck listed hsz hr) hI, fun i hi => ?_⟩
    obtain ⟨h1, h2, o, ho, h3⟩ := ready_ok hi
    have hin : i < asl.length := by omega
    have hrd : ∀ j ∈ (befF ops.toList).getD i [], listed.getD j true = true := by
      intro j hj
      rcases (hgood.2 i o (by simpa using ho)).1 j hj with h4 | ⟨k, hk, hjk⟩
      · exact getD_tf (h3 j h4)
      · have := hF.bnd i o (by simpa using ho) hin k hk
        exact hcl k (by omega) (getD_tf (h3 k hk)) j hjk
    have hsi : i < listed.size := by omega
    have hnext : ∀ act' w', (∃ Pp A lds tmP tms σP ρ own, Inv TI gl hd asl (befF ops.toList) ord K r nt B ro ρ0 own0 σ0 w0 (listedAt (fun j => listed.getD j true) i) act' w' Pp A lds tmP tms σP ρ own) →
        wpAnyIn (fenceOf ro) m P .any ops (Post TI gl B ro nt K r ρ0 own0 σ0 w0) fuel (listed.setIfInBounds i true) act' w' := by
      intro act' w' hI'
      have hfun := getD_listed hsi
      have hmono : ∀ j, listed.getD j true = true → (listed.setIfInBounds i true).getD j true = true := by
        intro j hj
        have := congrFun hfun j
        rw [this]; unfold listedAt; split
        · rfl
        · exact hj
      have hii : (listed.setIfInBounds i true).getD i true = true := by
        have := congrFun hfun i
        rw [this]; simp [listedAt]
      refine ih _ act' w' (by simpa using hsz) ?_ (fun k hk hkl j hj => ?_) (by rw [hfun]; exact hI')
      · have := cnt_lt (L := fun j => listed.getD j true) (L' := fun j => (listed.setIfInBounds i true).getD j true) hmono h2 hii asl.length hin
        omega
      · by_cases e : k = i
        · subst e; exact hmono j (hrd j hj)
        · have := congrFun hfun k
          rw [this] at hkl
          unfold listedAt at hkl
          rw [if_neg e] at hkl
          exact hmono j (hcl k hk hkl j hj)
    obtain ⟨Pp, A, lds, tmP, tms, σP, ρ, own, h⟩ := hI
    obtain ⟨Pp, A, lds, tmP, tms, σP, ρ, own, h, hcase⟩ := Inv.norm hF _ Pp A lds tmP tms σP ρ own rfl h
    obtain ⟨q, hq, rfl⟩ := hF.sur i hin
    rcases Nat.lt_trichotomy q Pp with hlt | rfl | hgt
    · exact late_ok hT hE hH hc hF h hlt h2 hrd m _ _ fun act' w' tms' ρ' own' hI' => hnext act' w' ⟨_, _, _, _, _, _, _, _, hI'⟩
    · rcases hcase with hP | ⟨hP, he⟩
      · omega
      · exact head_ok hT hE hH hc hF h hP he hrd m _ _ fun act' w' tmP' tms' σ' ρ' own' hI' => hnext act' w' ⟨_, _, _, _, _, _, _, _, hI'⟩
    · rcases hcase with hP | ⟨hP, he⟩
      · omega
      · have := hrd _ (hF.eff Pp q hgt hq he)
        exact absurd (h.done Pp hP this) (Nat.lt_irrefl _)

/-- Regions that draw their order. -/
theorem drw_ok (hT : TIok P TI) (hE : EqOk P TI) (hm : P.follows .mixedOrders = true) : DOk P TI gl α := by
  intro hd hH hs B ro fid nt id ops K r tm σ ρ own act w h hA m
  simp only [cCode] at h
  split at h
  · rename_i a ha
    unfold cDrw at ha
    split at ha
    · rename_i asl hasl
      obtain ⟨hok, ha⟩ := bif_then ha
      cases ha
      simp only [codeK] at h
      have hF := drwOk_ok hok
      have hlen : asl.length = ops.size := by have := (cAos_get hasl).1; simpa using this
      have hL : ∀ i, i < asl.length → (Array.replicate ops.size false).getD i true = false := by
        intro i hi
        have : i < ops.size := by omega
        simp [this]
      refine wpIn_region_any hm (any_ok hT hE hH hasl hF m ops.size _ act _ (by simp) (by have := cnt_le (L := fun j => (Array.replicate ops.size false).getD j true) asl.length; omega) (fun i hi hl => ?_) ?_)
      · rw [hL i hi] at hl; cases hl
      · have hdrew : ({ w with drawn := w.drawn + 1 } : World) = w.drew := rfl
        rw [hdrew]
        have hfr : Fr ρ own σ w ρ own σ w.drew := .drew
        refine ⟨0, fun _ => none, [], tm, tm, σ, ρ, own, Nat.zero_le _, by simpa using h, ⟨hA.hr.drew, hA.gl, hA.tm, hA.nt, hA.ro.keep hfr, hA.dr.keep hfr, hA.b⟩, hfr, fun p hp hl => ?_, fun p hp => (by omega), fun t => .inr rfl, fun q hq => (by omega), fun q q' a e => (by cases e), fun q a e => (by cases e)⟩
        rw [hL _ (hF.lt p hp)] at hl; cases hl
    · cases ha
  · cases h
end
end Ak
