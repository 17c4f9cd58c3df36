/- Regions that draw their order: a delayed operation is done. -/
import Derived.Test.YtpbifekamdpdjaaGreatDoorAkDrw5
namespace Ak
open Go
section
variable {P : Program} {TI : TypeId → Option Ti} {gl : List Nat} {α : Type}

theorem gdK_of {β : Type} {g : Option (Nat × Bool)} {tm : T V} {b : Bool} (h : gdV g tm = some b) (yes no : Option β) : gdK g tm (fun _ => yes) (fun _ => no) = bif b then yes else no := by
  cases g with
  | none => simp only [gdV, Option.some.injEq] at h; subst h; rfl
  | some jb =>
    obtain ⟨j, c⟩ := jb
    simp only [gdV] at h
    simp only [gdK]
    split at h
    · rename_i t ht
      rw [ht]
      simp only [Option.some.injEq] at h
      subst h
      cases t <;> cases c <;> rfl
    · rename_i ht
      rw [ht]
      simp only [Option.some.injEq] at h
      subst h
      rfl
    · cases h
theorem wanted_of {nt : Nat} {ops : Array Oper} {o : Oper} {a : Ao} (h : cAo TI gl nt ops o = some a) {tm : T V} {b : Bool} (hg : gdV a.g tm = some b) {ρ : Rho} {tmps : Array Value} (ht : TmR ρ tm tmps) : Region.wanted o (yielded ops tmps) = b := by
  have hk := gdK_of hg (some true) (some false)
  cases b with
  | true =>
    obtain ⟨_, _, h1⟩ := guard_ok h (r := true) hk ht
    rcases h1 with ⟨h1, _⟩ | ⟨_, h1⟩
    · exact h1
    · cases h1
  | false =>
    obtain ⟨_, _, h1⟩ := guard_ok h (r := false) hk ht
    rcases h1 with ⟨_, h1⟩ | ⟨h1, _⟩
    · cases h1
    · exact h1

variable {hd : Hd α} {ops : Array Oper} {asl : List Ao} {befs : List (List Nat)} {ord : List Nat} {K : Ex → T V → H → Option α} {r : α} {nt B : Nat} {ro : Option Nat} {ρ0 : Rho} {own0 : Own} {σ0 : H} {w0 : World} {L : Nat → Bool} {act : Act} {w : World}

theorem late_ok (hT : TIok P TI) (hE : EqOk P TI) (hH : HdOk P TI gl hd) (hc : cAos TI gl nt ops ops.toList = some asl) (hF : DF ops.toList asl befs ord) {Pp : Nat} {A : Nat → Option Nat} {lds : List (List Nat × List Nat)} {tmP tms : T V} {σP : H} {ρ : Rho} {own : Own}
    (h : Inv TI gl hd asl befs ord K r nt B ro ρ0 own0 σ0 w0 L act w Pp A lds tmP tms σP ρ own) {q : Nat} (hq : q < Pp) (hL : L (ord.getD q 0) = false) (hrd : ∀ j ∈ befs.getD (ord.getD q 0) [], L j = true) (m : Nat) (Q : Exit → Act → World → Prop) (K' : Act → World → Prop)
    (hK : ∀ act' w' tms' ρ' own', Inv TI gl hd asl befs ord K r nt B ro ρ0 own0 σ0 w0 (listedAt L (ord.getD q 0)) act' w' Pp A lds tmP tms' σP ρ' own' → K' act' w') : wpOpIn (fenceOf ro) m P ops Q (ord.getD q 0) K' act w := by
  have hP := h.hP
  have hO := hF.lt q (by omega)
  obtain ⟨hlen, hget⟩ := cAos_get hc
  have hO2 : ord.getD q 0 < ops.toList.length := by omega
  obtain ⟨o, ho⟩ : ∃ o, ops[ord.getD q 0]? = some o := ⟨ops[ord.getD q 0]'(by simpa using hO2), by simp at hO2; simp [hO2]⟩
  obtain ⟨a, ha, hao⟩ := hget (ord.getD q 0) o (by simpa using ho)
  have haa : aoAt asl (ord.getD q 0) = a := by simp only [aoAt, List.getD_eq_getElem?_getD] at ha ⊢; rw [ha]; rfl
  obtain ⟨hd1, hd2, hd3, _⟩ := cAo_ok hao
  obtain ⟨tmq, v, d1, d2, d3⟩ := h.del q hq hL
  have hcaught := fun v hv ρ1 own1 act' w' hA hfr hun => h.caught (v := v) hF hq hL hrd hv (ρ1 := ρ1) (own1 := own1) (act' := act') (w' := w') hA hfr hun
  rw [haa] at d1 d2 d3 hcaught
  have hag : ∀ t ∈ aoNames a, tms.get t = tmq.get t := by
    intro t ht
    rcases d1 t ht with ⟨p, h1, h2, h3, h4, h5⟩ | ⟨_, h1⟩
    · rw [hrd _ h4] at h2; cases h2
    · exact h1
  have hgv : gdV a.g tms = gdV a.g tmq := gdV_congr fun d b e => hag d (by simp [aoNames, e])
  have hxs : ∀ x ∈ a.op.xs, ev tms x = ev tmq x := ev_xs fun t ht => hag t (by simp [aoNames, ht])
  unfold wpOpIn
  rw [ho]
  simp only
  rcases d3 with ⟨g1, rfl⟩ | ⟨g1, g2, g3, g4, g5⟩ | ⟨g1, g2, ob0, f, aid, g3, g4, g5, g6, g7, g8, g9⟩
  · rw [wanted_of hao (hgv.trans g1) h.at_.tm]
    simp only [Bool.false_eq_true, if_false]
    refine ⟨fun f _ => fenceOf_fn ro f, hK _ _ _ _ _ (hcaught (.tup []) d2 ρ own _ w ?_ h.fr (fun _ _ _ _ e _ => e))⟩
    rw [hd2]
    exact h.at_.mv hd1 (rel_tup (cs' := []) (.nil _))
  · rw [wanted_of hao (hgv.trans g1) h.at_.tm]
    simp only [if_true]
    classical
    have hop : opK hd ((cOp TI gl o.op).getD .bad) (ev tms) σP (fun v' σ' => if v' = v ∧ σ' = σP then some r else none) = some r := by
      rw [← hd3, opK_congr hd a.op hxs, g3 σP _ fun _ _ => rfl]
      simp
    refine oper_sim hT hE hH hop h.at_.hr h.at_.gl h.at_.tm ro m _ _ fun v' w' hs => ?_
    obtain ⟨v1, σ1, ρ1, own1, k1, k2, k3, k4⟩ := hs
    simp only at k1
    split at k1
    · rename_i hv1
      obtain ⟨rfl, rfl⟩ := hv1
      refine hK _ _ _ _ _ (hcaught v1 d2 ρ1 own1 _ w' ?_ (h.fr.trans k4) (fun q' a' _ _ e1 e2 => (k4.un a' e1 e2).1))
      rw [hd2]
      exact h.at_.step k4 k3 hd1 k2
    · cases k1
  · rw [wanted_of hao (hgv.trans g1) h.at_.tm]
    simp only [if_true]
    obtain ⟨p, hp, hpa⟩ : ∃ p, cOp TI gl o.op = some p ∧ a.op = p := by
      cases hq2 : cOp TI gl o.op with
      | none => rw [hq2] at hd3; rw [hd3] at g2; cases g2
      | some p => rw [hq2] at hd3; exact ⟨p, rfl, hd3⟩
    have hX : XR gl ρ (ev tms) act.eval := fun x X hx => cX_rel h.at_.gl h.at_.tm hx
    obtain ⟨v', w1, ob, top, hrun, hw1, hnl, hall⟩ := alc_ok (C := CC TI gl) hT hp hX (by rw [← hpa]; exact g2) (o := ob0) (f := f) (by rw [← hpa, alc_congr a.op hxs]; exact g3) w
    have hsem : o.semAt ro act.eval = execOp act.eval o := by
      refine Oper.semAt_eq ro _ o fun c hc => ?_
      rw [hc] at hp; cases hp
    refine ⟨fun f _ => fenceOf_fn ro f, ?_⟩
    rw [fenceOf_round, hsem, hrun, Oper.uponIn_value]
    have hs1 : w1.heap.size = w.heap.size := by rcases hw1 with rfl | rfl <;> rfl
    have hr1 : HR (CC TI gl) ρ own σP w1 := by
      rcases hw1 with rfl | rfl
      · exact h.at_.hr
      · exact h.at_.hr.drew
    have hf01 : Fr ρ own σP w ρ own σP w1 := by
      rcases hw1 with rfl | rfl
      · exact .refl _ _ _ _
      · exact .drew
    have hx : Ext ρ (ρ.add aid ⟨w.heap.size, 0, 0, top⟩) := Rho.ext_add g6
    obtain ⟨hOR, hRel⟩ := hall (ρ.add aid ⟨w.heap.size, 0, 0, top⟩) (own.add w.heap.size aid) aid hx (by simp [Rho.add]) (by simp [Own.add])
    have hHR := hr1.adopt (L := ⟨w.heap.size, 0, 0, top⟩) (ob := ob) g6 g9 g7 hs1.symm (by rw [hs1]; exact hOR)
    have hFr := (h.fr.trans hf01).adopt (L := ⟨w.heap.size, 0, 0, top⟩) (ob := ob) g6 g8
    rw [hs1] at hHR hFr
    have hfe := hf01.trans (hr1.extra ob).2
    obtain ⟨t1, t2, t3⟩ := tm_put (h.at_.tm.mono hx) h.at_.nt hd1 hRel
    refine hK _ _ _ _ _ (hcaught v d2 _ _ _ _ ⟨hHR, h.at_.gl.mono hx, ?_, t2, h.at_.ro.keep hfe, ?_, Nat.le_trans h.at_.b hfe.size⟩ hFr (fun q' a' hne hA' e1 e2 => ?_))
    · rw [hd2, g5]; exact t1
    · rw [t3]
      have hdr := h.at_.dr.keep hfe
      refine ⟨fun d hd => ?_, hdr.2⟩
      obtain ⟨r1, x1, x2, x3, x4⟩ := hdr.1 d hd
      obtain ⟨r2, y1, y2, y3, y4⟩ := h.at_.dr.1 d hd
      have : r1 = r2 := by rw [x1] at y1; cases y1; rfl
      subst this
      have hlt := (Array.getElem?_eq_some_iff.1 y4).1
      exact ⟨r1, x1, x2, by unfold Own.add; rw [if_neg (by omega)]; exact x3, x4⟩
    · unfold Rho.add
      rw [if_neg]
      · exact e1
      · intro e; subst e; exact hne (h.ainj q' q _ hA' g4)
end
end Ak
