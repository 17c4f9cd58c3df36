/- Regions in their written order. -/
import Derived.Test.YtpbifekamdpdjaaGreatDoorAkCode
namespace Ak
open Go
section
variable {P : Program} {TI : TypeId → Option Ti} {gl : List Nat} {α : Type}

theorem At.step {B : Nat} {ro : Option Nat} {nt : Nat} {ρ ρ' : Rho} {own own' : Own} {tm : T V} {σ σ' : H} {act : Act} {w w' : World} (h : At TI gl B ro nt ρ own tm σ act w) (f : Fr ρ own σ w ρ' own' σ' w') (hr : HR (CC TI gl) ρ' own' σ' w')
    {dst : Option Nat} (hd : (match dst with | some d => Nat.blt d nt | none => true) = true) {v : V} {v' : Value} (hv : Rel ρ' v v') : At TI gl B ro nt ρ' own' (cv tm dst v) σ' (act.put dst v') w' := by
  obtain ⟨a, b, c⟩ := tm_put (h.tm.mono f.ext) h.nt hd hv
  exact ⟨hr, h.gl.mono f.ext, a, b, h.ro.keep f, by rw [c]; exact h.dr.keep f, Nat.le_trans h.b f.size⟩
theorem At.mv {B : Nat} {ro : Option Nat} {nt : Nat} {ρ : Rho} {own : Own} {tm : T V} {σ : H} {act : Act} {w : World} (h : At TI gl B ro nt ρ own tm σ act w) {dst : Option Nat} (hd : (match dst with | some d => Nat.blt d nt | none => true) = true) {v : V} {v' : Value} (hv : Rel ρ v v') :
    At TI gl B ro nt ρ own (cv tm dst v) σ (act.put dst v') w := h.step (.refl _ _ _ _) h.hr hd hv

/-- What a compiled operation is. -/
theorem cAo_ok {nt : Nat} {ops : Array Oper} {o : Oper} {a : Ao} (h : cAo TI gl nt ops o = some a) :
    (match o.dst with | some d => Nat.blt d nt | none => true) = true ∧ a.dst = o.dst ∧ a.op = (cOp TI gl o.op).getD .bad ∧
    (match o.guard with | none => a.g = none | some (j, b) => ∃ d, (ops[j]?).bind (·.dst) = some d ∧ Nat.blt d nt = true ∧ a.g = some (d, b)) := by
  unfold cAo at h
  obtain ⟨hd, h⟩ := bif_then h
  split at h
  · rename_i hg
    cases h
    exact ⟨hd, rfl, rfl, by rw [hg]⟩
  · rename_i j b hg
    split at h
    · rename_i d hj
      obtain ⟨h2, h⟩ := bif_then h
      cases h
      exact ⟨hd, rfl, rfl, by rw [hg]; exact ⟨d, hj, h2, rfl⟩⟩
    · cases h

/-- A guard, asked. -/
theorem guard_ok {nt : Nat} {ops : Array Oper} {o : Oper} {a : Ao} (h : cAo TI gl nt ops o = some a) {tm : T V} {yes no : T V → Option α} {r : α} (hk : gdK a.g tm yes no = some r) {ρ : Rho} {tmps : Array Value} (ht : TmR ρ tm tmps) :
    ∃ tm', TmR ρ tm' tmps ∧ ((Region.wanted o (yielded ops tmps) = true ∧ yes tm' = some r) ∨ (Region.wanted o (yielded ops tmps) = false ∧ no tm' = some r)) := by
  obtain ⟨_, _, _, hg⟩ := cAo_ok h
  cases hq : o.guard with
  | none =>
    rw [hq] at hg
    simp only at hg
    rw [hg] at hk
    exact ⟨tm, ht, .inl ⟨by simp [Region.wanted, hq], hk⟩⟩
  | some jb =>
    obtain ⟨j, b⟩ := jb
    rw [hq] at hg
    obtain ⟨d, hd, hlt, hg⟩ := hg
    rw [hg] at hk
    simp only [gdK] at hk
    split at hk
    · rename_i t htm
      obtain ⟨v', e, rv⟩ := ht d _ htm
      have hv := rel_bool_inv rv
      subst hv
      have hy : yielded ops tmps j = some t := by
        simp only [yielded, hd, Option.bind_some, e]
      have hset : ∀ x : Bool, x = t → TmR ρ (tm.set d (.bool x)) tmps := by
        rintro x rfl t' v hv
        rw [T.get_set] at hv
        split at hv
        · rename_i he; subst he; cases hv; exact ⟨_, e, .bool _⟩
        · exact ht t' v hv
      cases t <;> cases b <;> simp only [cond_true, cond_false] at hk
      · exact ⟨_, hset false rfl, .inl ⟨by simp [Region.wanted, hq, hy], hk⟩⟩
      · exact ⟨_, hset false rfl, .inr ⟨by simp [Region.wanted, hq, hy], hk⟩⟩
      · exact ⟨_, hset true rfl, .inr ⟨by simp [Region.wanted, hq, hy], hk⟩⟩
      · exact ⟨_, hset true rfl, .inl ⟨by simp [Region.wanted, hq, hy], hk⟩⟩
    · rename_i htm
      obtain ⟨v', e, rv⟩ := ht d _ htm
      have hy : yielded ops tmps j = none := by
        cases rv with
        | tup _ cs' h1 _ =>
          simp only [yielded, hd, Option.bind_some, e]
      exact ⟨tm, ht, .inr ⟨by simp [Region.wanted, hq, hy], hk⟩⟩
    · cases hk

/-- A row of operations in its order. -/
theorem ops_sim (hT : TIok P TI) (hE : EqOk P TI) {hd : Hd α} (hH : HdOk P TI gl hd) {ops : Array Oper} {nt B : Nat} {ro : Option Nat} {r : α} (m : Nat) {Q : Exit → Act → World → Prop} :
    ∀ (l : List Oper) (k : Nat) (as : List Ao), (∀ i, l[i]? = ops[k + i]?) → cAos TI gl nt ops l = some as → ∀ (tm : T V) (σ : H) (K : T V → H → Option α) (ρ : Rho) (own : Own) (act : Act) (w : World), opsK hd as tm σ K = some r →
      At TI gl B ro nt ρ own tm σ act w → (∀ tm' σ' ρ' own' act' w', K tm' σ' = some r → At TI gl B ro nt ρ' own' tm' σ' act' w' → Fr ρ own σ w ρ' own' σ' w' → Q .normal act' w') →
      wpOpsIn (fenceOf ro) m P ops Q (List.range' k l.length) act w
  | [], k, as, hl, hc, tm, σ, K, ρ, own, act, w, h, hA, hq => by
    cases hc
    exact hq _ _ _ _ _ _ h hA (.refl _ _ _ _)
  | o :: l, k, as, hl, hc, tm, σ, K, ρ, own, act, w, h, hA, hq => by
    simp only [cAos] at hc
    split at hc
    · rename_i a as' h1 h2
      cases hc
      have hk : ops[k]? = some o := by have := hl 0; simpa using this.symm
      have hl' : ∀ i, l[i]? = ops[k + 1 + i]? := fun i => by
        have := hl (i + 1)
        rw [show k + 1 + i = k + (i + 1) from by omega]
        simpa using this
      obtain ⟨hd1, hd2, hd3, _⟩ := cAo_ok h1
      simp only [List.length_cons, List.range'_succ]
      simp only [wpOpsIn, hk]
      simp only [opsK] at h
      obtain ⟨tm1, ht1, hcase⟩ := guard_ok h1 h hA.tm
      have hA1 : At TI gl B ro nt ρ own tm1 σ act w := ⟨hA.hr, hA.gl, ht1, hA.nt, hA.ro, hA.dr, hA.b⟩
      rcases hcase with ⟨hw, h⟩ | ⟨hw, h⟩
      · rw [if_pos hw]
        rw [hd3] at h
        refine oper_sim hT hE hH h hA1.hr hA1.gl hA1.tm ro m _ _ fun v' w' hs => ?_
        obtain ⟨v, σ1, ρ1, own1, k1, k2, k3, k4⟩ := hs
        rw [hd2] at k1
        exact ops_sim hT hE hH m l (k + 1) as' hl' h2 _ _ _ ρ1 own1 _ w' k1 (hA1.step k4 k3 hd1 k2) fun tm' σ' ρ' own' act' w'' x1 x2 x3 => hq _ _ _ _ _ _ x1 x2 (k4.trans x3)
      · rw [if_neg (by rw [hw]; simp)]
        refine ⟨fun f _ => fenceOf_fn ro f, ?_⟩
        rw [hd2] at h
        exact ops_sim hT hE hH m l (k + 1) as' hl' h2 _ _ _ ρ own _ w h (hA1.mv hd1 (rel_tup (cs' := []) (.nil ρ))) hq
    · cases hc

theorem reg_sim (hT : TIok P TI) (hE : EqOk P TI) {hd : Hd α} (hH : HdOk P TI gl hd) {ops : Array Oper} {nt B id : Nat} {ro : Option Nat} {r : α} (m : Nat) {as : List Ao} (hc : cAos TI gl nt ops ops.toList = some as) {tm : T V} {σ : H} {K : Ex → T V → H → Option α}
    {ρ : Rho} {own : Own} {act : Act} {w : World} (h : opsK hd as tm σ (K .normal) = some r) (hA : At TI gl B ro nt ρ own tm σ act w) : (Code.region id ops false).wpIn (fenceOf ro) m P (Post TI gl B ro nt K r ρ own σ w) act w := by
  refine wpIn_region ?_
  have := ops_sim hT hE hH (B := B) (ro := ro) (r := r) m (Q := Post TI gl B ro nt K r ρ own σ w) ops.toList 0 as (fun i => by simp) hc tm σ (K .normal) ρ own act w h hA
    (fun tm' σ' ρ' own' act' w' x1 x2 x3 => ⟨.normal, tm', σ', ρ', own', x1, trivial, x2, x3⟩)
  rw [List.range_eq_range']
  simpa using this
end
end Ak
