/- Code: what the abstract evaluator does, the machine does. -/
import Derived.Test.YtpbifekamdpdjaaGreatDoorAkReg
import Derived.Scope
namespace Ak
open Go
section
variable {P : Program} {TI : TypeId → Option Ti} {gl : List Nat} {α : Type}

def CodeOk (P : Program) (TI : TypeId → Option Ti) (gl : List Nat) (hd : Hd α) (B : Nat) (ro : Option Nat) (fid nt : Nat) (c : Code) : Prop :=
  ∀ (K : Ex → T V → H → Option α) (r : α) (tm : T V) (σ : H) (ρ : Rho) (own : Own) (act : Act) (w : World), codeK hd (cCode TI gl fid nt c) tm σ K = some r → At TI gl B ro nt ρ own tm σ act w →
    ∀ m, c.wpIn (fenceOf ro) m P (Post TI gl B ro nt K r ρ own σ w) act w

/-- The regions that draw their order. -/
def DrwOk (P : Program) (TI : TypeId → Option Ti) (gl : List Nat) (hd : Hd α) : Prop :=
  ∀ (B : Nat) (ro : Option Nat) (fid nt id : Nat) (ops : Array Oper), CodeOk P TI gl hd B ro fid nt (.region id ops true)

theorem stepR_scope {P : Program} {b : Frame} {a : Act} {k : List Item} {cs : List Frame} {w : World} {c : Code} : step P (lone (b.atR a (.code (.scope c) :: k)) cs w) = .next (lone (b.atR a (.code c :: .inScope c :: k)) cs w) :=
  step_lone_go (by simp [stepG, stepG.exec, Frame.atR])
theorem stepR_inScope {P : Program} {b : Frame} {a : Act} {k : List Item} {cs : List Frame} {w : World} {c : Code} : step P (lone (b.atR a (.inScope c :: k)) cs w) = .next (lone (b.atR a k) cs w) :=
  step_lone_go (by simp [stepG, stepG.exec, Frame.atR])
theorem wpIn_scope {P : Program} {F : Fence} {n : Nat} {Q : Exit → Act → World → Prop} {a : Act} {w : World} {c : Code} (h : c.wpIn F n P (Exit.noGoto Q) a w) : (Code.scope c).wpIn F n P Q a w := by
  intro b k cs hro hb hr
  have h0 : (lone (b.atR a (.code (.scope c) :: k)) cs w).fenced P F := fenced_calm hb hr rfl
  obtain ⟨e, a₁, w₁, hq, harr⟩ := h b (.inScope c :: k) cs hro hb hr
  cases e with
  | normal => exact ⟨.normal, a₁, w₁, hq, .head h0 stepR_scope (StepsIn.trans harr (.one (fenced_calm hb hr rfl) stepR_inScope))⟩
  | exit id' =>
    have hx : exitTo id' (.inScope c :: k) = exitTo id' k := by simp [exitTo]
    exact ⟨.exit id', a₁, w₁, hq, fun k' hk => .head h0 stepR_scope (harr.1 k' (by rw [hx]; exact hk)),
      fun hr' hk => let ⟨k₁, h1, h2⟩ := harr.2 hr' (by rw [hx]; exact hk); ⟨k₁, h1, .head h0 stepR_scope h2⟩⟩
  | goto l => exact hq.elim
  | ret => exact ⟨_, a₁, w₁, hq, .of_steps (.one h0 stepR_scope) harr⟩
  | panic ch => exact ⟨_, a₁, w₁, hq, .of_steps (.one h0 stepR_scope) harr⟩
  | outgrown => exact ⟨_, a₁, w₁, hq, .of_steps (.one h0 stepR_scope) harr⟩

/-- A loop, by its fuel. -/
theorem wpIn_loop_fuel {F : Fence} {m : Nat} {Q : Exit → Act → World → Prop} {c : Code} {a : Act} {w : World} (I : Nat → Act → World → Prop) (n : Nat) (h0 : I n a w)
    (round : ∀ n a w, I n a w → c.wpIn F m P (Exit.then (fun a' w' => ∃ n', n' < n ∧ I n' a' w') Q) a w) : (Code.loop c).wpIn F m P Q a w := by
  intro b k cs hro hb hr
  have key : ∀ n a w, I n a w → ∃ e a' w', Q e a' w' ∧ ArrivesIn (Machine.fenced P F) P (lone (b.atR a (.code c :: .inLoop c :: k)) cs w) b k cs e a' w' := by
    intro n
    induction n using Nat.strongRecOn with
    | _ n ih =>
      intro a w hI
      obtain ⟨e, a₁, w₁, hq, harr⟩ := round n a w hI b (.inLoop c :: k) cs hro hb hr
      cases e with
      | normal =>
        obtain ⟨n', hlt, hI₁⟩ := hq
        obtain ⟨e₂, a₂, w₂, hq₂, harr₂⟩ := ih n' hlt a₁ w₁ hI₁
        exact ⟨e₂, a₂, w₂, hq₂, .of_steps (StepsIn.trans harr (.one (fenced_calm hb hr rfl) stepR_inLoop)) harr₂⟩
      | exit id => exact ⟨_, a₁, w₁, hq, .pass (x := .inLoop c) rfl (fun _ _ => .inl (by simp)) harr⟩
      | goto l => exact ⟨_, a₁, w₁, hq, .pass (x := .inLoop c) rfl (fun _ _ => .inl (by simp)) harr⟩
      | ret => exact ⟨_, a₁, w₁, hq, .pass (x := .inLoop c) rfl (fun _ _ => .inl (by simp)) harr⟩
      | panic ch => exact ⟨_, a₁, w₁, hq, .pass (x := .inLoop c) rfl (fun _ _ => .inl (by simp)) harr⟩
      | outgrown => exact ⟨_, a₁, w₁, hq, .pass (x := .inLoop c) rfl (fun _ _ => .inl (by simp)) harr⟩
  obtain ⟨e, a', w', hq, harr⟩ := key n a w h0
  exact ⟨e, a', w', hq, .of_steps (.one (fenced_calm hb hr rfl) stepR_loop) harr⟩

theorem code_skip {hd : Hd α} {B : Nat} {ro : Option Nat} {fid nt : Nat} : CodeOk P TI gl hd B ro fid nt .skip := by
  intro K r tm σ ρ own act w h hA m
  exact wpIn_skip ⟨.normal, tm, σ, ρ, own, h, trivial, hA, .refl _ _ _ _⟩

theorem code_seq {hd : Hd α} {B : Nat} {ro : Option Nat} {fid nt : Nat} {x y : Code} (hx : CodeOk P TI gl hd B ro fid nt x) (hy : CodeOk P TI gl hd B ro fid nt y) : CodeOk P TI gl hd B ro fid nt (.seq x y) := by
  intro K r tm σ ρ own act w h hA m
  simp only [cCode, codeK] at h
  refine wpIn_seq (wpIn_mono (hx _ r tm σ ρ own act w h hA m) ?_)
  rintro e act1 w1 ⟨ex, tm1, σ1, ρ1, own1, k1, k2, k3, k4⟩
  cases ex with
  | normal =>
    cases e with
    | normal => exact wpIn_mono (hy _ r tm1 σ1 ρ1 own1 act1 w1 k1 k3 m) fun e a w' hp => hp.trans k4
    | _ => exact k2.elim
  | exit i =>
    cases e with
    | exit j => exact ⟨_, tm1, σ1, ρ1, own1, k1, k2, k3, k4⟩
    | _ => exact k2.elim
  | ret =>
    cases e with
    | ret => exact ⟨_, tm1, σ1, ρ1, own1, k1, k2, k3, k4⟩
    | _ => exact k2.elim

theorem code_cond {hd : Hd α} {B : Nat} {ro : Option Nat} {fid nt : Nat} {c : Operand} {x y : Code} (hx : CodeOk P TI gl hd B ro fid nt x) (hy : CodeOk P TI gl hd B ro fid nt y) : CodeOk P TI gl hd B ro fid nt (.cond c x y) := by
  intro K r tm σ ρ own act w h hA m
  simp only [cCode] at h
  split at h
  · rename_i C hC
    simp only [codeK] at h
    split at h
    · rename_i t ht
      have rv := cX_rel hA.gl hA.tm hC
      rw [ht] at rv
      have hv := rel_bool_inv rv
      refine wpIn_cond hv ?_
      cases t with
      | true => exact hx K r tm σ ρ own act w h hA m
      | false => exact hy K r tm σ ρ own act w h hA m
    · cases h
  · cases h

theorem code_block {hd : Hd α} (hs : ∀ k tm σ K, hd.sum k tm σ K = none) {B : Nat} {ro : Option Nat} {fid nt id : Nat} {x : Code} (hx : CodeOk P TI gl hd B ro fid nt x) : CodeOk P TI gl hd B ro fid nt (.block id x) := by
  intro K r tm σ ρ own act w h hA m
  simp only [cCode, codeK, hs] at h
  refine wpIn_block (wpIn_mono (hx _ r tm σ ρ own act w h hA m) ?_)
  rintro e act1 w1 ⟨ex, tm1, σ1, ρ1, own1, k1, k2, k3, k4⟩
  cases ex with
  | normal =>
    cases e with
    | normal => exact ⟨_, tm1, σ1, ρ1, own1, k1, trivial, k3, k4⟩
    | _ => exact k2.elim
  | exit i =>
    cases e with
    | exit j =>
      have : i = j := k2
      subst this
      simp only [Ex.inBlk] at k1
      simp only [Exit.inBlock]
      by_cases hij : i = id
      · subst hij
        rw [if_pos rfl]
        have hb : Nat.beq i i = true := by simp
        rw [hb] at k1
        exact ⟨_, tm1, σ1, ρ1, own1, k1, trivial, k3, k4⟩
      · rw [if_neg hij]
        have hb : Nat.beq i id = false := by
          cases hq : Nat.beq i id with
          | true => exact absurd (Nat.eq_of_beq_eq_true hq) hij
          | false => rfl
        rw [hb] at k1
        exact ⟨_, tm1, σ1, ρ1, own1, k1, rfl, k3, k4⟩
    | _ => exact k2.elim
  | ret =>
    cases e with
    | ret => exact ⟨_, tm1, σ1, ρ1, own1, k1, trivial, k3, k4⟩
    | _ => exact k2.elim

theorem code_loop {hd : Hd α} {B : Nat} {ro : Option Nat} {fid nt : Nat} {x : Code} (hx : CodeOk P TI gl hd B ro fid nt x) : CodeOk P TI gl hd B ro fid nt (.loop x) := by
  intro K r tm σ ρ own act w h hA m
  simp only [cCode, codeK] at h
  refine wpIn_loop_fuel (fun n act' w' => ∃ tm' σ' ρ' own', loopK (codeK hd (cCode TI gl fid nt x)) n tm' σ' K = some r ∧ At TI gl B ro nt ρ' own' tm' σ' act' w' ∧ Fr ρ own σ w ρ' own' σ' w') hd.fuel ⟨tm, σ, ρ, own, h, hA, .refl _ _ _ _⟩ ?_
  rintro n act1 w1 ⟨tm1, σ1, ρ1, own1, k1, k2, k3⟩
  cases n with
  | zero => cases k1
  | succ n =>
    simp only [loopK] at k1
    refine wpIn_mono (hx _ r tm1 σ1 ρ1 own1 act1 w1 k1 k2 m) ?_
    rintro e act2 w2 ⟨ex, tm2, σ2, ρ2, own2, j1, j2, j3, j4⟩
    cases ex with
    | normal =>
      cases e with
      | normal => exact ⟨n, Nat.lt_succ_self _, tm2, σ2, ρ2, own2, j1, j3, k3.trans j4⟩
      | _ => exact j2.elim
    | exit i =>
      cases e with
      | exit j => exact ⟨_, tm2, σ2, ρ2, own2, j1, j2, j3, k3.trans j4⟩
      | _ => exact j2.elim
    | ret =>
      cases e with
      | ret => exact ⟨_, tm2, σ2, ρ2, own2, j1, j2, j3, k3.trans j4⟩
      | _ => exact j2.elim

/-- A block that is no object's. -/
theorem HR.extra {C : Cor} {ρ : Rho} {own : Own} {σ : H} {w : World} (h : HR C ρ own σ w) (ob : Obj) : HR C ρ own σ (w.alloc ob) ∧ Fr ρ own σ w ρ own σ (w.alloc ob) := by
  have hold : ∀ b, b < w.heap.size → (w.alloc ob).heap[b]? = w.heap[b]? := fun b hb => RowKit.Below.heap_alloc w ob b hb
  refine ⟨⟨fun id L e => ⟨(h.dom id L e).1, by have := (h.dom id L e).2; simp; omega⟩, fun id L o e ex => (h.obj id L o e ex).stable (.refl ρ) (hold _ (h.dom id L e).2) rfl, fun b id e => by have := h.own b id e; simp; omega⟩,
    ⟨.refl ρ, Nat.le_refl _, fun _ e _ => ⟨e, rfl⟩, ⟨[], rfl, fun _ _ _ => rfl⟩, fun b hb e => ⟨e, hold b hb⟩, by simp, rfl, rfl, rfl, fun b ⟨r, e⟩ => ⟨r, (hold b (Array.getElem?_eq_some_iff.1 e).1).trans e⟩⟩⟩

/-- A loop's record turned. -/
theorem loop_mut {ρ : Rho} {own : Own} {σ : H} {w : World} (hr : HR (CC TI gl) ρ own σ w) {id : Nat} {L : Loc} (hL : ρ id = some L) {lr : Lr} (hl : σ.get id = some (.loop lr)) :
    ∃ l, w.heap[L.blk]? = some (.loop l) ∧ LrR (CC TI gl) ρ lr l ∧ ∀ (lr' : Lr) (l' : Loop), LrR (CC TI gl) ρ lr' l' →
      HR (CC TI gl) ρ own (σ.put id (.loop lr')) (w.putObj L.blk (.loop l')) ∧ Fr ρ own σ w ρ own (σ.put id (.loop lr')) (w.putObj L.blk (.loop l')) := by
  obtain ⟨h1, l, h2, h3⟩ := hr.obj _ _ _ hL hl
  refine ⟨l, h2, h3, fun lr' l' h => ?_⟩
  have hb := (hr.dom _ _ hL).2
  exact hr.mut hL h1 (.loop lr') (fun b hb2 => World.putObj_heap_other hb2) (by simp) rfl rfl rfl ⟨h1, l', World.putObj_heap_same hb, h⟩ (fun _ => ⟨l', World.putObj_heap_same hb⟩)

theorem allB_lt {nt : Nat} : ∀ {ps : List Nat}, allB (fun p => Nat.blt p nt) ps = true → ∀ p ∈ ps, p < nt
  | [], _, p, h => by cases h
  | q :: ps, h, p, hp => by
    simp only [allB, Bool.and_eq_true] at h
    cases hp with
    | head => exact blt_iff.1 h.1
    | tail _ hp => exact allB_lt h.2 p hp

theorem DR.mark {B : Nat} {own : Own} {w : World} {ds : List Deferred} (h : DR B own w ds) {r : Nat} (hr : B ≤ r) (ho : own r = none) (hh : w.heap[r]? = some (.deferred (some []))) (hf : ∀ d ∈ ds, d.target ≠ .collected r) :
    DR B own w ({ target := .collected r, args := #[] } :: ds) := by
  refine ⟨fun d hd => ?_, .cons (fun d hd r' e => ?_) h.2⟩
  · cases hd with
    | head => exact ⟨r, rfl, hr, ho, hh⟩
    | tail _ hd => exact h.1 d hd
  · simp only [Target.collected.injEq] at e
    subst e
    exact hf d hd

theorem code_rng {hd : Hd α} (hH : HdOk P TI gl hd) {B : Nat} {ro : Option Nat} {fid nt : Nat} {g : Operand} {ps : Array Tmp} {asn body : Code} : CodeOk P TI gl hd B ro fid nt (.rangeFunc g ps asn body) := by
  intro K r tm σ ρ own act w h hA m
  simp only [cCode] at h
  split at h
  · rename_i G hG
    cases hps : allB (fun p => Nat.blt p nt) ps.toList with
    | false => rw [hps] at h; cases h
    | true =>
      rw [hps] at h
      simp only [cond_true, codeK, rngK] at h
      have rg := cX_rel hA.gl hA.tm hG
      split at h
      · rename_i f xs cap hev
        rw [hev] at rg
        obtain ⟨xs', cap', hgv, rx, rc⟩ := rel_fn_inv rg
        refine wpIn_rangeFunc fun fn _ => ?_
        -- the record is laid
        obtain ⟨l0, hlay⟩ : ∃ dfs, ∃ w0 mark, HR (CC TI gl) ρ own σ w0 ∧ Fr ρ own σ w ρ own σ w0 ∧ DR B own w0 (mark ++ act.defers) ∧ (ro.isSome = true → mark = []) ∧
            (Instr.enterLoop fn act.tmps ps asn body ro).run P w = .ok (w0.heap.size, mark) (w0.alloc (.loop { state := .ready, pending := none, fn, tmps := act.tmps, params := ps, assign := asn, body, defers := dfs })) := by
          cases hro : ro with
          | none =>
            obtain ⟨e1, e2⟩ := hA.hr.extra (.deferred (some []))
            refine ⟨w.heap.size, _, [{ target := .collected w.heap.size, args := #[] }], e1, e2, ?_, by simp, ?_⟩
            · refine (hA.dr.keep e2).mark hA.b hA.hr.newblk (World.alloc_heap_new w _) fun d hd hd2 => ?_
              obtain ⟨r0, q1, q2, q3, q4⟩ := hA.dr.1 d hd
              rw [q1] at hd2
              cases hd2
              have := (Array.getElem?_eq_some_iff.1 q4).1
              omega
            · rw [run_enterLoop_outer]
              simp
          | some l =>
            obtain ⟨r0, hr0⟩ := hA.ro l hro
            refine ⟨r0.defers, w, [], hA.hr, .refl _ _ _ _, hA.dr, fun _ => rfl, ?_⟩
            unfold Instr.enterLoop
            simp only [Sem.run_bind, run_getLoop hr0, Result.andThen_ok, Sem.run_pure, run_newObj_alloc]
        obtain ⟨w0, mark, hr0, fr0, hdr, hmk, hrun⟩ := hlay
        obtain ⟨L, hLdef⟩ : ∃ L : Loc, L = ⟨w0.heap.size, 0, 0, 0⟩ := ⟨_, rfl⟩
        obtain ⟨lr, hlr⟩ : ∃ lr : Lr, lr = { st := .ready, pend := none, tm := tm, ps := ps.toList, asn := cCode TI gl fid nt asn, body := cCode TI gl fid nt body } := ⟨_, rfl⟩
        obtain ⟨lp, hlp⟩ : ∃ lp : Loop, lp = { state := .ready, pending := none, fn, tmps := act.tmps, params := ps, assign := asn, body, defers := l0 } := ⟨_, rfl⟩
        have hext : Ext ρ (ρ.add σ.next L) := Rho.ext_add hr0.fresh
        have hLr : LrR (CC TI gl) (ρ.add σ.next L) lr lp := by
          subst hlr
          subst hlp
          exact ⟨trivial, trivial, hA.tm.mono hext, rfl, fun p hp => by rw [hA.nt]; exact allB_lt hps p hp, by rw [hA.nt]; exact ⟨fid, rfl⟩, by rw [hA.nt]; exact ⟨fid, rfl⟩⟩
        obtain ⟨p1, p2⟩ := hr0.push (.loop lp) (.loop lr) L (by rw [hLdef]) ⟨by rw [hLdef]; simp [Own.add], lp, by rw [hLdef]; exact World.alloc_heap_new w0 _, hLr⟩
        have hfr := fr0.trans p2
        rw [← hlr] at h
        rw [← hlp] at hrun
        have hargs : RelL (ρ.add σ.next L) (xs ++ [.yld σ.next] ++ cap) (xs' ++ #[Value.func (.yield w0.heap.size) #[] #[]] ++ cap').toList := by
          refine relL_app (rx.mono hext) ?_ (rc.mono hext)
          refine RelL.cons ?_ (.nil _)
          have := Rel.yld (ρ := ρ.add σ.next L) σ.next L (by simp [Rho.add])
          rw [hLdef] at this ⊢
          exact this
        obtain ⟨fnc, c1, c2, c3, c4⟩ := hH _ _ _ _ _ h _ _ (w0.alloc (.loop lp)) _ hargs p1 (hA.gl.mono hext)
        refine ⟨w0.heap.size, mark, w0.alloc (.loop lp), { target := .fn (.func f) cap', args := xs' ++ #[Value.func (.yield w0.heap.size) #[] #[]] }, w0.alloc (.loop lp), f, xs' ++ #[Value.func (.yield w0.heap.size) #[] #[]] ++ cap', w0.alloc (.loop lp), ?_, ?_, fun f' _ => fenceOf_fn ro f', ?_, by simp [fenceOf_depth], ?_⟩
        · rw [fenceOf_round]; exact hrun
        · simp only [resolve, hgv, Deferred.ofValue]
          simp [Act.eval]
        · simp only [invoke]
          exact run_callFunc c1 c2 c3
        · refine (callsIn_of (c4 _)).mono ?_
          rintro e w3 ⟨v', rfl, v, σ3, ρ3, own3, k1, k2, k3, k4⟩
          simp only [rangePost]
          simp only at k1
          have hL3 : ρ3 σ.next = some L := k4.ext _ _ (by simp [Rho.add])
          split at k1
          · rename_i lr3 hlr3
            obtain ⟨l3, g1, g2, g3⟩ := loop_mut k3 hL3 hlr3
            have hblk : L.blk = w0.heap.size := by rw [hLdef]
            have mk : ∀ σ' w', Fr ρ3 own3 σ3 w3 ρ3 own3 σ' w' → HR (CC TI gl) ρ3 own3 σ' w' → At TI gl B ro nt ρ3 own3 tm σ' { act with defers := mark ++ act.defers } w' ∧ Fr ρ own σ w ρ3 own3 σ' w' := by
              intro σ' w' hf' hr'
              have ft := (hfr.trans k4).trans hf'
              exact ⟨⟨hr', hA.gl.mono ft.ext, hA.tm.mono ft.ext, hA.nt, hA.ro.keep ft, ((hdr.keep p2).keep k4).keep hf', Nat.le_trans hA.b ft.size⟩, ft⟩
            have hst : l3.state ≠ .busy := by
              intro e
              have := g2.st
              rw [e] at this
              cases hs3 : lr3.st with
              | busy => rw [hs3] at k1; cases k1
              | _ => rw [hs3] at this; exact this.elim
            have hgo : (match lr3.pend with
                | none => K .normal tm (σ3.put σ.next (.loop { lr3 with st := .exhausted }))
                | some e => K e tm (σ3.put σ.next (.loop { lr3 with st := .exhausted }))) = some r := by
              cases hs3 : lr3.st with
              | busy => rw [hs3] at k1; cases k1
              | _ => rw [hs3] at k1; exact k1
            obtain ⟨q1, q2⟩ := g3 { lr3 with st := .exhausted } { l3 with state := .exhausted } ⟨trivial, g2.pend, g2.tm, g2.ps, g2.pb, g2.asn, g2.body⟩
            obtain ⟨z1, z2⟩ := mk _ _ q2 q1
            rw [hblk] at g1 z1 z2
            have hend := run_endLoop (P := P) g1 hst
            obtain ⟨σ4, hσ4⟩ : ∃ s, s = σ3.put σ.next (.loop { lr3 with st := .exhausted }) := ⟨_, rfl⟩
            obtain ⟨w4, hw4⟩ : ∃ s, s = w3.putObj w0.heap.size (.loop { l3 with state := .exhausted }) := ⟨_, rfl⟩
            rw [← hw4] at hend z1 z2
            rw [← hσ4] at hgo z1 z2
            refine ⟨l3.pending, w4, hend, ?_⟩
            have hpend := g2.pend
            cases hp3 : lr3.pend with
            | none =>
              rw [hp3] at hpend hgo
              cases hq3 : l3.pending with
              | none => exact ⟨.normal, tm, _, ρ3, own3, hgo, trivial, z1, z2⟩
              | some c => rw [hq3] at hpend; exact hpend.elim
            | some ex =>
              rw [hp3] at hpend hgo
              cases hq3 : l3.pending with
              | none => rw [hq3] at hpend; exact hpend.elim
              | some c =>
                rw [hq3] at hpend
                cases ex with
                | normal => cases c <;> exact hpend.elim
                | ret =>
                  cases c with
                  | ret => exact wpIn_ret ⟨.ret, tm, _, ρ3, own3, hgo, trivial, z1, z2⟩
                  | _ => exact hpend.elim
                | exit i =>
                  cases c with
                  | exit j => exact wpIn_exit ⟨.exit i, tm, _, ρ3, own3, hgo, hpend, z1, z2⟩
                  | _ => exact hpend.elim
          · cases k1
      · cases h
  · cases h

theorem code_sim (hT : TIok P TI) (hE : EqOk P TI) {hd : Hd α} (hH : HdOk P TI gl hd) (hs : ∀ k tm σ K, hd.sum k tm σ K = none) (hD : DrwOk P TI gl hd) (B : Nat) (ro : Option Nat) (fid nt : Nat) : ∀ c : Code, CodeOk P TI gl hd B ro fid nt c
  | .skip => code_skip
  | .region id ops false => by
    intro K r tm σ ρ own act w h hA m
    simp only [cCode] at h
    split at h
    · rename_i as has
      exact reg_sim hT hE hH m has h hA
    · cases h
  | .region id ops true => hD B ro fid nt id ops
  | .seq a b => code_seq (code_sim hT hE hH hs hD B ro fid nt a) (code_sim hT hE hH hs hD B ro fid nt b)
  | .cond c a b => code_cond (code_sim hT hE hH hs hD B ro fid nt a) (code_sim hT hE hH hs hD B ro fid nt b)
  | .block id a => code_block hs (code_sim hT hE hH hs hD B ro fid nt a)
  | .loop a => code_loop (code_sim hT hE hH hs hD B ro fid nt a)
  | .rangeFunc g ps asn body => code_rng hH
  | .exit id => by
    intro K r tm σ ρ own act w h hA m
    exact wpIn_exit ⟨.exit id, tm, σ, ρ, own, h, rfl, hA, .refl _ _ _ _⟩
  | .ret => by
    intro K r tm σ ρ own act w h hA m
    exact wpIn_ret ⟨.ret, tm, σ, ρ, own, h, trivial, hA, .refl _ _ _ _⟩
  | .scope a => by
    intro K r tm σ ρ own act w h hA m
    refine wpIn_scope (wpIn_mono (code_sim hT hE hH hs hD B ro fid nt a K r tm σ ρ own act w h hA m) ?_)
    rintro e act2 w2 ⟨ex, tm2, σ2, ρ2, own2, k1, k2, k3, k4⟩
    cases e with
    | goto l => cases ex <;> exact k2.elim
    | _ => exact ⟨ex, tm2, σ2, ρ2, own2, k1, k2, k3, k4⟩
  | .goto l => by intro K r tm σ ρ own act w h; cases h
  | .label l => by
    intro K r tm σ ρ own act w h hA m
    exact wpIn_label ⟨.normal, tm, σ, ρ, own, h, trivial, hA, .refl _ _ _ _⟩
  | .refuse s => by intro K r tm σ ρ own act w h; cases h
end
end Ak
