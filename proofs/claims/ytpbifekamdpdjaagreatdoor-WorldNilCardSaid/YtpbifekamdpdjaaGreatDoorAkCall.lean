/- Functions and rounds: what the abstract evaluator does, the machine does. -/
import Derived.Test.YtpbifekamdpdjaaGreatDoorAkRun
namespace Ak
open Go
section
variable {P : Program} {TI : TypeId → Option Ti} {gl : List Nat} {α : Type}

def resVal (tmps : Array Value) : ResultVar → Sem Value
  | .tmp t => pure (tmps.getD t undef)
  | .cell a t => do loadVar t (← asAddr (tmps.getD a undef))

theorem res_ok (hT : TIok P TI) {nt : Nat} {C : Cor} {ρ : Rho} {own : Own} {σ : H} {w : World} (hr : HR C ρ own σ w) {tm : T V} {tmps : Array Value} (ht : TmR ρ tm tmps) {r : α} : ∀ (l : List ResultVar) (rs : List Rv) (K : List V → Option α), cRes TI nt l = some rs → resK tm σ rs K = some r →
    ∃ vs vs', K vs = some r ∧ RelL ρ vs vs' ∧ (l.mapM (resVal tmps)).run P w = .ok vs' w
  | [], rs, K, hc, h => by cases hc; exact ⟨[], [], h, .nil ρ, rfl⟩
  | .tmp t :: l, rs, K, hc, h => by
    simp only [cRes] at hc
    split at hc
    · rename_i r' h1
      cases hc
      simp only [resK] at h
      obtain ⟨vs, vs', k1, k2, k3⟩ := res_ok hT hr ht l r' _ h1 h
      refine ⟨_, _, k1, .cons (ht.ev t) k2, ?_⟩
      simp only [List.mapM_cons, resVal, Sem.run_bind, Sem.run_pure, Result.andThen_ok, k3]
    · cases hc
  | .cell a t :: l, rs, K, hc, h => by
    simp only [cRes] at hc
    split at hc
    · rename_i i r' hi h1
      cases hc
      have hv := ht.ev a
      have key : ∀ id off, ev tm (.t a) = .ptr id off → ∀ K2 : V → Option α, (if isAg i.d then ldnK σ id off i.size fun cs => K2 (.agg cs) else ldK σ id off K2) = some r → (∀ v, K2 v = some r → resK tm σ r' (fun vs => K (v :: vs)) = some r) →
          ∃ vs vs', K vs = some r ∧ RelL ρ vs vs' ∧ ((ResultVar.cell a t :: l).mapM (resVal tmps)).run P w = .ok vs' w := by
        intro id off he K2 hk hK2
        rw [he] at hv
        obtain ⟨L, hL, hl, hp⟩ := rel_ptr_inv hv
        rw [hp] at hv
        obtain ⟨v, v', j1, j2, j3⟩ := loadVar_sim hT hr hi hv hk
        obtain ⟨vs, vs', k1, k2, k3⟩ := res_ok hT hr ht l r' _ h1 (hK2 v j1)
        refine ⟨_, _, k1, .cons j3 k2, ?_⟩
        simp only [List.mapM_cons, resVal, Sem.run_bind, hp, asAddr, Sem.run_pure, Result.andThen_ok, j2, k3]
      cases hag : isAg i.d with
      | true =>
        rw [hag] at h
        simp only [cond_true, resK] at h
        split at h
        · rename_i id off he
          exact key id off he (fun v => resK tm σ r' (fun vs => K (v :: vs))) (by rw [hag]; exact h) (fun v hv => hv)
        · cases h
      | false =>
        rw [hag] at h
        simp only [cond_false, resK] at h
        split at h
        · rename_i id off he
          exact key id off he (fun v => resK tm σ r' (fun vs => K (v :: vs))) (by rw [hag]; exact h) (fun v hv => hv)
        · cases h
    · cases hc

theorem results_ok (hT : TIok P TI) {nt : Nat} {C : Cor} {ρ : Rho} {own : Own} {σ : H} {w : World} (hr : HR C ρ own σ w) {tm : T V} {fn : Func} {tmps : Array Value} (ht : TmR ρ tm tmps) {r : α} {rs : List Rv} {K : V → Option α} (hc : cRes TI nt fn.results.toList = some rs) (h : resK tm σ rs (fun vs => K (tupF vs)) = some r) :
    ∃ v v', K v = some r ∧ Rel ρ v v' ∧ (results fn tmps).run P w = .ok v' w := by
  obtain ⟨vs, vs', k1, k2, k3⟩ := res_ok hT hr ht _ _ _ hc h
  refine ⟨_, if h : vs'.toArray.size = 1 then vs'.toArray[0] else .tuple vs'.toArray, k1, ?_, ?_⟩
  · match vs, vs', k2 with
    | [], [], k2 => exact rel_tup k2
    | [v], [v'], k2 => exact k2.head
    | a :: b :: l, [], k2 => have := k2.1; simp at this
    | a :: b :: l, [_], k2 => have := k2.1; simp at this
    | a :: b :: l, a' :: b' :: l', k2 =>
      have : ¬ ((a' :: b' :: l').toArray.size = 1) := by simp
      simp only [this, dif_neg, not_false_eq_true]
      exact rel_tup k2
    | [], _ :: _, k2 => have := k2.1; simp at this
    | [_], [], k2 => have := k2.1; simp at this
    | [_], _ :: _ :: _, k2 => have := k2.1; simp at this
  · have hres : results fn tmps = (do let vs ← fn.results.mapM (resVal tmps); pure (if h : vs.size = 1 then vs[0] else .tuple vs)) := rfl
    rw [hres, Array.mapM_eq_mapM_toList]
    simp only [Sem.run_bind, Sem.run_map, k3, Result.andThen_ok, Sem.run_pure]

/-- A mark's block shut. -/
theorem shut_ok {ρ ρ0 : Rho} {own own0 : Own} {σ σ0 : H} {w w0 : World} (hr : HR (CC TI gl) ρ own σ w) (f : Fr ρ0 own0 σ0 w0 ρ own σ w) {b : Nat} (hb : w0.heap.size ≤ b) (ho : own b = none) (hh : w.heap[b]? = some (.deferred (some []))) :
    HR (CC TI gl) ρ own σ (w.putObj b (.deferred none)) ∧ Fr ρ0 own0 σ0 w0 ρ own σ (w.putObj b (.deferred none)) := by
  have other : ∀ c, c ≠ b → (w.putObj b (.deferred none)).heap[c]? = w.heap[c]? := fun c hc => World.putObj_heap_other hc
  refine ⟨⟨fun id L e => by rw [World.putObj_size]; exact hr.dom id L e, fun id L o e ex => ?_, fun c id e => by rw [World.putObj_size]; exact hr.own c id e⟩,
    ⟨f.ext, f.next, f.un, f.log, fun c hc e => ?_, by rw [World.putObj_size]; exact f.size, f.os, f.tape, f.out, fun c hc => ?_⟩⟩
  · have hx := hr.obj id L o e ex
    by_cases hL : L.blk = b
    · cases o with
      | dead => trivial
      | cells c z lo hi ro =>
        obtain ⟨_, _, _, arr, el, fr, h4, _⟩ := hx
        rw [hL, hh] at h4; cases h4
      | map es => obtain ⟨_, es', c, h4, _⟩ := hx; rw [hL, hh] at h4; cases h4
      | loop r => obtain ⟨_, l, h4, _⟩ := hx; rw [hL, hh] at h4; cases h4
      | defs => rw [← hL, hx.1] at ho; cases ho
      | shut => rw [← hL, hx.1] at ho; cases ho
    · exact hx.stable (.refl ρ) (other _ hL) rfl
  · obtain ⟨a, b2⟩ := f.heap c hc e
    exact ⟨a, (other c (by omega)).trans b2⟩
  · obtain ⟨r, e⟩ := f.lps c hc
    have hne : c ≠ b := by intro e2; subst e2; rw [hh] at e; cases e
    exact ⟨r, (other c hne).trans e⟩

theorem leaves_ok (hT : TIok P TI) {m nt : Nat} {fn : Func} {tm : T V} {tmps : Array Value} {rs : List Rv} {σ σ0 : H} {K : V → H → Option α} {r : α} {ρ ρ0 : Rho} {own own0 : Own} {w0 : World} (ht : TmR ρ tm tmps) (hc : cRes TI nt fn.results.toList = some rs)
    (h : resK tm σ rs (fun vs => K (tupF vs) σ) = some r) : ∀ (ds : List Deferred) (w : World), HR (CC TI gl) ρ own σ w → Fr ρ0 own0 σ0 w0 ρ own σ w → DR w0.heap.size own w ds →
    LeavesInM Fence.wide m P fn tmps (fun e w' => ∃ v', e = .returned v' ∧ SimV (CC TI gl) K r ρ0 own0 σ0 w0 v' w') ds .returning w
  | [], w, hr, f, _ => by
    obtain ⟨v, v', k1, k2, k3⟩ := results_ok hT hr ht (K := fun v => K v σ) hc h
    exact ⟨v', k3, v', rfl, v, σ, ρ, own, k1, k2, hr, f⟩
  | d :: ds, w, hr, f, hd => by
    obtain ⟨b, h1, h2, h3, h4⟩ := hd.1 d (List.mem_cons_self ..)
    obtain ⟨q1, q2⟩ := shut_ok hr f h2 h3 h4
    refine ⟨by simp, .inl ⟨b, _, h1, run_takeDeferred h4, leaves_ok hT ht hc h ds _ q1 q2 ⟨fun d' hd' => ?_, (List.pairwise_cons.1 hd.2).2⟩⟩⟩
    obtain ⟨b', j1, j2, j3, j4⟩ := hd.1 d' (List.mem_cons_of_mem _ hd')
    have hne : b' ≠ b := by
      intro e; subst e
      exact (List.pairwise_cons.1 hd.2).1 d' hd' _ h1 j1
    exact ⟨b', j1, j2, j3, (World.putObj_heap_other hne).trans j4⟩

/-- The functions that are evaluated. -/
def FOk (P : Program) (TI : TypeId → Option Ti) (gl : List Nat) (F : Nat → Option Af) : Prop :=
  ∀ f a, F f = some a → ∃ fn c, P.funcs[f]? = some fn ∧ fn.name ≠ "runtime.NumGoroutine" ∧ fn.body = some c ∧ cFunc TI gl f fn = some a
def SOk (P : Program) (TI : TypeId → Option Ti) (gl : List Nat) (S : Nat → Option (List V → H → (V → H → Option α) → Option α)) : Prop :=
  ∀ f G, S f = some G → ∀ args σ K r, G args σ K = some r → CallOk P TI gl (.fn f) args σ K r
def DOk (P : Program) (TI : TypeId → Option Ti) (gl : List Nat) (α : Type) : Prop :=
  ∀ hd : Hd α, HdOk P TI gl hd → (∀ k tm σ K, hd.sum k tm σ K = none) → DrwOk P TI gl hd

theorem body_ok (hT : TIok P TI) (hE : EqOk P TI) {hd : Hd α} (hH : HdOk P TI gl hd) (hs : ∀ k tm σ K, hd.sum k tm σ K = none) (hD : DrwOk P TI gl hd) {f : FuncId} {a : Af} {fn : Func} {c : Code} (hf : P.funcs[f]? = some fn) (hb : fn.body = some c) (hc : cFunc TI gl f fn = some a)
    {args : List V} {σ : H} {K : V → H → Option α} {r : α} (h : bodyK hd a args σ K = some r) {ρ : Rho} {own : Own} {w : World} {args' : Array Value} (ha : RelL ρ args args'.toList) (hr : HR (CC TI gl) ρ own σ w) (hg : GlR gl ρ) (m : Nat) :
    CallsIn Fence.wide m P f args' w (fun e w' => ∃ v', e = .returned v' ∧ SimV (CC TI gl) K r ρ own σ w v' w') := by
  unfold cFunc at hc
  rw [hb] at hc
  simp only at hc
  split at hc
  · rename_i rs hrs
    cases hc
    unfold bodyK at h
    obtain ⟨hle, h⟩ := bif_then h
    have hle := leB_iff.1 hle
    simp only at hle h
    have hsz : args'.size = args.length := by have := ha.1; simpa using this.symm
    refine callsIn_of_wp_marks hf hb trivial (wpIn_mono (code_sim hT hE hH hs hD w.heap.size none f fn.ntmps c _ r (tof args) σ ρ own _ w h ⟨hr, hg, ?_, by simp [hsz]; omega, fun l e => (by cases e), ⟨by simp, .nil⟩, Nat.le_refl _⟩ m) ?_)
    · intro t v e
      rw [get_tof] at e
      obtain ⟨v', e', rv⟩ := ha.get e
      refine ⟨v', ?_, rv⟩
      have hlt := (List.getElem?_eq_some_iff.1 e').1
      rw [Array.getElem?_append_left (by simpa using hlt)]
      simpa using e'
    · rintro e act1 w1 ⟨ex, tm1, σ1, ρ1, own1, k1, k2, k3, k4⟩
      cases ex with
      | exit i => cases k1
      | normal =>
        cases e with
        | normal => exact leaves_ok hT k3.tm hrs k1 _ _ k3.hr k4 k3.dr
        | _ => exact k2.elim
      | ret =>
        cases e with
        | ret => exact leaves_ok hT k3.tm hrs k1 _ _ k3.hr k4 k3.dr
        | _ => exact k2.elim
  · cases hc

theorem setPs_ok {ρ : Rho} : ∀ (ps : List Nat) (args : List V) (args' : List Value) (tm tm' : T V) (tmps : Array Value), setPs ps args tm = some tm' → RelL ρ args args' → TmR ρ tm tmps → (∀ p ∈ ps, p < tmps.size) →
    ps.length = args'.length ∧ TmR ρ tm' ((ps.zip args').foldl (fun tmps (t, a) => tmps.setIfInBounds t a) tmps) ∧ ((ps.zip args').foldl (fun tmps (t, a) => tmps.setIfInBounds t a) tmps).size = tmps.size
  | [], [], args', tm, tm', tmps, h, hr, ht, _ => by
    obtain rfl := hr.nil_inv
    cases h
    exact ⟨rfl, ht, rfl⟩
  | [], _ :: _, _, _, _, _, h, _, _, _ => by cases h
  | _ :: _, [], _, _, _, _, h, _, _, _ => by cases h
  | p :: ps, v :: vs, args', tm, tm', tmps, h, hr, ht, hp => by
    obtain ⟨v', ws, rfl, rv, hr2⟩ := hr.cons_inv
    simp only [setPs] at h
    have hlt := hp p (List.mem_cons_self ..)
    obtain ⟨a, b, c⟩ := setPs_ok ps vs ws _ tm' (tmps.setIfInBounds p v') h hr2 (ht.put hlt rv) (fun q hq => by simpa using hp q (List.mem_cons_of_mem _ hq))
    exact ⟨by simp [a], b, by simpa using c⟩

theorem round_ok (hT : TIok P TI) (hE : EqOk P TI) {hd : Hd α} (hH : HdOk P TI gl hd) (hs : ∀ k tm σ K, hd.sum k tm σ K = none) (hD : DrwOk P TI gl hd) {id : Nat} {args : List V} {σ : H} {K : V → H → Option α} {r : α} (h : roundK hd id args σ K = some r) :
    CallOk P TI gl (.yld id) args σ K r := by
  intro ρ own w args' ha hr hg L hL
  unfold roundK at h
  split at h
  · rename_i lr hlr
    obtain ⟨l, h1, h2, h3⟩ := loop_mut hr hL hlr
    split at h
    · cases h
    · rename_i tm htm
      obtain ⟨p1, p2, p3⟩ := setPs_ok lr.ps args args'.toList lr.tm tm l.tmps htm ha h2.tm h2.pb
      rw [h2.ps] at p1 p2 p3
      have hsz : args'.size = l.params.size := by simpa using p1.symm
      have hfold : ((l.params.zip args').foldl (fun tmps (t, a) => tmps.setIfInBounds t a) l.tmps) = ((l.params.toList.zip args'.toList).foldl (fun tmps (t, a) => tmps.setIfInBounds t a) l.tmps) := by
        rw [← Array.foldl_toList, Array.toList_zip]
      refine ⟨l.fn, _, l.assign, l.body, run_yield h1 hsz, fun m => roundIn_of_wpIn trivial ?_⟩
      rw [hfold]
      obtain ⟨tmps1, ht1⟩ : ∃ t, t = ((l.params.toList.zip args'.toList).foldl (fun tmps (t, a) => tmps.setIfInBounds t a) l.tmps) := ⟨_, rfl⟩
      rw [← ht1] at p2 p3 ⊢
      obtain ⟨fa, hasn⟩ := h2.asn
      rw [hasn] at h
      have hA : At TI gl 0 (some L.blk) l.tmps.size ρ own tm σ { tmps := tmps1, defers := [] } w := ⟨hr, hg, p2, p3, fun l' e => (by cases e; exact ⟨l, h1⟩), ⟨by simp, .nil⟩, Nat.zero_le _⟩
      refine wpIn_mono (code_sim hT hE hH hs hD 0 (some L.blk) fa l.tmps.size l.assign _ r tm σ ρ own _ w h hA m) ?_
      rintro e act1 w1 ⟨ex, tm1, σ1, ρ1, own1, k1, k2, k3, k4⟩
      cases ex with
      | exit i => cases k1
      | ret => cases k1
      | normal =>
        cases e with
        | normal =>
          have hL1 := k4.ext _ _ hL
          simp only at k1
          split at k1
          · rename_i lr1 hlr1
            obtain ⟨l1, g1, g2, g3⟩ := loop_mut k3.hr hL1 hlr1
            split at k1
            · rename_i hst
              have hready : l1.state = .ready := by
                have := g2.st
                rw [hst] at this
                cases hq : l1.state <;> rw [hq] at this <;> first | rfl | exact this.elim
              obtain ⟨q1, q2⟩ := g3 { lr1 with st := .busy } { l1 with state := .busy } ⟨trivial, g2.pend, g2.tm, g2.ps, g2.pb, g2.asn, g2.body⟩
              refine ⟨_, run_beginRound g1 hready, ?_⟩
              obtain ⟨fb, hbody⟩ := h2.body
              rw [hbody] at k1
              have ft := k4.trans q2
              have hA2 : At TI gl 0 (some L.blk) l.tmps.size ρ1 own1 tm1 (σ1.put id (.loop { lr1 with st := .busy })) act1 (w1.putObj L.blk (.loop { l1 with state := .busy })) :=
                ⟨q1, k3.gl, k3.tm, k3.nt, k3.ro.keep q2, k3.dr.keep q2, Nat.zero_le _⟩
              refine wpIn_mono (code_sim hT hE hH hs hD 0 (some L.blk) fb l.tmps.size l.body _ r tm1 _ ρ1 own1 act1 _ k1 hA2 m) ?_
              rintro e act3 w3 ⟨ex, tm3, σ3, ρ3, own3, j1, j2, j3, j4⟩
              have hL3 := j4.ext _ _ hL1
              simp only at j1
              split at j1
              · rename_i lr3 hlr3
                obtain ⟨l3, y1, y2, y3⟩ := loop_mut j3.hr hL3 hlr3
                cases ex with
                | normal =>
                  cases e with
                  | normal =>
                    obtain ⟨z1, z2⟩ := y3 { lr3 with st := .ready, pend := none } { l3 with state := .ready, pending := none } ⟨trivial, trivial, y2.tm, y2.ps, y2.pb, y2.asn, y2.body⟩
                    exact ⟨_, _, run_endRound none y1, _, rfl, _, _, ρ3, own3, j1, .bool true, z1, (ft.trans j4).trans z2⟩
                  | _ => exact j2.elim
                | exit i =>
                  cases e with
                  | exit i' =>
                    obtain ⟨z1, z2⟩ := y3 { lr3 with st := .done, pend := some (.exit i) } { l3 with state := .done, pending := some (.exit i') } ⟨trivial, j2, y2.tm, y2.ps, y2.pb, y2.asn, y2.body⟩
                    exact ⟨_, _, run_endRound (some (.exit i')) y1, _, rfl, _, _, ρ3, own3, j1, .bool false, z1, (ft.trans j4).trans z2⟩
                  | _ => exact j2.elim
                | ret =>
                  cases e with
                  | ret =>
                    obtain ⟨z1, z2⟩ := y3 { lr3 with st := .done, pend := some .ret } { l3 with state := .done, pending := some .ret } ⟨trivial, trivial, y2.tm, y2.ps, y2.pb, y2.asn, y2.body⟩
                    exact ⟨_, _, run_endRound (some .ret) y1, _, rfl, _, _, ρ3, own3, j1, .bool false, z1, (ft.trans j4).trans z2⟩
                  | _ => exact j2.elim
              · cases j1
            · cases k1
          · cases k1
        | _ => exact k2.elim
  · cases h

/-- The evaluator is right. -/
theorem callN_ok (hT : TIok P TI) (hE : EqOk P TI) {F : Nat → Option Af} {S : Nat → Option (List V → H → (V → H → Option α) → Option α)} (hF : FOk P TI gl F) (hS : SOk P TI gl S) (hD : DOk P TI gl α) (lf : Nat) :
    ∀ (n : Nat) (t : Tg) (args : List V) (σ : H) (K : V → H → Option α) (r : α), callN F S (fun _ _ _ _ => none) lf n t args σ K = some r → CallOk P TI gl t args σ K r
  | 0, t, args, σ, K, r, h => by cases t <;> cases h
  | n + 1, t, args, σ, K, r, h => by
    have hH : HdOk P TI gl { call := callN F S (fun _ _ _ _ => none) lf n, sum := fun _ _ _ _ => none, fuel := lf } := fun t args σ K r h => callN_ok hT hE hF hS hD lf n t args σ K r h
    have hs : ∀ k tm σ K, (Hd.sum { call := callN F S (fun _ _ _ _ => none) lf n, sum := fun _ _ _ _ => none, fuel := lf } k tm σ K : Option (Option α)) = none := fun _ _ _ _ => rfl
    have hDr := hD _ hH hs
    have hfn : ∀ f a, F f = some a → bodyK { call := callN F S (fun _ _ _ _ => none) lf n, sum := fun _ _ _ _ => none, fuel := lf } a args σ K = some r → CallOk P TI gl (.rf f) args σ K r := by
      intro f a ha hb ρ own w args' hargs hr hg
      obtain ⟨fn, c, h1, h2, h3, h4⟩ := hF f a ha
      exact ⟨fn, h1, h2, by rw [h3]; simp, fun m => body_ok hT hE hH hs hDr h1 h3 h4 hb hargs hr hg m⟩
    cases t with
    | fn f =>
      simp only [callN] at h
      split at h
      · rename_i G hG
        exact hS f G hG args σ K r h
      · split at h
        · rename_i a ha
          intro ρ own w args' hargs hr hg
          exact .inl (hfn f a ha h ρ own w args' hargs hr hg)
        · cases h
    | rf f =>
      simp only [callN] at h
      split at h
      · rename_i a ha
        exact hfn f a ha h
      · cases h
    | yld l =>
      simp only [callN] at h
      exact round_ok hT hE hH hs hDr h
end
end Ak
