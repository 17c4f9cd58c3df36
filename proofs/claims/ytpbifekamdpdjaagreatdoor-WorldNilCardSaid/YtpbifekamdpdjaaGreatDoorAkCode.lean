/- Calls, regions in their written order, and code: what the abstract evaluator does, the machine does. -/
import Derived.Test.YtpbifekamdpdjaaGreatDoorAkOps12
import Derived.RangeFuncCalls
namespace Ak
open Go

def CC (TI : TypeId → Option Ti) (gl : List Nat) : Cor := fun nt a c => ∃ fid, a = cCode TI gl fid nt c
def fenceOf : Option Nat → Fence
  | none => Fence.wide
  | some l => Fence.wide.inRound l
@[simp] theorem fenceOf_round (ro : Option Nat) : (fenceOf ro).round = ro := by cases ro <;> rfl
theorem fenceOf_fn (ro : Option Nat) (f : FuncId) : (fenceOf ro).fn f := by cases ro <;> trivial
theorem fenceOf_depth (ro : Option Nat) : (fenceOf ro).depth = none := by cases ro <;> rfl
theorem callsIn_of {ro : Option Nat} {m : Nat} {P : Program} {f : FuncId} {args : Array Value} {w : World} {R : Ending → World → Prop} (h : CallsIn Fence.wide m P f args w R) : CallsIn (fenceOf ro) m P f args w R := by
  cases ro with
  | none => exact h
  | some l => exact CallsIn.inRound l h
theorem roundIn_of {ro : Option Nat} {m : Nat} {P : Program} {l : Nat} {f : FuncId} {tmps : Array Value} {asn body : Code} {w : World} {R : Ending → World → Prop} (h : RoundIn Fence.wide m P l f tmps asn body w R) : RoundIn (fenceOf ro) m P l f tmps asn body w R := by
  cases ro with
  | none => exact h
  | some l => exact h

def ExE : Ex → Exit → Prop
  | .normal, .normal => True
  | .exit i, .exit j => i = j
  | .ret, .ret => True
  | _, _ => False

/-- Marks among the deferred calls, their blocks not below B. -/
def DR (B : Nat) (own : Own) (w : World) (ds : List Deferred) : Prop :=
  (∀ d ∈ ds, ∃ r, d.target = .collected r ∧ B ≤ r ∧ own r = none ∧ w.heap[r]? = some (.deferred (some []))) ∧ ds.Pairwise (fun a b => ∀ r, a.target = .collected r → b.target ≠ .collected r)
theorem DR.keep {B : Nat} {ρ ρ' : Rho} {own own' : Own} {σ σ' : H} {w w' : World} {ds : List Deferred} (h : DR B own w ds) (f : Fr ρ own σ w ρ' own' σ' w') : DR B own' w' ds :=
  ⟨fun d hd => let ⟨r, h1, h2, h3, h4⟩ := h.1 d hd
    let ⟨a, b⟩ := f.heap r (Array.getElem?_eq_some_iff.1 h4).1 h3
    ⟨r, h1, h2, a, b.trans h4⟩, h.2⟩
def RoOk (ro : Option Nat) (w : World) : Prop := ∀ l, ro = some l → isLp w l
theorem RoOk.keep {ro : Option Nat} {ρ ρ' : Rho} {own own' : Own} {σ σ' : H} {w w' : World} (h : RoOk ro w) (f : Fr ρ own σ w ρ' own' σ' w') : RoOk ro w' := fun l e => f.lps l (h l e)

section
variable {P : Program} {TI : TypeId → Option Ti} {gl : List Nat} {α : Type}

/-- Where the machine stands when the evaluator stands at (tm, σ). -/
structure At (TI : TypeId → Option Ti) (gl : List Nat) (B : Nat) (ro : Option Nat) (nt : Nat) (ρ : Rho) (own : Own) (tm : T V) (σ : H) (act : Act) (w : World) : Prop where
  hr : HR (CC TI gl) ρ own σ w
  gl : GlR gl ρ
  tm : TmR ρ tm act.tmps
  nt : act.tmps.size = nt
  ro : RoOk ro w
  dr : DR B own w act.defers
  b : B ≤ w.heap.size

def Post (TI : TypeId → Option Ti) (gl : List Nat) (B : Nat) (ro : Option Nat) (nt : Nat) (K : Ex → T V → H → Option α) (r : α) (ρ : Rho) (own : Own) (σ : H) (w : World) (e : Exit) (act : Act) (w' : World) : Prop :=
  ∃ ex tm' σ' ρ' own', K ex tm' σ' = some r ∧ ExE ex e ∧ At TI gl B ro nt ρ' own' tm' σ' act w' ∧ Fr ρ own σ w ρ' own' σ' w'

theorem Post.trans {B : Nat} {ro : Option Nat} {nt : Nat} {K : Ex → T V → H → Option α} {r : α} {ρ ρ1 : Rho} {own own1 : Own} {σ σ1 : H} {w w1 : World} (f : Fr ρ own σ w ρ1 own1 σ1 w1) {e : Exit} {act : Act} {w' : World}
    (h : Post TI gl B ro nt K r ρ1 own1 σ1 w1 e act w') : Post TI gl B ro nt K r ρ own σ w e act w' :=
  let ⟨ex, tm', σ', ρ', own', a, b, c, d⟩ := h; ⟨ex, tm', σ', ρ', own', a, b, c, f.trans d⟩

/-- What a target's call comes to. -/
def CallOk (P : Program) (TI : TypeId → Option Ti) (gl : List Nat) (t : Tg) (args : List V) (σ : H) (K : V → H → Option α) (r : α) : Prop :=
  ∀ ρ own w (args' : Array Value), RelL ρ args args'.toList → HR (CC TI gl) ρ own σ w → GlR gl ρ →
    match t with
    | .fn f => (∃ fn, P.funcs[f]? = some fn ∧ fn.name ≠ "runtime.NumGoroutine" ∧ fn.body ≠ none ∧ ∀ m, CallsIn Fence.wide m P f args' w (fun e w' => ∃ v', e = .returned v' ∧ SimV (CC TI gl) K r ρ own σ w v' w')) ∨
        (∃ v' w', (callFunc f args').run P w = .ok (.value v') w' ∧ SimV (CC TI gl) K r ρ own σ w v' w')
    | .rf f => ∃ fn, P.funcs[f]? = some fn ∧ fn.name ≠ "runtime.NumGoroutine" ∧ fn.body ≠ none ∧ ∀ m, CallsIn Fence.wide m P f args' w (fun e w' => ∃ v', e = .returned v' ∧ SimV (CC TI gl) K r ρ own σ w v' w')
    | .yld id => ∀ L, ρ id = some L → ∃ fn tmps asn body, (Instr.yield L.blk args').run P w = .ok (.round L.blk fn tmps asn body) w ∧ ∀ m, RoundIn Fence.wide m P L.blk fn tmps asn body w (fun e w' => ∃ v', e = .returned v' ∧ SimV (CC TI gl) K r ρ own σ w v' w')

def HdOk (P : Program) (TI : TypeId → Option Ti) (gl : List Nat) (hd : Hd α) : Prop := ∀ t args σ K r, hd.call t args σ K = some r → CallOk P TI gl t args σ K r

theorem run_callFunc {f : FuncId} {fn : Func} {args : Array Value} {w : World} (h : P.funcs[f]? = some fn) (h1 : fn.name ≠ "runtime.NumGoroutine") (h2 : fn.body ≠ none) :
    (callFunc f args).run P w = .ok (.enter f args) w := by
  simp [callFunc, h, h1, h2]

theorem relL_app {ρ : Rho} {xs args cap : List V} {xs' args' cap' : Array Value} (h1 : RelL ρ xs xs'.toList) (h2 : RelL ρ args args'.toList) (h3 : RelL ρ cap cap'.toList) : RelL ρ (xs ++ args ++ cap) (xs' ++ args' ++ cap').toList := by
  have := (h1.append h2).append h3
  simpa using this

theorem rel_fn_inv {ρ : Rho} {f : FuncId} {xs cap : List V} {v' : Value} (h : Rel ρ (.fn f xs cap) v') : ∃ xs' cap' : Array Value, v' = .func (.func f) xs' cap' ∧ RelL ρ xs xs'.toList ∧ RelL ρ cap cap'.toList := by
  cases h with
  | fn _ _ _ xs' cap' h1 h2 h3 h4 => exact ⟨⟨xs'⟩, ⟨cap'⟩, rfl, ⟨h1, h2⟩, ⟨h3, h4⟩⟩
theorem rel_yld_inv {ρ : Rho} {id : Nat} {v' : Value} (h : Rel ρ (.yld id) v') : ∃ L, ρ id = some L ∧ v' = .func (.yield L.blk) #[] #[] := by
  cases h with
  | yld _ L h => exact ⟨L, h, rfl⟩

/-- A call's operation. -/
theorem call_sim {hd : Hd α} (hH : HdOk P TI gl hd) {fv : Value} {X : V} {args : List V} {args' : Array Value} {σ : H} {w : World} {ρ : Rho} {own : Own} {K : V → H → Option α} {r : α} (o : Oper) (act : Act) (hf : Rel ρ X fv) (ha : RelL ρ args args'.toList)
    (hr : HR (CC TI gl) ρ own σ w) (hg : GlR gl ρ) (h : calvK hd X args σ K = some r) (ro : Option Nat) (m : Nat) (next : Act → World → Prop) (Q : Exit → Act → World → Prop) (hn : ∀ v' w', SimV (CC TI gl) K r ρ own σ w v' w' → next (act.put o.dst v') w') :
    o.uponIn (fenceOf ro) m P act next Q ((do let d ← Deferred.ofValue fv args'; invoke d.target d.args : Sem Next).run P w) := by
  unfold calvK at h
  split at h
  · rename_i f xs cap
    obtain ⟨xs', cap', rfl, h1, h2⟩ := rel_fn_inv hf
    have hc := hH _ _ _ _ _ h ρ own w (xs' ++ args' ++ cap') (relL_app h1 ha h2) hr hg
    simp only [Deferred.ofValue, Sem.run_bind, Sem.run_pure, Result.andThen_ok, invoke]
    rcases hc with ⟨fn, k1, k2, k3, k4⟩ | ⟨v', w', k1, k2⟩
    · rw [run_callFunc k1 k2 k3, Oper.uponIn_enter]
      refine ⟨by simp [fenceOf_depth], (callsIn_of (k4 _)).mono ?_⟩
      rintro e w' ⟨v', rfl, hs⟩
      exact hn _ _ hs
    · rw [k1, Oper.uponIn_value]
      exact hn _ _ k2
  · rename_i l
    obtain ⟨L, hL, rfl⟩ := rel_yld_inv hf
    have hc := hH _ _ _ _ _ h ρ own w args' ha hr hg L hL
    obtain ⟨fn, tmps, asn, body, k1, k2⟩ := hc
    simp only [Deferred.ofValue, Sem.run_bind, Sem.run_pure, Result.andThen_ok, invoke]
    have : #[] ++ args' = args' := by simp
    rw [this, k1, Oper.uponIn_round]
    refine ⟨by simp [fenceOf_depth], (roundIn_of (k2 _)).mono ?_⟩
    rintro e w' ⟨v', rfl, hs⟩
    exact hn _ _ hs
  · cases h

theorem tm_put {ρ : Rho} {nt : Nat} {tm : T V} {act : Act} (h : TmR ρ tm act.tmps) (hn : act.tmps.size = nt) {dst : Option Nat} (hd : (match dst with | some d => Nat.blt d nt | none => true) = true) {v : V} {v' : Value} (hv : Rel ρ v v') :
    TmR ρ (cv tm dst v) (act.put dst v').tmps ∧ (act.put dst v').tmps.size = nt ∧ (act.put dst v').defers = act.defers := by
  cases dst with
  | none => exact ⟨h, hn, rfl⟩
  | some d =>
    have hlt : d < act.tmps.size := by rw [hn]; exact blt_iff.1 hd
    exact ⟨h.put hlt hv, by simp [Act.put, hn], rfl⟩

theorem getD_bad {o : Op} {hd : Hd α} {e : X → V} {σ : H} {K : V → H → Option α} {r : α} (h : opK hd ((cOp TI gl o).getD .bad) e σ K = some r) : ∃ p, cOp TI gl o = some p ∧ opK hd p e σ K = some r := by
  cases hc : cOp TI gl o with
  | none => rw [hc] at h; cases h
  | some p => rw [hc] at h; exact ⟨p, rfl, h⟩

/-- One operation that is wanted. -/
theorem oper_sim (hT : TIok P TI) (hE : EqOk P TI) {hd : Hd α} (hH : HdOk P TI gl hd) {o : Oper} {tm : T V} {σ : H} {K : V → H → Option α} {r : α} (h : opK hd ((cOp TI gl o.op).getD .bad) (ev tm) σ K = some r)
    {ρ : Rho} {own : Own} {act : Act} {w : World} (hr : HR (CC TI gl) ρ own σ w) (hg : GlR gl ρ) (ht : TmR ρ tm act.tmps) (ro : Option Nat) (m : Nat) (next : Act → World → Prop) (Q : Exit → Act → World → Prop)
    (hn : ∀ v' w', SimV (CC TI gl) K r ρ own σ w v' w' → next (act.put o.dst v') w') : o.wpIn (fenceOf ro) m P act w next Q := by
  obtain ⟨p, hp, h⟩ := getD_bad h
  have hX : XR gl ρ (ev tm) act.eval := fun x X hx => cX_rel hg ht hx
  have hsem : o.semAt ro act.eval = execOp act.eval o := by
    refine Oper.semAt_eq ro _ o fun c hc => ?_
    rw [hc] at hp
    cases hp
  refine ⟨fun f _ => fenceOf_fn ro f, ?_⟩
  rw [fenceOf_round, hsem]
  cases hcall : isCall o.op with
  | false =>
    rcases op_sim hT hE o.op hcall hd p (ev tm) act.eval σ w ρ own K r o rfl hp hr hX h with ⟨v', w', e, s⟩ | ⟨w', e, s⟩
    · rw [e, Oper.uponIn_value]; exact hn _ _ s
    · rw [e, Oper.uponIn_skip]; exact hn _ _ s
  | true =>
    cases hop : o.op with
    | call c =>
      rw [hop] at hcall
      obtain ⟨callee, as, ts⟩ := c
      cases callee with
      | value x =>
        rw [hop] at hp
        have hrun : execOp act.eval o = (do let d ← Deferred.ofValue (act.eval x) (as.map act.eval); invoke d.target d.args : Sem Next) := by
          simp only [execOp, hop, resolve]
        rw [hrun]
        have fin : ∀ X Xs, cX gl x = some X → cXs gl as.toList = some Xs → calvK hd (ev tm X) (Xs.map (ev tm)) σ K = some r → o.uponIn (fenceOf ro) m P act next Q ((do let d ← Deferred.ofValue (act.eval x) (as.map act.eval); invoke d.target d.args : Sem Next).run P w) := by
          intro X Xs h1 h2 h3
          exact call_sim hH o act (hX _ _ h1) (hX.arr h2) hr hg h3 ro m next Q hn
        cases x with
        | func f =>
          simp only [cOp] at hp
          obtain ⟨Xs, hXs, rfl⟩ := omap_some hp
          refine fin (.c (.fn f [] [])) Xs rfl hXs ?_
          simp only [opK] at h
          simpa [calvK, ev] using h
        | tmp t =>
          simp only [cOp] at hp
          split at hp
          · rename_i X Xs h1 h2
            cases hp
            exact fin _ _ h1 h2 h
          · cases hp
        | const v =>
          simp only [cOp] at hp
          split at hp
          · rename_i X Xs h1 h2
            cases hp
            exact fin _ _ h1 h2 h
          · cases hp
        | global g =>
          simp only [cOp] at hp
          split at hp
          · rename_i X Xs h1 h2
            cases hp
            exact fin _ _ h1 h2 h
          · cases hp
      | _ => cases hcall
    | _ => rw [hop] at hcall; cases hcall
end
end Ak
