/- Each operation that makes no call: what the abstract evaluator does, the machine does. -/
import Derived.Test.YtpbifekamdpdjaaGreatDoorAkMem
namespace Ak
open Go

/-- The table of types tells the truth. -/
structure TIok (P : Program) (TI : TypeId → Option Ti) : Prop where
  und : ∀ t i, TI t = some i → P.underlying t = some i.d
  info : ∀ t i, TI t = some i → ∃ j, P.info? t = some j ∧ j.size = i.size ∧ j.bytes = i.bytes ∧
    ∀ z, i.zero = some z → ∃ v, j.zero = some v ∧ ofSs v.cells.toList = some z ∧ (isAg i.d = true → ∃ cs, v = .agg cs) ∧ (isAg i.d = false → v.oneCell' = true)

theorem ofS_rel {v : Value} {a : V} (ρ : Rho) (h : ofS v = some a) : Rel ρ a v := by
  unfold ofS at h
  split at h <;> first | (cases h; done) | skip
  all_goals cases h
  · exact .bool _
  · exact .int _ _
  · exact .str _ _ rfl
  · exact .nil
  · exact .nils
  · exact .nilm
  · exact .nilf
  · exact .nili
theorem ofSs_rel (ρ : Rho) : ∀ {vs : List Value} {as : List V}, ofSs vs = some as → RelL ρ as vs
  | [], as, h => by cases h; exact .nil ρ
  | v :: vs, as, h => by
    simp only [ofSs] at h
    split at h
    · rename_i a bs h1 h2; cases h; exact .cons (ofS_rel ρ h1) (ofSs_rel ρ h2)
    · cases h
theorem ofV_rel {v : Value} {a : V} (ρ : Rho) (h : ofV v = some a) : Rel ρ a v := by
  unfold ofV at h
  split at h
  · rename_i cs
    cases e : ofSs cs.toList with
    | none => simp [e] at h
    | some as => simp [e] at h; subst h; exact rel_agg (ofSs_rel ρ e)
  · split at h
    · cases h; exact .undef _
    · cases h
  · exact ofS_rel ρ h

/-- Globals that may be read. -/
def GlR (gl : List Nat) (ρ : Rho) : Prop := ∀ g, isIn gl g = true → ∃ top, ρ g = some ⟨g, 0, 0, top⟩
theorem GlR.mono {gl : List Nat} {ρ ρ' : Rho} (hx : Ext ρ ρ') (h : GlR gl ρ) : GlR gl ρ' := fun g e => let ⟨t, r⟩ := h g e; ⟨t, hx _ _ r⟩

theorem cX_rel {gl : List Nat} {ρ : Rho} {tm : T V} {a : Act} (hg : GlR gl ρ) (ht : TmR ρ tm a.tmps) {x : Operand} {X : X} (h : cX gl x = some X) : Rel ρ (ev tm X) (a.eval x) := by
  cases x with
  | tmp t => cases h; exact ht.ev t
  | const v =>
    simp only [cX] at h
    cases e : ofV v with
    | none => simp [e] at h
    | some u => simp [e] at h; subst h; exact ofV_rel ρ e
  | global g =>
    simp only [cX] at h
    obtain ⟨hc, h⟩ := bif_then h
    cases h
    obtain ⟨top, e⟩ := hg g hc
    have := Rel.ptr (ρ := ρ) g 0 _ e (Nat.le_refl _)
    simpa [Loc.at, Act.eval, ev] using this
  | func f =>
    cases h
    exact .fn f [] [] [] [] rfl (fun i v v' e => by simp at e) rfl (fun i v v' e => by simp at e)

/-- An operand's value and the operand. -/
def XR (gl : List Nat) (ρ : Rho) (e : X → V) (φ : Operand → Value) : Prop := ∀ x X, cX gl x = some X → Rel ρ (e X) (φ x)
theorem XR.list {gl : List Nat} {ρ : Rho} {e : X → V} {φ : Operand → Value} (h : XR gl ρ e φ) : ∀ {xs : List Operand} {Xs : List X}, cXs gl xs = some Xs → RelL ρ (Xs.map e) (xs.map φ)
  | [], Xs, hx => by cases hx; exact .nil ρ
  | x :: xs, Xs, hx => by
    simp only [cXs] at hx
    split at hx
    · rename_i a as h1 h2; cases hx; exact .cons (h _ _ h1) (h.list h2)
    · cases hx

def SimV {α : Type} (C : Cor) (K : V → H → Option α) (r : α) (ρ : Rho) (own : Own) (σ : H) (w : World) (v' : Value) (w' : World) : Prop :=
  ∃ v σ' ρ' own', K v σ' = some r ∧ Rel ρ' v v' ∧ HR C ρ' own' σ' w' ∧ Fr ρ own σ w ρ' own' σ' w'

/-- What an operation without a call comes to. -/
def OkV {α : Type} (C : Cor) (K : V → H → Option α) (r : α) (ρ : Rho) (own : Own) (σ : H) (w : World) (res : Result Next) : Prop :=
  (∃ v' w', res = .ok (.value v') w' ∧ SimV C K r ρ own σ w v' w') ∨ (∃ w', res = .ok .skip w' ∧ SimV C K r ρ own σ w undef w')

section
variable {α : Type} {C : Cor} {ρ : Rho} {own : Own} {σ : H} {w : World} {K : V → H → Option α} {r : α}

theorem SimV.same {v : V} {v' : Value} (hr : HR C ρ own σ w) (hK : K v σ = some r) (hv : Rel ρ v v') : SimV C K r ρ own σ w v' w :=
  ⟨v, σ, ρ, own, hK, hv, hr, .refl _ _ _ _⟩
theorem OkV.val {v : V} {v' : Value} {res : Result Next} (hr : HR C ρ own σ w) (hK : K v σ = some r) (hv : Rel ρ v v') (he : res = .ok (.value v') w) : OkV C K r ρ own σ w res :=
  .inl ⟨v', w, he, .same hr hK hv⟩

variable {P : Program} {TI : TypeId → Option Ti}

theorem run_size (hT : TIok P TI) {t : TypeId} {i : Ti} (h : TI t = some i) (w : World) : (Go.sizeOf t).run P w = .ok i.size w := by
  obtain ⟨j, h1, h2, _⟩ := hT.info t i h
  simp [Go.sizeOf, typeInfo, h1, h2]
theorem run_und (hT : TIok P TI) {t : TypeId} {i : Ti} (h : TI t = some i) (w : World) : (underlying t).run P w = .ok i.d w :=
  run_underlying (hT.und t i h) w
theorem run_isAgg (hT : TIok P TI) {t : TypeId} {i : Ti} (h : TI t = some i) (w : World) : (isAgg t).run P w = .ok (isAg i.d) w := by
  simp only [isAgg, Sem.run_bind, run_und hT h, Result.andThen_ok]
  cases i.d <;> rfl
theorem run_zero (hT : TIok P TI) {t : TypeId} {i : Ti} {z : List V} (h : TI t = some i) (hz : i.zero = some z) :
    ∃ v : Value, (∀ w, (zeroValue t).run P w = .ok v w) ∧ (∀ ρ, RelL ρ z v.cells.toList) ∧ (isAg i.d = true → ∃ cs, v = .agg cs) ∧ (isAg i.d = false → v.oneCell' = true) := by
  obtain ⟨j, h1, _, _, h4⟩ := hT.info t i h
  obtain ⟨v, e, e2, e3, e4⟩ := h4 z hz
  exact ⟨v, fun w => by simp [zeroValue, typeInfo, h1, e], fun ρ => ofSs_rel ρ e2, e3, e4⟩
theorem run_info (hT : TIok P TI) {t : TypeId} {i : Ti} (h : TI t = some i) : ∃ j, (∀ w, (typeInfo t).run P w = .ok j w) ∧ j.size = i.size ∧ j.bytes = i.bytes := by
  obtain ⟨j, h1, h2, h3, _⟩ := hT.info t i h
  exact ⟨j, fun w => by simp [typeInfo, h1], h2, h3⟩

/-! New blocks of cells. -/
theorem get_tofF : ∀ (l : List V) (i : Nat) (t : T V) (k : Nat), (tofF l i t).get k = if i ≤ k ∧ k < i + l.length then l[k - i]? else t.get k
  | [], i, t, k => by
    have : ¬ (i ≤ k ∧ k < i + 0) := by omega
    simp only [tofF, List.length_nil, this, if_false]
  | v :: l, i, t, k => by
    simp only [tofF, get_tofF l, T.get_set, List.length_cons]
    by_cases h : i + 1 ≤ k ∧ k < i + 1 + l.length
    · have h2 : i ≤ k ∧ k < i + (l.length + 1) := by omega
      simp only [h, h2, and_self, if_true]
      rw [show k - i = (k - (i + 1)) + 1 from by omega, List.getElem?_cons_succ]
    · simp only [h, if_false]
      by_cases e : k = i
      · subst e; simp
      · have h2 : ¬ (i ≤ k ∧ k < i + (l.length + 1)) := by omega
        simp [e, h2]
theorem get_tof (l : List V) (k : Nat) : (tof l).get k = l[k]? := by
  unfold tof
  rw [get_tofF]
  by_cases h : k < l.length
  · simp [h]
  · simp [h, T.get_lf]
theorem cget_tof {l : List V} {k : Nat} {v : V} (z : List V) (h : l[k]? = some v) : cget (tof l) z k = v := by
  unfold cget; rw [get_tof, h]

theorem push_cells_fr (hr : HR C ρ own σ w) (c : T V) (z : List V) (n top : Nat) (arr : Array Value) (el : TypeId) (fr : Nat × Nat) (hf : ∀ j, j < top → ¬ (fr.1 ≤ j ∧ j < fr.2))
    (hn : n ≤ top) (ht : top ≤ arr.size) (hc : ∀ i, i < n → ∃ v', arr[i]? = some v' ∧ Rel ρ (cget c z i) v') :
    HR C (ρ.add σ.next ⟨w.heap.size, 0, 0, top⟩) (own.add w.heap.size σ.next) (σ.push (.cells c z 0 n false)) (w.alloc (.cells arr el fr)) ∧
    Fr ρ own σ w (ρ.add σ.next ⟨w.heap.size, 0, 0, top⟩) (own.add w.heap.size σ.next) (σ.push (.cells c z 0 n false)) (w.alloc (.cells arr el fr)) := by
  have hblk : (w.alloc (.cells arr el fr)).heap[w.heap.size]? = some (.cells arr el fr) := World.alloc_heap_new w _
  refine hr.push _ _ ⟨w.heap.size, 0, 0, top⟩ rfl ⟨by simp [Own.add], Nat.le_refl _, by simpa using hn, arr, el, fr, hblk, by simpa using ht, fun _ j hj => ?_, fun off _ h2 => ?_⟩
  · simp only [World.frozen?, hblk]
    have := hf j hj
    simp only [Nat.zero_add]
    rw [Bool.and_eq_false_iff]
    simp only [decide_eq_false_iff_not]
    omega
  · obtain ⟨v', e, rv⟩ := hc off h2
    exact ⟨v', by simpa using e, rv.mono (Rho.ext_add hr.fresh)⟩
theorem push_cells (hr : HR C ρ own σ w) (c : T V) (z : List V) (n top : Nat) (arr : Array Value) (el : TypeId)
    (hn : n ≤ top) (ht : top ≤ arr.size) (hc : ∀ i, i < n → ∃ v', arr[i]? = some v' ∧ Rel ρ (cget c z i) v') :
    HR C (ρ.add σ.next ⟨w.heap.size, 0, 0, top⟩) (own.add w.heap.size σ.next) (σ.push (.cells c z 0 n false)) (w.alloc (.cells arr el)) ∧
    Fr ρ own σ w (ρ.add σ.next ⟨w.heap.size, 0, 0, top⟩) (own.add w.heap.size σ.next) (σ.push (.cells c z 0 n false)) (w.alloc (.cells arr el)) :=
  push_cells_fr hr c z n top arr el (0, 0) (fun j _ => by simp) hn ht hc

theorem push_tof (hr : HR C ρ own σ w) {vs : List V} {vs' : List Value} (hv : RelL ρ vs vs') (el : TypeId) :
    HR C (ρ.add σ.next ⟨w.heap.size, 0, 0, vs.length⟩) (own.add w.heap.size σ.next) (σ.push (.cells (tof vs) [] 0 vs.length false)) (w.alloc (.cells vs'.toArray el)) ∧
    Fr ρ own σ w (ρ.add σ.next ⟨w.heap.size, 0, 0, vs.length⟩) (own.add w.heap.size σ.next) (σ.push (.cells (tof vs) [] 0 vs.length false)) (w.alloc (.cells vs'.toArray el)) :=
  push_cells hr _ _ _ _ _ el (Nat.le_refl _) (by simp [hv.1]) fun i hi => by
    obtain ⟨v', e, rv⟩ := hv.get (i := i) (v := vs[i]) (by simp [hi])
    exact ⟨v', by simpa using e, by rw [cget_tof (v := vs[i]) [] (by simp [hi])]; exact rv⟩

theorem newVar_run (t : TypeId) (v : Value) (w : World) : (newVar t v).run P w = .ok ⟨w.heap.size, 0, none⟩ (w.alloc (.cells v.cells t)) := by
  simp [newVar, newRow]
theorem newRow_run (t : TypeId) (cs : Array Value) (w : World) : (newRow t cs).run P w = .ok ⟨w.heap.size, 0, none⟩ (w.alloc (.cells cs t)) := by
  simp [newRow]

/-- A box. -/
theorem box_sim (hr : HR C ρ own σ w) {vs : List V} {v : Value} (hv : RelL ρ vs v.cells.toList) (t : TypeId) (hK : K (.ptr σ.next 0) (σ.push (.cells (tof vs) [] 0 vs.length false)) = some r) :
    OkV C K r ρ own σ w ((do pure (Next.value (.pointer (some (← newVar t v)))) : Sem Next).run P w) := by
  obtain ⟨h1, h2⟩ := push_tof hr hv t
  simp only [Array.toArray_toList] at h1 h2
  refine .inl ⟨.pointer (some ⟨w.heap.size, 0, none⟩), w.alloc (.cells v.cells t), by simp [newVar_run], _, _, _, _, hK, ?_, h1, h2⟩
  have := Rel.ptr (ρ := ρ.add σ.next ⟨w.heap.size, 0, 0, vs.length⟩) σ.next 0 ⟨w.heap.size, 0, 0, vs.length⟩ (by simp [Rho.add]) (Nat.le_refl _)
  simpa [Loc.at] using this

theorem loadVar_sim {α : Type} {r : α} (hT : TIok P TI) (hr : HR C ρ own σ w) {t : TypeId} {i : Ti} (h : TI t = some i) {id off : Nat} {a : Addr} (ha : Rel ρ (.ptr id off) (.pointer (some a))) {K : V → Option α}
    (hK : (if isAg i.d then ldnK σ id off i.size fun cs => K (.agg cs) else ldK σ id off K) = some r) : ∃ v v', K v = some r ∧ (loadVar t a).run P w = .ok v' w ∧ Rel ρ v v' := by
  cases ha with
  | ptr _ _ L hL hl =>
    by_cases ag : isAg i.d = true
    · simp only [ag, if_true] at hK
      obtain ⟨h0, vs, vs', h1, h2, h3, h4⟩ := ldnK_ok hr hL _ _ hK
      refine ⟨_, _, h1, ?_, rel_agg h2⟩
      simp only [loadVar, Sem.run_bind, run_isAgg hT h, Result.andThen_ok, ag, if_true, run_size hT h]
      have := run_loadCells_list (P := P) w (L.at off) vs' (fun j v e => by rw [Loc.at_add hl]; exact h4 j v e)
      rw [h3] at this
      simp [this]
    · simp only [ag] at hK
      obtain ⟨v, v', h1, h2, h3, _⟩ := ldK_ok hK hr hL
      refine ⟨v, v', h1, ?_, h3⟩
      simp [loadVar, run_isAgg hT h, ag, h2]
end
end Ak
