/- '==' of structs and arrays, whole; the binary operations. -/
import Derived.Test.YtpbifekamdpdjaaGreatDoorAkOps3
namespace Ak
open Go
section
variable {P : Program} {TI : TypeId → Option Ti} {gl : List Nat} {C : Cor} {w : World}

/-- Elements one behind the other. -/
def eqElems (d : Nat) (e : TypeId) (k : Nat) (xs ys : Array Value) : List Nat → Sem Bool
  | [] => pure true
  | i :: is => do
    let a ← part e xs (i * k)
    let b ← part e ys (i * k)
    let r ← Op.equalIn d e a b
    if (!r) = true then pure false else eqElems d e k xs ys is

theorem run_equalIn_array (hT : TIok P TI) {e : TypeId} {ie : Ti} (he : TI e = some ie) (d : Nat) (t : TypeId) (m : Nat) (xs ys : Array Value) (ht : P.underlying t = some (.array m e)) :
    (Op.equalIn (d + 1) t (.agg xs) (.agg ys)).run P w = (eqElems d e ie.size xs ys (List.range m)).run P w := by
  simp only [Op.equalIn, Sem.run_bind, run_underlying ht, Result.andThen_ok, run_size hT he]
  simp only [Std.Legacy.Range.forIn_eq_forIn_range']
  have hl : List.range' (Std.Legacy.Range.mk 0 m 1 (by decide)).start (Std.Legacy.Range.mk 0 m 1 (by decide)).size (Std.Legacy.Range.mk 0 m 1 (by decide)).step = List.range m := by
    simp [Std.Legacy.Range.size, List.range_eq_range']
  simp only [hl]
  generalize List.range m = l
  induction l generalizing w with
  | nil => simp [eqElems]
  | cons i l ih =>
    simp only [List.forIn_cons, eqElems, Sem.run_bind, Sem.run_ite]
    generalize (part e xs (i * ie.size)).run P w = r1
    cases r1 with
    | ok a w1 =>
      simp only [Result.andThen_ok]
      generalize (part e ys (i * ie.size)).run P w1 = r2
      cases r2 with
      | ok b w2 =>
        simp only [Result.andThen_ok]
        generalize (Op.equalIn d e a b).run P w2 = r3
        cases r3 with
        | ok r w3 =>
          cases r
          · simp only [Result.andThen_ok, Bool.not_false, if_true, Sem.run_pure]
          · simp only [Result.andThen_ok, Bool.not_true, Bool.false_eq_true, if_false, Sem.run_pure]
            exact ih
        | halt x w3 => simp [Result.andThen]
      | halt x w2 => simp [Result.andThen]
    | halt x w1 => simp [Result.andThen]

theorem len_repL (ks : List Nat) : ∀ m, (repL ks m).length = m * ks.length
  | 0 => by simp [repL]
  | m + 1 => by simp [repL, len_repL ks m, Nat.add_mul]; omega

theorem eqElems_ok (hT : TIok P TI) {e : TypeId} {ie : Ti} (he : TI e = some ie) (n : Nat) (ks : List Nat) (hs : ie.size = ks.length) (hS : FlatS P TI w n e ks) (h1 : isAg ie.d = false → ie.size = 1)
    {ρ : Rho} {xs ys : List V} {xs' ys' : List Value} (rx : RelL ρ xs xs') (ry : RelL ρ ys ys') (d : Nat) :
    ∀ (c a : Nat), (a + c) * ie.size = xs.length → (a + c) * ie.size = ys.length → ∀ r, eqls (repL ks c) (xs.drop (a * ie.size)) (ys.drop (a * ie.size)) = some r →
      (eqElems (d + n) e ie.size xs'.toArray ys'.toArray (List.range' a c)).run P w = .ok r w := by
  intro c
  induction c with
  | zero =>
    intro a hx hy r h
    have e1 : xs.drop (a * ie.size) = [] := List.drop_eq_nil_of_le (by simp at hx; omega)
    have e2 : ys.drop (a * ie.size) = [] := List.drop_eq_nil_of_le (by simp at hy; omega)
    rw [e1, e2] at h
    cases h
    rfl
  | succ c ih =>
    intro a hx hy r h
    obtain ⟨i, hi, hsz, hpos, hg0, hrun⟩ := hS
    rw [he] at hi
    cases hi
    have hb : a * ie.size + ie.size ≤ (a + (c + 1)) * ie.size := by
      have : (a + 1) * ie.size ≤ (a + (c + 1)) * ie.size := Nat.mul_le_mul_right _ (by omega)
      rw [Nat.add_mul a 1, Nat.one_mul] at this
      exact this
    simp only [repL] at h
    obtain ⟨r1, r2, e1, e2, rfl⟩ := eqls_parts (by simp; omega) (by simp; omega) h
    rw [List.drop_drop, List.drop_drop, ← hs, show a * ie.size + ie.size = (a + 1) * ie.size from by rw [Nat.add_mul, Nat.one_mul]] at e2
    have p1 := part_run (P := P) (w := w) hT he xs' (a * ie.size) (by rw [← rx.1]; omega) h1
    have p2 := part_run (P := P) (w := w) hT he ys' (a * ie.size) (by rw [← ry.1]; omega) h1
    have q := hrun ρ _ _ _ _ r1 (by simp; omega) (by simp; omega) ((rx.drop (a * ie.size)).take ks.length) ((ry.drop (a * ie.size)).take ks.length) e1 d
    rw [← hs] at q
    have q2 := ih (a + 1) (by rw [show a + 1 + c = a + (c + 1) from by omega]; exact hx) (by rw [show a + 1 + c = a + (c + 1) from by omega]; exact hy) r2 e2
    simp only [List.range'_succ, eqElems, Sem.run_bind, p1, p2, Result.andThen_ok, q, Sem.run_ite]
    cases r1
    · simp
    · simp [q2]

theorem flat_ok (hT : TIok P TI) (hE : EqOk P TI) : ∀ (n : Nat) (t : TypeId) (ks : List Nat), flatC TI n t = some ks → FlatS P TI w n t ks ∧ (∀ i, TI t = some i → isAg i.d = false → i.size = 1)
  | 0, t, k, h => by cases h
  | n + 1, t, ks, h => by
    have g1 : ∀ {i : Ti}, TI t = some i → (match i.d with | .int _ | .string | .bool => True | _ => False) → ∀ d, n + 1 ≤ d → P.eqGuardType d t = false := by
      intro i hi hd d hle
      obtain ⟨d, rfl⟩ : ∃ e, d = e + 1 := ⟨d - 1, by omega⟩
      have hu := hT.und t i hi
      cases hdd : i.d <;> rw [hdd] at hd hu <;> first | (exact hd.elim) | simp [Program.eqGuardType, hu]
    simp only [flatC] at h
    split at h
    · rename_i kk b z hi
      cases h
      refine ⟨flat_scalar hi rfl rfl n 0 (g1 hi trivial) fun ρ x y x' y' r hx hy he d => ?_, fun i e _ => by rw [hi] at e; cases e; rfl⟩
      have hu := run_und hT hi w
      rcases eqk_scalar hx hy he with ⟨_, k, a, b, rfl, rfl, rfl⟩ | ⟨h0, _⟩ | ⟨h0, _⟩
      · simp [Op.equalIn, hu]
      · cases h0
      · cases h0
    · rename_i b z hi
      cases h
      refine ⟨flat_scalar hi rfl rfl n 1 (g1 hi trivial) fun ρ x y x' y' r hx hy he d => ?_, fun i e _ => by rw [hi] at e; cases e; rfl⟩
      have hu := run_und hT hi w
      rcases eqk_scalar hx hy he with ⟨h0, _⟩ | ⟨_, a, b, rfl, rfl, rfl⟩ | ⟨h0, _⟩
      · cases h0
      · simp [Op.equalIn, hu]
      · cases h0
    · rename_i b z hi
      cases h
      refine ⟨flat_scalar hi rfl rfl n 2 (g1 hi trivial) fun ρ x y x' y' r hx hy he d => ?_, fun i e _ => by rw [hi] at e; cases e; rfl⟩
      have hu := run_und hT hi w
      rcases eqk_scalar hx hy he with ⟨h0, _⟩ | ⟨h0, _⟩ | ⟨_, a, b, rfl, rfl, rfl⟩
      · cases h0
      · cases h0
      · simp [Op.equalIn, hu]
    · rename_i m e sz b z hi
      split at h
      · rename_i k' hk'
        obtain ⟨hc, h2⟩ := bif_then h
        cases h2
        have hc : sz = m * k'.length := by simpa using hc
        obtain ⟨hS, h1⟩ := flat_ok hT hE n e k' hk'
        obtain ⟨ie, he, hsz, hpos, hg0, hrun⟩ := hS
        refine ⟨⟨_, hi, by rw [len_repL]; exact hc, by omega, fun d hd => ?_, fun ρ xs ys xs' ys' r hx hy rx ry h d => ?_⟩, fun i e _ => ?_⟩
        · obtain ⟨d, rfl⟩ : ∃ e, d = e + 1 := ⟨d - 1, by omega⟩
          have hu := hT.und t _ hi
          simp [Program.eqGuardType, hu, hg0 d (by omega)]
        · have hu := hT.und t _ hi
          rw [len_repL] at hx hy
          have := eqElems_ok hT he n k' hsz ⟨ie, he, hsz, hpos, hg0, hrun⟩ (h1 ie he) rx ry d m 0 (by rw [Nat.zero_add, hsz]; exact hx.symm) (by rw [Nat.zero_add, hsz]; exact hy.symm) r (by
            simp only [Nat.zero_mul, List.drop_zero]
            exact h)
          simp only [vOf, isAg, if_true]
          rw [show d + (n + 1) = (d + n) + 1 from rfl, run_equalIn_array hT he _ _ _ _ _ hu, List.range_eq_range']
          exact this
        · rw [hi] at e; cases e; simp [isAg] at *
      · cases h
    · rename_i fs sz b z hi
      split at h
      · rename_i k' hk'
        obtain ⟨hc, h2⟩ := bif_then h
        cases h2
        have hc : ks.length = sz := by simpa using hc
        subst hc
        obtain ⟨hg, hrun⟩ := eqFields_ok (w := w) hT n (flat_ok hT hE n) fs.toList 0 ks hk'
        have hu := hT.und t _ hi
        have hfo : P.fieldsOf t = fs := by simp [Program.fieldsOf, hu]
        refine ⟨⟨_, hi, rfl, by omega, fun d hd => ?_, fun ρ xs ys xs' ys' r hx hy rx ry h d => ?_⟩, fun i e _ => ?_⟩
        · obtain ⟨d, rfl⟩ : ∃ e, d = e + 1 := ⟨d - 1, by omega⟩
          simp only [Program.eqGuardType, hu]
          rw [Array.any_eq_false']
          intro f hf
          simp [hg d (by omega) f (by simpa using hf)]
        · have := hrun ρ xs ys xs' ys' r (by omega) (by omega) rx ry (by simpa using h) d
          simp only [vOf, isAg, if_true]
          rw [show d + (n + 1) = (d + n) + 1 from rfl, run_equalIn_struct w _ t _ _ (by rw [hfo]; exact hu) (hE.stood t _ fs hi rfl), hfo]
          exact this
        · rw [hi] at e; cases e; simp [isAg] at *
      · cases h
    · cases h

theorem sim_binOp (hT : TIok P TI) (hE : EqOk P TI) (op : BinOp) (t : TypeId) (x y : Operand) (yt : TypeId) : OpSim P TI gl C (.binOp op t x y yt) := by
  intro α hd p e φ σ w ρ own K r o ho hc hr hX h
  simp only [cOp] at hc
  split at hc
  · rename_i X Y hx hy
    have rx := hX _ _ hx
    have ry := hX _ _ hy
    have base : p = .bin op X Y → OkV C K r ρ own σ w ((execOp φ o).run P w) := by
      rintro rfl
      simp only [opK] at h
      have := okV_of_pure (C := C) hr (binK_ok (P := P) (w := w) op t x y rx ry h)
      simpa [execOp, ho] using this
    have eqs : ∀ cls i, TI t = some i → ((cls = 0 ∧ i.d = .bool) ∨ (cls = 1 ∧ ∃ e, i.d = .pointer e) ∨ (cls = 2 ∧ ∃ e, i.d = .slice e) ∨ (cls = 3 ∧ ∃ k e, i.d = .map k e) ∨ (cls = 4 ∧ ∃ x y z, i.d = .func x y z)) →
        cEq cls op X Y = some p → OkV C K r ρ own σ w ((execOp φ o).run P w) := by
      intro cls i hi hcls hp
      unfold cEq at hp
      split at hp
      · cases hp
        simp only [opK] at h
        split at h
        · rename_i b hb
          obtain ⟨q1, q2, q3, q4⟩ := eq1_ok (w := w) hT hi rx ry hb hcls
          refine .val hr h (.bool _) ?_
          simp [execOp, ho, guard_other _ _ _ _ _ _ _ q2 q3, q4 .eql (.inl rfl), q1]
        · cases h
      · cases hp
        simp only [opK] at h
        split at h
        · rename_i b hb
          obtain ⟨q1, q2, q3, q4⟩ := eq1_ok (w := w) hT hi rx ry hb hcls
          refine .val hr h (.bool _) ?_
          simp [execOp, ho, guard_other _ _ _ _ _ _ _ q2 q3, q4 .neq (.inr rfl), q1]
        · cases h
      · cases hp
    have eqa : ∀ i ks, TI t = some i → isAg i.d = true → flatC TI 6 t = some ks → cEqa ks op X Y = some p → OkV C K r ρ own σ w ((execOp φ o).run P w) := by
      intro i ks hi ha hf hp
      obtain ⟨⟨i', hi', hsz, _, hg, hrun⟩, _⟩ := flat_ok (w := w) hT hE 6 t ks hf
      rw [hi] at hi'; cases hi'
      have hgd := hg P.depth (by have := hE.depth; omega)
      have len : ∀ (ks : List Nat) (a b : List V) (t : Bool), eqls ks a b = some t → a.length = ks.length ∧ b.length = ks.length := by
        intro ks
        induction ks with
        | nil => intro a b t h; cases a <;> cases b <;> simp [eqls] at h ⊢
        | cons c ks ih =>
          intro a b t h
          cases a with
          | nil => simp [eqls] at h
          | cons x a => cases b with
            | nil => simp [eqls] at h
            | cons y b =>
              simp only [eqls] at h
              split at h
              · rename_i u v _ hv
                have := ih a b v hv
                simp [this.1, this.2]
              · cases h
      have run1 : ∀ (a b : List V) (t' : Bool) (a' b' : List Value), e X = .agg a → e Y = .agg b → φ x = .agg a'.toArray → φ y = .agg b'.toArray → RelL ρ a a' → RelL ρ b b' → eqls ks a b = some t' →
          (Op.equalIn 10000 t (φ x) (φ y)).run P w = .ok t' w := by
        intro a b t' a' b' _ _ e1 e2 r1 r2 he
        obtain ⟨l1, l2⟩ := len ks a b t' he
        have := hrun ρ a b a' b' t' l1 l2 r1 r2 he 9994
        simp only [vOf, ha, if_true] at this
        rw [e1, e2]; exact this
      have agv : ∀ {v : V} {v' : Value} {a : List V}, v = .agg a → Rel ρ v v' → ∃ a', v' = .agg a'.toArray ∧ RelL ρ a a' := by
        intro v v' a hv hr; subst hv
        cases hr with
        | agg _ cs' h1 h2 => exact ⟨cs', rfl, h1, h2⟩
      unfold cEqa at hp
      split at hp
      · cases hp
        simp only [opK] at h
        split at h
        · rename_i a b ea eb
          split at h
          · rename_i t' ht'
            obtain ⟨a', e1, r1⟩ := agv ea rx
            obtain ⟨b', e2, r2⟩ := agv eb ry
            have q := run1 a b t' a' b' ea eb e1 e2 r1 r2 ht'
            refine .val hr h (.bool _) ?_
            rw [e1, e2] at q
            simp [execOp, ho, e1, e2, run_eqGuard_agg w .eql t x y _ _ hgd, run_eql_struct, q]
          · cases h
        · cases h
      · cases hp
        simp only [opK] at h
        split at h
        · rename_i a b ea eb
          split at h
          · rename_i t' ht'
            obtain ⟨a', e1, r1⟩ := agv ea rx
            obtain ⟨b', e2, r2⟩ := agv eb ry
            have q := run1 a b t' a' b' ea eb e1 e2 r1 r2 ht'
            refine .val hr h (.bool _) ?_
            rw [e1, e2] at q
            simp [execOp, ho, e1, e2, run_eqGuard_agg w .neq t x y _ _ hgd, run_neq_struct, q]
          · cases h
        · cases h
      · cases hp
    unfold cBin at hc
    split at hc
    · cases hc; exact base rfl
    · cases hc; exact base rfl
    · rename_i hi; exact eqs 0 _ hi (.inl ⟨rfl, rfl⟩) hc
    · rename_i hi; exact eqs 1 _ hi (.inr (.inl ⟨rfl, _, rfl⟩)) hc
    · rename_i hi; exact eqs 2 _ hi (.inr (.inr (.inl ⟨rfl, _, rfl⟩))) hc
    · rename_i hi; exact eqs 3 _ hi (.inr (.inr (.inr (.inl ⟨rfl, _, _, rfl⟩)))) hc
    · rename_i hi; exact eqs 4 _ hi (.inr (.inr (.inr (.inr ⟨rfl, _, _, _, rfl⟩)))) hc
    · rename_i hi
      split at hc
      · rename_i ks hf; exact eqa _ ks hi rfl hf hc
      · cases hc
    · rename_i hi
      split at hc
      · rename_i ks hf; exact eqa _ ks hi rfl hf hc
      · cases hc
    · cases hc
  · cases hc
end
end Ak
