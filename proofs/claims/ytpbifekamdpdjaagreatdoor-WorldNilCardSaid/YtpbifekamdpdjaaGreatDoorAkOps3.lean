/- Operations: '==' of structs and arrays; the binary operations as a whole. -/
import Derived.Test.YtpbifekamdpdjaaGreatDoorAkOps2
namespace Ak
open Go

/-- Of the program: what '==' of structs and arrays leans on. -/
structure EqOk (P : Program) (TI : TypeId → Option Ti) : Prop where
  depth : 8 ≤ P.depth
  stood : ∀ t i fs, TI t = some i → i.d = .struct fs → P.stoodInHeld t = false

theorem eqls_split : ∀ (ka kc : List Nat) (a b c d : List V) (r : Bool), a.length = ka.length → b.length = ka.length → eqls (ka ++ kc) (a ++ c) (b ++ d) = some r →
    ∃ r1 r2, eqls ka a b = some r1 ∧ eqls kc c d = some r2 ∧ r = (r1 && r2)
  | [], _, [], [], c, d, r, _, _, h => ⟨true, r, rfl, h, by simp⟩
  | _ :: _, _, [], _, _, _, _, hl, _, _ => by simp at hl
  | _ :: _, _, _ :: _, [], _, _, _, _, hl, _ => by simp at hl
  | [], _, _ :: _, _, _, _, _, hl, _, _ => by simp at hl
  | [], _, [], _ :: _, _, _, _, _, hl, _ => by simp at hl
  | k :: ka, kc, x :: a, y :: b, c, d, r, hl, hl2, h => by
    simp only [List.cons_append, eqls] at h
    split at h
    · rename_i u v hu hv
      cases h
      obtain ⟨r1, r2, h1, h2, rfl⟩ := eqls_split ka kc a b c d v (by simpa using hl) (by simpa using hl2) hv
      exact ⟨u && r1, r2, by simp [eqls, hu, h1], h2, by simp [Bool.and_assoc]⟩
    · cases h
theorem eqls_parts {ka kc : List Nat} {xs ys : List V} {r : Bool} (hx : ka.length ≤ xs.length) (hy : ka.length ≤ ys.length) (h : eqls (ka ++ kc) xs ys = some r) :
    ∃ r1 r2, eqls ka (xs.take ka.length) (ys.take ka.length) = some r1 ∧ eqls kc (xs.drop ka.length) (ys.drop ka.length) = some r2 ∧ r = (r1 && r2) := by
  rw [← List.take_append_drop ka.length xs, ← List.take_append_drop ka.length ys] at h
  exact eqls_split _ _ _ _ _ _ _ (by simp; omega) (by simp; omega) h

section
variable {P : Program} {TI : TypeId → Option Ti} {gl : List Nat} {C : Cor} {w : World}

/-- The value of a type that these cells make. -/
def vOf (d : TypeDesc) (cs : List Value) : Value := if isAg d then .agg cs.toArray else cs.getD 0 undef

/-- What is shown of a flat type. -/
def FlatS (P : Program) (TI : TypeId → Option Ti) (w : World) (n : Nat) (t : TypeId) (ks : List Nat) : Prop :=
  ∃ i, TI t = some i ∧ i.size = ks.length ∧ 0 < n ∧ (∀ d, n ≤ d → P.eqGuardType d t = false) ∧
  ∀ (ρ : Rho) (xs ys : List V) (xs' ys' : List Value) (r : Bool), xs.length = ks.length → ys.length = ks.length → RelL ρ xs xs' → RelL ρ ys ys' → eqls ks xs ys = some r →
    ∀ d, (Op.equalIn (d + n) t (vOf i.d xs') (vOf i.d ys')).run P w = .ok r w

theorem part_run (hT : TIok P TI) {t : TypeId} {i : Ti} (hi : TI t = some i) (cs : List Value) (off : Nat) (h : off + i.size ≤ cs.length) (h1 : isAg i.d = false → i.size = 1) :
    (part t cs.toArray off).run P w = .ok (vOf i.d ((cs.drop off).take i.size)) w := by
  simp only [part, Sem.run_bind, run_isAgg hT hi, Result.andThen_ok]
  by_cases ag : isAg i.d = true
  · simp only [ag, if_true, Sem.run_bind, run_size hT hi, Result.andThen_ok, Sem.run_pure, vOf]
    congr 2
    apply Array.toList_inj.1
    simp
  · have ag' : isAg i.d = false := by simpa using ag
    have hs := h1 ag'
    simp only [ag', vOf, Bool.false_eq_true, if_false]
    have hlt : off < cs.length := by omega
    simp [hlt, hs, List.getD_eq_getElem?_getD]

theorem eqk_scalar {ρ : Rho} {x y : V} {x' y' : Value} {r : Bool} {c : Nat} (hx : Rel ρ x x') (hy : Rel ρ y y') (h : eqk c x y = some r) :
    (c = 0 ∧ ∃ k a b, x' = .int k a ∧ y' = .int k b ∧ r = (a == b)) ∨ (c = 1 ∧ ∃ a b, x' = .string a ∧ y' = .string b ∧ r = (a == b)) ∨ (c = 2 ∧ ∃ a b, x' = .bool a ∧ y' = .bool b ∧ r = (a == b)) := by
  unfold eqk at h
  split at h
  · obtain ⟨h0, h2⟩ := bif_then h
    obtain rfl := kindB_eq h0
    cases h2
    exact .inl ⟨rfl, _, _, _, rel_int_inv hx, rel_int_inv hy, rfl⟩
  · cases h
    obtain ⟨a, rfl, rfl⟩ := rel_str_inv hx
    obtain ⟨b, rfl, rfl⟩ := rel_str_inv hy
    refine .inr (.inl ⟨rfl, a, b, rfl, rfl, ?_⟩)
    rw [← eq_bytes, ← beq_toListBytes]
  · cases h
    exact .inr (.inr ⟨rfl, _, _, rel_bool_inv hx, rel_bool_inv hy, rfl⟩)
  · cases h

/-- A type of one cell: the run of its '==', whatever plain data lies there, where the kinds fit. -/
theorem flat_scalar {t : TypeId} {i : Ti} (hi : TI t = some i) (hs : i.size = 1) (hag : isAg i.d = false) (n c : Nat)
    (hg : ∀ d, n + 1 ≤ d → P.eqGuardType d t = false)
    (hr : ∀ (ρ : Rho) (x y : V) (x' y' : Value) (r : Bool), Rel ρ x x' → Rel ρ y y' → eqk c x y = some r → ∀ d, (Op.equalIn (d + 1) t x' y').run P w = .ok r w) :
    FlatS P TI w (n + 1) t [c] := by
  refine ⟨i, hi, hs, by omega, hg, fun ρ xs ys xs' ys' r hx hy rx ry h d => ?_⟩
  obtain ⟨x, rfl⟩ : ∃ x, xs = [x] := by match xs, hx with | [x], _ => exact ⟨x, rfl⟩
  obtain ⟨y, rfl⟩ : ∃ y, ys = [y] := by match ys, hy with | [y], _ => exact ⟨y, rfl⟩
  obtain ⟨x', l, rfl, hx1, hx2⟩ := rx.cons_inv
  obtain rfl := hx2.nil_inv
  obtain ⟨y', l, rfl, hy1, hy2⟩ := ry.cons_inv
  obtain rfl := hy2.nil_inv
  simp only [eqls] at h
  split at h
  · rename_i a b ha hb
    cases hb
    cases h
    simp only [vOf, hag, Bool.false_eq_true, if_false, List.getD_cons_zero, Bool.and_true]
    exact hr ρ x y x' y' a hx1 hy1 ha (d + n)
  · cases h

/-- Fields one behind the other. -/
theorem eqFields_ok (hT : TIok P TI) (n : Nat) (hn : ∀ t ks, flatC TI n t = some ks → FlatS P TI w n t ks ∧ (∀ i, TI t = some i → isAg i.d = false → i.size = 1)) :
    ∀ (fs : List Field) (at_ : Nat) (ks : List Nat), consF (flatC TI n) at_ fs = some ks → (∀ d, n ≤ d → ∀ f ∈ fs, P.eqGuardType d f.type = false) ∧
      ∀ (ρ : Rho) (xs ys : List V) (xs' ys' : List Value) (r : Bool), at_ + ks.length = xs.length → at_ + ks.length = ys.length → RelL ρ xs xs' → RelL ρ ys ys' →
        eqls ks (xs.drop at_) (ys.drop at_) = some r → ∀ d, (Op.eqFields (d + n) xs'.toArray ys'.toArray fs).run P w = .ok r w
  | [], at_, ks, h => by
    simp only [consF, Option.some.injEq] at h
    subst h
    refine ⟨fun d _ f hf => by simp at hf, fun ρ xs ys xs' ys' r hx hy _ _ h d => ?_⟩
    have e1 : xs.drop at_ = [] := List.drop_eq_nil_of_le (by simp at hx; omega)
    have e2 : ys.drop at_ = [] := List.drop_eq_nil_of_le (by simp at hy; omega)
    rw [e1, e2] at h
    cases h
    rfl
  | f :: fs, at_, ks, h => by
    simp only [consF] at h
    obtain ⟨hc, h⟩ := bif_then h
    simp only [Bool.and_eq_true, Nat.beq_eq, bne_iff_ne, ne_eq] at hc
    obtain ⟨hoff, hname⟩ := hc
    split at h
    · rename_i ka hm
      split at h
      · rename_i kc hrest
        cases h
        obtain ⟨hg, hrec⟩ := eqFields_ok hT n hn fs (at_ + ka.length) kc hrest
        obtain ⟨⟨i, hi, hsz, hpos, hg0, hrun⟩, h1⟩ := hn _ _ hm
        refine ⟨fun d hd g hgm => ?_, fun ρ xs ys xs' ys' r hx hy rx ry he d => ?_⟩
        · rcases List.mem_cons.1 hgm with rfl | hgm
          · exact hg0 d hd
          · exact hg d hd g hgm
        · simp only [List.length_append] at hx hy
          obtain ⟨r1, r2, e1, e2, rfl⟩ := eqls_parts (by simp; omega) (by simp; omega) he
          rw [List.drop_drop, List.drop_drop] at e2
          have p1 := part_run (P := P) (w := w) hT hi xs' at_ (by rw [hsz, ← rx.1]; omega) (h1 i hi)
          have p2 := part_run (P := P) (w := w) hT hi ys' at_ (by rw [hsz, ← ry.1]; omega) (h1 i hi)
          have q := hrun ρ _ _ _ _ r1 (by simp; omega) (by simp; omega) ((rx.drop at_).take ka.length) ((ry.drop at_).take ka.length) e1 d
          rw [hsz] at p1 p2
          have q2 := hrec ρ xs ys xs' ys' r2 (by omega) (by omega) rx ry e2 d
          simp only [Op.eqFields, hname, ne_eq, not_false_eq_true, if_true, Sem.run_bind, hoff, p1, p2, Result.andThen_ok, q, Sem.run_ite]
          cases r1
          · simp
          · simp [q2]
      · cases h
    · cases h
end
end Ak
