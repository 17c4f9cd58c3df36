/- Operations: maps. -/
import Derived.Test.YtpbifekamdpdjaaGreatDoorAkOps7
import Derived.MapKept
namespace Ak
open Go
section
variable {P : Program} {TI : TypeId → Option Ti} {gl : List Nat} {C : Cor}

/-- A kind of keys. -/
def KK (kk : Nat) (d : TypeDesc) : Prop := (kk = 0 ∧ ∃ k, d = .int k) ∨ (kk = 1 ∧ d = .string)
theorem keyOk_ok (hT : TIok P TI) {t : TypeId} {kk : Nat} (h : keyOk TI t = some kk) : ∃ d, P.underlying t = some d ∧ KK kk d := by
  unfold keyOk at h
  split at h
  · rename_i k a b c hi; cases h; exact ⟨_, hT.und _ _ hi, .inl ⟨rfl, _, rfl⟩⟩
  · rename_i a b c hi; cases h; exact ⟨_, hT.und _ _ hi, .inr ⟨rfl, rfl⟩⟩
  · cases h
theorem checkKey_ok {kk : Nat} {d : TypeDesc} {t : TypeId} (hd : P.underlying t = some d) (hk : KK kk d) (v : Value) (b : Bool) (n : Nat) (w : World) : (Instr.checkKey b (n + 1) t v).run P w = .ok () w := by
  unfold Instr.checkKey
  simp only [Sem.run_bind, run_underlying hd, Result.andThen_ok]
  rcases hk with ⟨_, k, rfl⟩ | ⟨_, rfl⟩ <;> simp

theorem eqk_ok {ρ : Rho} {kk : Nat} {d : TypeDesc} (hk : KK kk d) {a b : V} {a' b' : Value} (ha : Rel ρ a a') (hb : Rel ρ b b') {t : Bool} (h : eqk kk a b = some t) :
    Instr.sameNow d a' b' = some t ∧ (t = true → ∀ n, Instr.sameBits n b' a' = true) ∧ (t = true ↔ a' = b') := by
  rcases hk with ⟨rfl, k, rfl⟩ | ⟨rfl, rfl⟩
  · unfold eqk at h
    split at h <;> first | (cases h; done) | skip
    · rename_i k1 n1 k2 n2 _
      obtain ⟨hk2, hk3⟩ := bif_then h
      have hkk : k1 = k2 := by simpa [kindB] using hk2
      subst hkk
      have h : decide (n1 = n2) = t := Option.some.inj hk3
      subst h
      rw [rel_int_inv ha, rel_int_inv hb]
      refine ⟨by simp [Instr.sameNow]; rfl, fun e n => ?_, by simp⟩
      have : n1 = n2 := by simpa using e
      subst this
      simp [Instr.sameBits]
    · contradiction
    · contradiction
  · unfold eqk at h
    split at h <;> first | (cases h; done) | skip
    · contradiction
    · rename_i s1 s2 _
      cases h
      obtain ⟨x, rfl, hx⟩ := rel_str_inv ha
      obtain ⟨y, rfl, hy⟩ := rel_str_inv hb
      have key : (x == y) = strEq s1 s2 := by
        rw [strEq_iff, ← hx, ← hy, Bool.eq_iff_iff, decide_eq_true_eq]
        constructor
        · intro e; rw [(MapKept.bytes_beq _ _).1 e]
        · intro e; exact (MapKept.bytes_beq _ _).2 (bytes_inj e)
      refine ⟨by simp [Instr.sameNow, key], fun e n => ?_, by rw [← key, MapKept.bytes_beq]; simp⟩
      have h1 : x = y := (MapKept.bytes_beq _ _).1 (key.trans e)
      subst h1
      have : (x == x) = true := (MapKept.bytes_beq _ _).2 rfl
      simp [Instr.sameBits, this]
    · contradiction

theorem EsR.cons_inv {ρ : Rho} {a b : V} {es : List (V × V)} {es' : List MapEntry} (h : EsR ρ ((a, b) :: es) es') : ∃ e0 rest, es' = e0 :: rest ∧ Rel ρ a e0.key ∧ Rel ρ b e0.val ∧ EsR ρ es rest := by
  obtain ⟨h1, h2⟩ := h
  cases es' with
  | nil => have := h1.1; simp at this
  | cons e0 rest => exact ⟨e0, rest, rfl, h1.head, h2.head, h1.tail, h2.tail⟩
theorem EsR.nil_inv {ρ : Rho} {es' : List MapEntry} (h : EsR ρ [] es') : es' = [] := by
  have := h.1.1; simp at this; exact List.length_eq_zero_iff.1 this.symm
theorem EsR.cons {ρ : Rho} {a b : V} {e0 : MapEntry} {es : List (V × V)} {es' : List MapEntry} (ha : Rel ρ a e0.key) (hb : Rel ρ b e0.val) (h : EsR ρ es es') : EsR ρ ((a, b) :: es) (e0 :: es') :=
  ⟨.cons ha h.1, .cons hb h.2⟩

section
variable {α : Type} {ρ : Rho} {kk : Nat} {d : TypeDesc}
theorem findK_ok (hk : KK kk d) {k : V} {k' : Value} (hkr : Rel ρ k k') : ∀ (es : List (V × V)) (es' : List MapEntry) (i : Nat) {K : Option V → Option α} {r : α}, findK kk k es K = some r → EsR ρ es es' →
    (Instr.findNow d k' es' i = some none ∧ K none = some r) ∨ ∃ j v v', Instr.findNow d k' es' i = some (some (j, v')) ∧ K (some v) = some r ∧ Rel ρ v v'
  | [], es', i, K, r, h, hr => by obtain rfl := hr.nil_inv; exact .inl ⟨rfl, h⟩
  | (a, b) :: es, es', i, K, r, h, hr => by
    obtain ⟨e0, rest, rfl, ra, rb, hr2⟩ := hr.cons_inv
    simp only [findK] at h
    split at h
    · rename_i t ht
      obtain ⟨hs, _, _⟩ := eqk_ok hk hkr ra ht
      cases t with
      | true => exact .inr ⟨i, b, e0.val, by simp [Instr.findNow, hs], h, rb⟩
      | false =>
        rcases findK_ok hk hkr es rest (i + 1) h hr2 with ⟨h1, h2⟩ | ⟨j, v, v', h1, h2, h3⟩
        · exact .inl ⟨by simp [Instr.findNow, hs, h1], h2⟩
        · exact .inr ⟨j, v, v', by simp [Instr.findNow, hs, h1], h2, h3⟩
    · cases h

theorem setKey_ok (hk : KK kk d) {k v : V} {k' v' : Value} (hkr : Rel ρ k k') (hvr : Rel ρ v v') : ∀ (es : List (V × V)) (es' : List MapEntry) (i : Nat) {K : List (V × V) → Option α} {r : α}, setKey kk k v es K = some r → EsR ρ es es' →
    ∃ es2, K es2 = some r ∧ ((Instr.findNow d k' es' i = some none ∧ (∀ c, EsR ρ es2 (es' ++ [{ key := k', val := v', born := c }])) ∧ ∀ e ∈ es', e.key ≠ k') ∨
      ∃ j e0, Instr.findNow d k' es' i = some (some (i + j, e0.val)) ∧ es'[j]? = some e0 ∧ (∀ n, Instr.sameBits n e0.key k' = true) ∧ e0.key = k' ∧ EsR ρ es2 (es'.modify j fun e => { e with key := k', val := v' }))
  | [], es', i, K, r, h, hr => by
    obtain rfl := hr.nil_inv
    exact ⟨_, h, .inl ⟨rfl, fun c => .cons hkr hvr ⟨.nil ρ, .nil ρ⟩, fun e he => by cases he⟩⟩
  | (a, b) :: es, es', i, K, r, h, hr => by
    obtain ⟨e0, rest, rfl, ra, rb, hr2⟩ := hr.cons_inv
    simp only [setKey] at h
    split at h
    · rename_i t ht
      obtain ⟨hs, hs2, hs3⟩ := eqk_ok hk hkr ra ht
      cases t with
      | true => exact ⟨_, h, .inr ⟨0, e0, by simp [Instr.findNow, hs], rfl, hs2 rfl, (hs3.1 rfl).symm, .cons hkr hvr hr2⟩⟩
      | false =>
        obtain ⟨es2, h1, h2⟩ := setKey_ok hk hkr hvr es rest (i + 1) h hr2
        refine ⟨_, h1, ?_⟩
        rcases h2 with ⟨h3, h4, h5⟩ | ⟨j, e1, h3, h4, h5, h6, h7⟩
        · refine .inl ⟨by simp [Instr.findNow, hs, h3], fun c => .cons ra rb (h4 c), fun e he => ?_⟩
          cases he with
          | head => intro e2; exact absurd (hs3.2 e2.symm) (by simp)
          | tail _ he => exact h5 e he
        · exact .inr ⟨j + 1, e1, by simp [Instr.findNow, hs, h3]; omega, by simpa using h4, h5, h6, .cons ra rb h7⟩
    · cases h

theorem delKey_ok (hk : KK kk d) {k : V} {k' : Value} (hkr : Rel ρ k k') : ∀ (es : List (V × V)) (es' : List MapEntry) (i : Nat) {K : List (V × V) → Option α} {r : α}, delKey kk k es K = some r → EsR ρ es es' →
    ∃ es2, K es2 = some r ∧ ((Instr.findNow d k' es' i = some none ∧ EsR ρ es2 es') ∨
      ∃ j v', Instr.findNow d k' es' i = some (some (i + j, v')) ∧ EsR ρ es2 (es'.eraseIdx j))
  | [], es', i, K, r, h, hr => by
    obtain rfl := hr.nil_inv
    exact ⟨_, h, .inl ⟨rfl, .nil ρ, .nil ρ⟩⟩
  | (a, b) :: es, es', i, K, r, h, hr => by
    obtain ⟨e0, rest, rfl, ra, rb, hr2⟩ := hr.cons_inv
    simp only [delKey] at h
    split at h
    · rename_i t ht
      obtain ⟨hs, hs2, _⟩ := eqk_ok hk hkr ra ht
      cases t with
      | true => exact ⟨_, h, .inr ⟨0, e0.val, by simp [Instr.findNow, hs], hr2⟩⟩
      | false =>
        obtain ⟨es2, h1, h2⟩ := delKey_ok hk hkr es rest (i + 1) h hr2
        refine ⟨_, h1, ?_⟩
        rcases h2 with ⟨h3, h4⟩ | ⟨j, e1, h3, h4⟩
        · exact .inl ⟨by simp [Instr.findNow, hs, h3], .cons ra rb h4⟩
        · exact .inr ⟨j + 1, e1, by simp [Instr.findNow, hs, h3]; omega, .cons ra rb h4⟩
    · cases h
end

theorem rel_map_inv {ρ : Rho} {id : Nat} {v' : Value} (h : Rel ρ (.map id) v') : ∃ L, ρ id = some L ∧ v' = .map (some L.blk) := by
  cases h with
  | map _ L h => exact ⟨L, h, rfl⟩
theorem rel_nilm_inv {ρ : Rho} {v' : Value} (h : Rel ρ .nilm v') : v' = .map none := by cases h; rfl

theorem zvOf_ok (hT : TIok P TI) {t : TypeId} {z : V} (h : zvOf TI t = some z) : ∃ v : Value, (∀ w, (zeroValue t).run P w = .ok v w) ∧ ∀ ρ, Rel ρ z v := by
  have agg : ∀ i cs, TI t = some i → i.zero = some cs → isAg i.d = true → ∃ v : Value, (∀ w, (zeroValue t).run P w = .ok v w) ∧ ∀ ρ, Rel ρ (.agg cs) v := by
    intro i cs hi hz hag
    obtain ⟨v, h1, h2, h3, _⟩ := run_zero hT hi hz
    obtain ⟨c, rfl⟩ := h3 hag
    exact ⟨_, h1, fun ρ => rel_agg (h2 ρ)⟩
  unfold zvOf at h
  split at h
  · rename_i fs s b cs hi; cases h; exact agg _ _ hi rfl rfl
  · rename_i n e s b cs hi; cases h; exact agg _ _ hi rfl rfl
  · rename_i d s b v h1 h2 hi
    cases h
    have hag : isAg d = false := by
      cases d with
      | struct fs => simp at h1
      | array n e => simp at h2
      | _ => rfl
    obtain ⟨v', k1, k2, _, k4⟩ := run_zero hT hi rfl
    refine ⟨v', k1, fun ρ => ?_⟩
    have hone := k4 hag
    have hr := k2 ρ
    have hc : v'.cells = #[v'] := by cases v' <;> first | rfl | simp [Value.oneCell'] at hone
    rw [hc] at hr
    exact hr.head
  · cases h

theorem sim_lookup (hT : TIok P TI) (t : TypeId) (m k : Operand) (ok : Bool) : OpSim P TI gl C (.lookup t m k ok) := by
  intro α hd p e φ σ w ρ own K r o ho hc hr hX h
  simp only [cOp] at hc
  split at hc
  · rename_i kt el s0 b0 z0 M KX hi hm hk
    split at hc
    · rename_i kk z hkk hz
      cases hc
      obtain ⟨d, hd1, hd2⟩ := keyOk_ok hT hkk
      obtain ⟨zv, hz1, hz2⟩ := zvOf_ok hT hz
      simp only [opK] at h
      have rm := hX _ _ hm
      have rk := hX _ _ hk
      have hu := run_und hT hi w
      have fin : ∀ (v : V) (v' : Value) (b : Bool), Rel ρ v v' → Rel ρ (bif ok then .tup [v, .bool b] else v) (if ok then .tuple #[v', .bool b] else v') := by
        intro v v' b rv
        cases ok with
        | false => exact rv
        | true => exact rel_tup (cs' := [v', .bool b]) (.cons rv (.cons (.bool b) (.nil ρ)))
      split at h
      · rename_i he
        rw [he] at rm
        have hp := rel_nilm_inv rm
        refine .val hr h (fin _ _ _ (hz2 ρ)) ?_
        simp [execOp, ho, hp, Instr.lookup, hu, checkKey_ok hd1 hd2, MapKept.run_findKey hd1 (show Instr.findNow d (φ k) [] 0 = some none from rfl), hz1]
      · rename_i id he
        rw [he] at rm
        obtain ⟨L, hL, hp⟩ := rel_map_inv rm
        split at h
        · rename_i es hes
          obtain ⟨_, es', clock, hb, hE, hS⟩ := hr.obj _ _ _ hL hes
          rcases findK_ok hd2 rk es es'.toList 0 h hE with ⟨h1, h2⟩ | ⟨j, v, v', h1, h2, h3⟩
          · refine .val hr h2 (fin _ _ _ (hz2 ρ)) ?_
            simp [execOp, ho, hp, Instr.lookup, hu, checkKey_ok hd1 hd2, MapKept.run_getObj_map hb, MapKept.run_findKey hd1 h1, hz1]
          · refine .val hr h2 (fin _ _ _ h3) ?_
            simp [execOp, ho, hp, Instr.lookup, hu, checkKey_ok hd1 hd2, MapKept.run_getObj_map hb, MapKept.run_findKey hd1 h1]
        · cases h
      · cases h
    · cases hc
  · cases hc

theorem map_mut {ρ : Rho} {own : Own} {σ : H} {w : World} (hr : HR C ρ own σ w) {id : Nat} {L : Loc} (hL : ρ id = some L) {es : List (V × V)} (hes : σ.get id = some (.map es))
    (es2 : List (V × V)) (es2' : Array MapEntry) (clock : Nat) (hE : EsR ρ es2 es2'.toList) (hS : MapKept.Stamped es2' clock) :
    HR C ρ own (σ.put id (.map es2)) { w with heap := w.heap.setIfInBounds L.blk (.map es2' clock) } ∧
      Fr ρ own σ w ρ own (σ.put id (.map es2)) { w with heap := w.heap.setIfInBounds L.blk (.map es2' clock) } := by
  obtain ⟨ho, es', c0, hb, _⟩ := hr.obj _ _ _ hL hes
  obtain ⟨g1, g2⟩ := MapKept.heap_set (o' := .map es2' clock) hb
  exact hr.mut hL ho (.map es2) (fun b hb => g2 b hb) (by simp) rfl rfl rfl ⟨ho, es2', clock, g1, hE, hS⟩ (fun ⟨_, e9⟩ => by rw [hb] at e9; cases e9)

theorem sim_mup (hT : TIok P TI) (t : TypeId) (m k v : Operand) (op : Op) (hop : op = .mapUpdate t m k v ∨ op = .insert t m k v) : OpSim P TI gl C op := by
  intro α hd p e φ σ w ρ own K r o ho hc hr hX h
  have hc : (match TI t, cX gl m, cX gl k, cX gl v with
    | some { d := .map kt _, .. }, some m, some k, some v => (keyOk TI kt).map fun kk => .mup kk m k v
    | _, _, _, _ => none) = some p := by rcases hop with rfl | rfl <;> exact hc
  have hrun0 : (execOp φ o).run P w = ((Instr.mapUpdate t (φ m) (φ k) (φ v)).run P w).andThen fun _ w => .ok .skip w := by
    rcases hop with rfl | rfl <;> simp [execOp, ho]
  split at hc
  · rename_i kt el s0 b0 z0 M KX VX hi hm hk hv
    obtain ⟨kk, hkk, rfl⟩ := omap_some hc
    obtain ⟨d, hd1, hd2⟩ := keyOk_ok hT hkk
    simp only [opK] at h
    have rm := hX _ _ hm
    have rk := hX _ _ hk
    have rv := hX _ _ hv
    have hu := run_und hT hi w
    split at h
    · rename_i id he
      rw [he] at rm
      obtain ⟨L, hL, hp⟩ := rel_map_inv rm
      split at h
      · rename_i es hes
        obtain ⟨_, es', clock, hb, hE, hS⟩ := hr.obj _ _ _ hL hes
        obtain ⟨es2, h1, h2⟩ := setKey_ok hd2 rk rv es es'.toList 0 h hE
        rcases h2 with ⟨h3, h4, h4b⟩ | ⟨j, e0, h3, h4, h5, h5b, h6⟩
        · obtain ⟨q1, q2⟩ := map_mut hr hL hes es2 (es'.push { key := φ k, val := φ v, born := clock }) (clock + 1) (by simpa using h4 clock) (MapKept.stamped_push hS h4b)
          refine .inr ⟨_, ?_, _, _, _, _, h1, .undef _, q1, q2⟩
          rw [hrun0]
          simp [hp, Instr.mapUpdate, hu, checkKey_ok hd1 hd2, MapKept.run_getObj_map hb, MapKept.run_findKey hd1 h3, MapKept.run_setObj_map _ hb]
        · have hj : es'[j]? = some e0 := by simpa using h4
          have hS2 : MapKept.Stamped (es'.modify j fun e => { e with key := φ k, val := φ v }) clock := MapKept.stamped_modify hS j _ (fun _ _ => rfl) (fun e _ he => by rw [hj] at he; cases he; exact h5b.symm)
          obtain ⟨q1, q2⟩ := map_mut hr hL hes es2 (es'.modify j fun e => { e with key := φ k, val := φ v }) clock (by simpa using h6) hS2
          refine .inr ⟨_, ?_, _, _, _, _, h1, .undef _, q1, q2⟩
          rw [hrun0]
          simp [hp, Instr.mapUpdate, hu, checkKey_ok hd1 hd2, MapKept.run_getObj_map hb, MapKept.run_findKey hd1 h3, MapKept.run_setObj_map _ hb, hj, Instr.keyThatStays, h5]
      · cases h
    · cases h
  · cases hc
end
end Ak
