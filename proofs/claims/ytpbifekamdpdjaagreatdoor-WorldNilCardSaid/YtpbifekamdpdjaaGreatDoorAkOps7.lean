/- Operations: fields, elements, parts of slices and texts. -/
import Derived.Test.YtpbifekamdpdjaaGreatDoorAkOps6
namespace Ak
open Go
section
variable {P : Program} {TI : TypeId → Option Ti} {gl : List Nat} {C : Cor}

theorem sim_fieldAddr (hT : TIok P TI) (t : TypeId) (x : Operand) (f : Nat) : OpSim P TI gl C (.fieldAddr t x f) := by
  intro α hd p e φ σ w ρ own K r o ho hc hr hX h
  simp only [cOp] at hc
  split at hc
  · rename_i fs s0 b0 z0 X hi hx
    split at hc
    · rename_i fd hf
      split at hc
      · rename_i i hfi
        obtain ⟨hg, hc⟩ := bif_then hc
        cases hc
        simp only [opK] at h
        have rx := hX _ _ hx
        split at h
        · rename_i id off he
          rw [he] at rx
          obtain ⟨L, hL, hl, hp⟩ := rel_ptr_inv rx
          have hne : ¬ i.size = 0 := by have := blt_iff.1 hg; omega
          refine .val hr h (.ptr id (off + fd.offset) L hL (by omega)) ?_
          simp [execOp, ho, hp, Instr.fieldAt, run_und hT hi w, hf, Instr.sureAddr, fieldPlace, run_size hT hfi, hne, Loc.at_add hl]
        · cases h
      · cases hc
    · cases hc
  · cases hc

theorem part_ok (hT : TIok P TI) {t : TypeId} {i : Ti} (hi : TI t = some i) {ρ : Rho} {cs : List V} {cs' : List Value} (hcs : RelL ρ cs cs') (off : Nat) (w : World) :
    (isAg i.d = true → off + i.size ≤ cs.length → ∃ v', (part t cs'.toArray off).run P w = .ok v' w ∧ Rel ρ (.agg ((cs.drop off).take i.size)) v') ∧
    (isAg i.d = false → ∀ v, cs[off]? = some v → ∃ v', (part t cs'.toArray off).run P w = .ok v' w ∧ Rel ρ v v') := by
  constructor
  · intro hag hle
    refine ⟨.agg ((cs'.drop off).take i.size).toArray, ?_, rel_agg ((hcs.drop off).take i.size)⟩
    simp only [part, Sem.run_bind, run_isAgg hT hi, Result.andThen_ok, hag, if_true, run_size hT hi, Sem.run_pure]
    congr 2
    apply Array.ext'
    simp [List.extract_eq_take_drop]
  · intro hag v hv
    obtain ⟨v', e, rv⟩ := hcs.get hv
    refine ⟨v', ?_, rv⟩
    have e' : cs'.toArray[off]? = some v' := by simpa using e
    simp [part, run_isAgg hT hi, hag, e]

theorem rel_agg_inv {ρ : Rho} {cs : List V} {v' : Value} (h : Rel ρ (.agg cs) v') : ∃ cs' : List Value, v' = .agg cs'.toArray ∧ RelL ρ cs cs' := by
  cases h with
  | agg _ cs' h1 h2 => exact ⟨cs', rfl, h1, h2⟩
theorem rel_tup_inv {ρ : Rho} {cs : List V} {v' : Value} (h : Rel ρ (.tup cs) v') : ∃ cs' : List Value, v' = .tuple cs'.toArray ∧ RelL ρ cs cs' := by
  cases h with
  | tup _ cs' h1 h2 => exact ⟨cs', rfl, h1, h2⟩

theorem sim_field (hT : TIok P TI) (t : TypeId) (x : Operand) (f : Nat) : OpSim P TI gl C (.field t x f) := by
  intro α hd p e φ σ w ρ own K r o ho hc hr hX h
  simp only [cOp] at hc
  split at hc
  · rename_i fs s0 b0 z0 X hi hx
    split at hc
    · rename_i fd hf
      split at hc
      · rename_i i hfi
        have rx := hX _ _ hx
        obtain ⟨hg, hc⟩ | ⟨hg, hc⟩ := bif_some hc
        · cases hc
          simp only [opK] at h
          split at h
          · rename_i cs he
            rw [he] at rx
            obtain ⟨cs', hp, rl⟩ := rel_agg_inv rx
            obtain ⟨hb, h⟩ := bif_then h
            obtain ⟨v', k1, k2⟩ := (part_ok hT hfi rl fd.offset w).1 hg (leB_iff.1 hb)
            exact .val hr h k2 (by simp [execOp, ho, hp, Instr.field, run_und hT hi w, hf, asAgg, k1])
          · cases h
        · cases hc
          simp only [opK] at h
          split at h
          · rename_i cs he
            rw [he] at rx
            obtain ⟨cs', hp, rl⟩ := rel_agg_inv rx
            split at h
            · rename_i v hv
              obtain ⟨v', k1, k2⟩ := (part_ok hT hfi rl fd.offset w).2 hg v hv
              exact .val hr h k2 (by simp [execOp, ho, hp, Instr.field, run_und hT hi w, hf, asAgg, k1])
            · cases h
          · cases h
      · cases hc
    · cases hc
  · cases hc

theorem toNat_lt {n : Int} {m : Nat} (h0 : 0 ≤ n) (h : n.toNat < m) : n < (m : Int) := by omega

theorem sim_indexAddr (hT : TIok P TI) (t : TypeId) (x ix : Operand) : OpSim P TI gl C (.indexAddr t x ix) := by
  intro α hd p e φ σ w ρ own K r o ho hc hr hX h
  simp only [cOp] at hc
  split at hc
  · rename_i n el s0 b0 z0 X I hi hx hix
    obtain ⟨ti, hti, rfl⟩ := omap_some hc
    simp only [opK] at h
    have rx := hX _ _ hx
    have ri := hX _ _ hix
    split at h
    · rename_i id off he
      rw [he] at rx
      obtain ⟨L, hL, hl, hp⟩ := rel_ptr_inv rx
      obtain ⟨k, m, e1, hm, h⟩ := natK_ok h
      obtain ⟨hb, h⟩ := bif_then h
      rw [e1] at ri
      have p2 := rel_int_inv ri
      have hlt := toNat_lt hm (blt_iff.1 hb)
      refine .val hr h (.ptr id (off + m.toNat * ti.size) L hL (by omega)) ?_
      simp [execOp, ho, hp, p2, Instr.indexAt, asIntOf, run_und hT hi w, Instr.sureAddr, hm, hlt, run_size hT hti, Loc.at_add hl]
    · cases h
  · rename_i el s0 b0 z0 X I hi hx hix
    obtain ⟨ti, hti, rfl⟩ := omap_some hc
    simp only [opK] at h
    have rx := hX _ _ hx
    have ri := hX _ _ hix
    split at h
    · rename_i id off sz len mn ex he
      rw [he] at rx
      obtain ⟨L, a, cap, hL, hp, hl, h1, h2, h3, h4, h5⟩ := rel_slc_inv rx
      obtain ⟨k, m, e1, hm, h⟩ := natK_ok h
      obtain ⟨hb, h⟩ := bif_then h
      rw [e1] at ri
      have p2 := rel_int_inv ri
      have hbl := blt_iff.1 hb
      have hlt := toNat_lt hm hbl
      have ha := h5 (by omega)
      refine .val hr h (.ptr id (off + m.toNat * ti.size) L hL (by omega)) ?_
      simp [execOp, ho, hp, p2, Instr.indexAt, asIntOf, run_und hT hi w, hm, hlt, run_size hT hti, ha, Loc.at_add hl]
    · cases h
  · cases hc

theorem sim_index (hT : TIok P TI) (t : TypeId) (x ix : Operand) : OpSim P TI gl C (.index t x ix) := by
  intro α hd p e φ σ w ρ own K r o ho hc hr hX h
  simp only [cOp] at hc
  split at hc
  · rename_i n el s0 b0 z0 X I hi hx hix
    obtain ⟨ti, hti, hc⟩ := omap_some hc
    have rx := hX _ _ hx
    have ri := hX _ _ hix
    cases hag : isAg ti.d with
    | true =>
      rw [hag] at hc
      simp only [cond_true] at hc
      subst hc
      simp only [opK] at h
      split at h
      · rename_i cs he
        rw [he] at rx
        obtain ⟨cs', hp, rl⟩ := rel_agg_inv rx
        obtain ⟨k, m, e1, hm, h⟩ := natK_ok h
        obtain ⟨hb, h⟩ := bif_then h
        simp only [Bool.and_eq_true, leB_iff, blt_iff] at hb
        rw [e1] at ri
        have p2 := rel_int_inv ri
        have hlt := toNat_lt hm hb.1
        obtain ⟨v', k1, k2⟩ := (part_ok hT hti rl (m.toNat * ti.size) w).1 hag hb.2
        exact .val hr h k2 (by simp [execOp, ho, hp, p2, Instr.index, asIntOf, run_und hT hi w, hm, hlt, run_size hT hti, k1])
      · cases h
    | false =>
      rw [hag] at hc
      simp only [cond_false] at hc
      subst hc
      simp only [opK] at h
      split at h
      · rename_i cs he
        rw [he] at rx
        obtain ⟨cs', hp, rl⟩ := rel_agg_inv rx
        obtain ⟨k, m, e1, hm, h⟩ := natK_ok h
        obtain ⟨hb, h⟩ := bif_then h
        rw [e1] at ri
        have p2 := rel_int_inv ri
        have hlt := toNat_lt hm (blt_iff.1 hb)
        split at h
        · rename_i v hv
          obtain ⟨v', k1, k2⟩ := (part_ok hT hti rl (m.toNat * ti.size) w).2 hag v hv
          exact .val hr h k2 (by simp [execOp, ho, hp, p2, Instr.index, asIntOf, run_und hT hi w, hm, hlt, run_size hT hti, k1])
        · cases h
      · cases h
  · rename_i s0 b0 z0 X I hi hx hix
    cases hc
    simp only [opK] at h
    have rx := hX _ _ hx
    have ri := hX _ _ hix
    split at h
    · rename_i s he
      rw [he] at rx
      obtain ⟨b', hp, hb'⟩ := rel_str_inv rx
      obtain ⟨k, m, e1, hm, h⟩ := natK_ok h
      obtain ⟨hb, h⟩ := bif_then h
      rw [e1] at ri
      have p2 := rel_int_inv ri
      have hlt := blt_iff.1 hb
      have hsz : m.toNat < b'.data.size := by
        rw [← hb'] at hlt
        simpa [bytesL] using hlt
      have hget : b'[m.toNat]? = some (b'.data[m.toNat]'hsz) := by
        have : m.toNat < b'.size := hsz
        simp only [getElem?_def, this, dif_pos]
        rfl
      have hv : s.getD m.toNat 0 = (b'.data[m.toNat]'hsz).toNat := by
        rw [← hb']
        simp only [bytesL, List.getD_eq_getElem?_getD, List.getElem?_map, Array.getElem?_toList, Array.getElem?_eq_getElem hsz]
        rfl
      rw [hv] at h
      exact .val hr h (.int _ _) (by simp [execOp, ho, hp, p2, Instr.index, asIntOf, run_und hT hi w, hm, hget])
    · cases h
  · cases hc

theorem sim_extract (x : Operand) (i : Nat) : OpSim P TI gl C (.extract x i) := by
  intro α hd p e φ σ w ρ own K r o ho hc hr hX h
  simp only [cOp] at hc
  obtain ⟨X, hx, rfl⟩ := omap_some hc
  simp only [opK] at h
  have rx := hX _ _ hx
  split at h
  · rename_i cs he
    rw [he] at rx
    obtain ⟨cs', hp, rl⟩ := rel_tup_inv rx
    split at h
    · rename_i v hv
      obtain ⟨v', e', rv⟩ := rl.get hv
      exact .val hr h rv (by simp [execOp, ho, hp, Instr.extract, e'])
    · cases h
  · cases h

theorem sim_s2a (hT : TIok P TI) (t : TypeId) (x : Operand) : OpSim P TI gl C (.sliceToArrayPointer t x) := by
  intro α hd p e φ σ w ρ own K r o ho hc hr hX h
  simp only [cOp] at hc
  split at hc
  · rename_i n el s0 b0 z0 hi
    obtain ⟨X, hx, rfl⟩ := omap_some hc
    simp only [opK] at h
    have rx := hX _ _ hx
    split at h
    · rename_i id off sz len mn ex he
      rw [he] at rx
      obtain ⟨L, a, cap, hL, hp, hl, h1, h2, h3, h4, h5⟩ := rel_slc_inv rx
      obtain ⟨hb, h⟩ := bif_then h
      simp only [Bool.and_eq_true, leB_iff, blt_iff] at hb
      have hlt : ¬ len < n := by omega
      have ha := h5 (by omega)
      refine .val hr h (.ptr id off L hL hl) ?_
      simp [execOp, ho, hp, Instr.arrayAt, run_und hT hi w, hlt, ha]
    · cases h
  · cases hc

/-! Parts. -/
theorem optK_ok {α : Type} {d : Nat} {e : X → V} {x : Option X} {K : Nat → Option α} {r : α} (h : optK d e x K = some r) :
    ∃ n, K n = some r ∧ ((x = none ∧ n = d) ∨ ∃ X k m, x = some X ∧ e X = .int k m ∧ 0 ≤ m ∧ m.toNat = n) := by
  cases x with
  | none => exact ⟨d, h, .inl ⟨rfl, rfl⟩⟩
  | some X =>
    obtain ⟨k, m, e1, h0, h1⟩ := natK_ok h
    exact ⟨_, h1, .inr ⟨X, k, m, rfl, e1, h0, rfl⟩⟩
/-- What an optional bound comes to. -/
def BndR (o : Option Value) (d n : Nat) : Prop := (o = none ∧ n = d) ∨ ∃ k m, o = some (.int k m) ∧ 0 ≤ m ∧ m.toNat = n
theorem bnd_ok {ρ : Rho} {e : X → V} {φ : Operand → Value} (hX : XR gl ρ e φ) {xo : Option Operand} {Xo : Option X} (hx : cXo gl xo = some Xo) {d n : Nat}
    (h : (Xo = none ∧ n = d) ∨ ∃ X k m, Xo = some X ∧ e X = .int k m ∧ 0 ≤ m ∧ m.toNat = n) : BndR (xo.map φ) d n := by
  cases xo with
  | none =>
    cases hx
    rcases h with ⟨_, h⟩ | ⟨X, k, m, h, _⟩
    · exact .inl ⟨rfl, h⟩
    · cases h
  | some x =>
    simp only [cXo] at hx
    obtain ⟨X, hx2, rfl⟩ := omap_some hx
    rcases h with ⟨h, _⟩ | ⟨X', k, m, h, h2, h3, h4⟩
    · cases h
    · cases h
      have rx := hX _ _ hx2
      rw [h2] at rx
      exact .inr ⟨k, m, by simp [rel_int_inv rx], h3, h4⟩

theorem run_bounds {w : World} {isS : Bool} {len cap l h : Nat} {lo hi : Option Value} (h1 : BndR hi len h) (h2 : BndR lo 0 l) (k1 : l ≤ h) (k2 : h ≤ cap) :
    (Instr.sliceBounds isS len cap lo hi none).run P w = .ok (l, h, cap) w := by
  have e1 : (match hi with | some v => Instr.sliceBound v cap (if isS then .sliceAcap else .sliceAlen) | none => pure len : Sem Nat).run P w = .ok h w := by
    rcases h1 with ⟨rfl, rfl⟩ | ⟨k, m, rfl, m0, rfl⟩
    · rfl
    · exact run_sliceBound w k m cap _ m0 (by omega)
  have e2 : (match lo with | some v => Instr.sliceBound v h .sliceB | none => pure 0 : Sem Nat).run P w = .ok l w := by
    rcases h2 with ⟨rfl, rfl⟩ | ⟨k, m, rfl, m0, rfl⟩
    · rfl
    · exact run_sliceBound w k m h _ m0 (by omega)
  rcases h1 with ⟨rfl, rfl⟩ | ⟨k, m, rfl, m0, rfl⟩ <;> rcases h2 with ⟨rfl, rfl⟩ | ⟨k', m', rfl, m0', rfl⟩ <;>
    simp_all [Instr.sliceBounds]
theorem run_bounds3 {w : World} {isS : Bool} {len cap l h m : Nat} {lo : Option Value} {hv mv : Value} (h0 : BndR (some mv) cap m) (h1 : BndR (some hv) len h) (h2 : BndR lo 0 l) (k1 : l ≤ h) (k2 : h ≤ m) (k3 : m ≤ cap) :
    (Instr.sliceBounds isS len cap lo (some hv) (some mv)).run P w = .ok (l, h, m) w := by
  rcases h0 with ⟨h0, _⟩ | ⟨k, n0, h0, n00, rfl⟩
  · cases h0
  rcases h1 with ⟨h1, _⟩ | ⟨k', n1, h1, n10, rfl⟩
  · cases h1
  cases h0
  cases h1
  have e0 := fun c => run_sliceBound (P := P) w k n0 cap c n00 (by omega)
  have e1 := fun c => run_sliceBound (P := P) w k' n1 n0.toNat c n10 (by omega)
  rcases h2 with ⟨rfl, rfl⟩ | ⟨k2, m2, rfl, m0', rfl⟩
  · simp [Instr.sliceBounds, e0, e1]
  · have e2 := fun c => run_sliceBound (P := P) w k2 m2 n1.toNat c m0' (by omega)
    simp [Instr.sliceBounds, e0, e1, e2]

theorem bytesL_extract (b : ByteArray) (l h : Nat) : bytesL (b.extract l h) = ((bytesL b).take h).drop l := by
  unfold bytesL
  simp [ByteArray.data_extract, List.extract_eq_take_drop, List.map_drop, List.map_take, List.drop_take]

theorem slc_part {ρ : Rho} {id off sz : Nat} {L : Loc} {a : Addr} {cap l h m : Nat} (hL : ρ id = some L) (hl : L.lo ≤ off) (h4 : off - L.lo + cap * sz ≤ L.top) (h5 : cap ≠ 0 → a = L.at off)
    (k1 : l ≤ h) (k2 : h ≤ m) (k3 : m ≤ cap) (ex' : Bool) (mn' : Nat) (hm : mn' ≤ m - l) (hex : ex' = true → m - l = mn') :
    Rel ρ (.slc id (off + l * sz) sz (h - l) mn' ex') (.slice (if m = l then some a else (some a).map (·.add (l * sz))) (h - l) (m - l)) := by
  have hle : off + l * sz - L.lo + (m - l) * sz ≤ L.top := by
    have : m * sz ≤ cap * sz := Nat.mul_le_mul_right _ (by omega)
    have : l * sz + (m - l) * sz = m * sz := by rw [← Nat.add_mul]; congr 1; omega
    omega
  by_cases e : m = l
  · simp only [e, if_true]
    exact .slc id _ sz _ mn' ex' L a _ hL (by omega) (by omega) (by omega) (fun x => by rw [← hex x]; omega) (by rw [← e] at hle ⊢; simpa using hle) (fun x => by omega)
  · simp only [e, if_false, Option.map_some]
    exact .slc id _ sz _ mn' ex' L _ _ hL (by omega) (by omega) (by omega) (fun x => hex x) hle (fun x => by rw [h5 (by omega), Loc.at_add hl])

theorem sim_slice (hT : TIok P TI) (t : TypeId) (x : Operand) (lo hi mx : Option Operand) : OpSim P TI gl C (.slice t x lo hi mx) := by
  intro α hd p e φ σ w ρ own K r o ho hc hr hX h
  simp only [cOp] at hc
  split at hc
  · rename_i X Lo Hi Mx hx hlo hhi hmx
    have rx := hX _ _ hx
    unfold cSlice at hc
    split at hc
    · rename_i s0 b0 z0 hi2
      have hmn : mx = none := by
        cases mx with
        | none => rfl
        | some m => simp only [cXo] at hmx; obtain ⟨_, _, h0⟩ := omap_some hmx; cases h0
      cases hc
      simp only [opK] at h
      split at h
      · rename_i s he
        rw [he] at rx
        obtain ⟨b', hp, hb'⟩ := rel_str_inv rx
        obtain ⟨n1, h, q1⟩ := optK_ok h
        obtain ⟨n2, h, q2⟩ := optK_ok h
        obtain ⟨hb, h⟩ := bif_then h
        simp only [Bool.and_eq_true, leB_iff] at hb
        have hlen : s.length = b'.size := by rw [← hb', len_bytesL]
        rw [hlen] at q1 hb
        have B1 := bnd_ok hX hhi q1
        have B2 := bnd_ok hX hlo q2
        have hb3 := run_bounds (P := P) (w := w) (isS := false) B1 B2 hb.1 hb.2
        refine .val hr h (.str _ (b'.extract n2 n1) (by rw [← hb']; exact bytesL_extract b' n2 n1)) ?_
        simp [execOp, ho, hp, hmn, Instr.sliceAt, Instr.slice, run_und hT hi2 w, hb3]
      · cases h
    · rename_i el s0 b0 z0 hi2
      obtain ⟨ti, hti, rfl⟩ := omap_some hc
      have hmn : mx = none := by
        cases mx with
        | none => rfl
        | some m => simp only [cXo] at hmx; obtain ⟨_, _, h0⟩ := omap_some hmx; cases h0
      simp only [opK] at h
      split at h
      · rename_i id off sz len mn ex he
        rw [he] at rx
        obtain ⟨L, a, cap, hL, hp, hl, h1, h2, h3, h4, h5⟩ := rel_slc_inv rx
        obtain ⟨n1, h, q1⟩ := optK_ok h
        obtain ⟨n2, h, q2⟩ := optK_ok h
        obtain ⟨hb, h9⟩ := bif_then h
        simp only [Bool.and_eq_true, leB_iff, Nat.beq_eq] at hb
        obtain ⟨⟨hb1, hb2⟩, rfl⟩ := hb
        have B1 := bnd_ok hX hhi q1
        have B2 := bnd_ok hX hlo q2
        have hb3 := run_bounds (P := P) (w := w) (isS := true) B1 B2 hb1 (Nat.le_trans hb2 h2)
        have hrel := slc_part (ρ := ρ) (sz := ti.size) (m := cap) hL hl h4 h5 hb1 (Nat.le_trans hb2 h2) (Nat.le_refl _) ex (mn - n2) (by omega) (fun x => by have := h3 x; omega)
        refine .val hr h9 hrel ?_
        simp [execOp, ho, hp, hmn, Instr.sliceAt, Instr.slice, run_und hT hi2 w, hb3, run_size hT hti]
      · rename_i he
        rw [he] at rx
        have hp := rel_nils_inv rx
        obtain ⟨n1, h, q1⟩ := optK_ok h
        obtain ⟨n2, h, q2⟩ := optK_ok h
        obtain ⟨hb, h⟩ := bif_then h
        simp only [Bool.and_eq_true, Nat.beq_eq] at hb
        obtain ⟨rfl, rfl⟩ := hb
        have B1 := bnd_ok hX hhi q1
        have B2 := bnd_ok hX hlo q2
        have hb3 := run_bounds (P := P) (w := w) (isS := true) B1 B2 (Nat.le_refl _) (Nat.le_refl _)
        refine .val hr h .nils ?_
        simp [execOp, ho, hp, hmn, Instr.sliceAt, Instr.slice, run_und hT hi2 w, hb3, run_size hT hti]
      · cases h
    · rename_i el s0 b0 z0 M hi2
      split at hc
      · rename_i Hh
        obtain ⟨ti, hti, rfl⟩ := omap_some hc
        obtain ⟨hio, rfl⟩ : ∃ y, hi = some y := by
          cases hi with
          | none => cases hhi
          | some y => exact ⟨y, rfl⟩
        obtain ⟨mxo, rfl⟩ : ∃ y, mx = some y := by
          cases mx with
          | none => cases hmx
          | some y => exact ⟨y, rfl⟩
        simp only [opK] at h
        split at h
        · rename_i id off sz len mn ex he
          rw [he] at rx
          obtain ⟨L, a, cap, hL, hp, hl, h1, h2, h3, h4, h5⟩ := rel_slc_inv rx
          obtain ⟨km, m, em, hm, h⟩ := natK_ok h
          obtain ⟨n1, h, q1⟩ := optK_ok h
          obtain ⟨n2, h, q2⟩ := optK_ok h
          obtain ⟨hb, h9⟩ := bif_then h
          simp only [Bool.and_eq_true, leB_iff, Nat.beq_eq] at hb
          obtain ⟨⟨⟨hb1, hb2⟩, hb4⟩, rfl⟩ := hb
          have B0 := bnd_ok (d := cap) hX hmx (.inr ⟨M, km, m, rfl, em, hm, rfl⟩)
          have B1 := bnd_ok hX hhi q1
          have B2 := bnd_ok hX hlo q2
          have hb3 := run_bounds3 (P := P) (w := w) (isS := true) B0 B1 B2 hb1 hb2 (Nat.le_trans hb4 h2)
          have hrel := slc_part (ρ := ρ) (sz := ti.size) (m := m.toNat) hL hl h4 h5 hb1 hb2 (Nat.le_trans hb4 h2) true (m.toNat - n2) (Nat.le_refl _) (fun _ => rfl)
          refine .val hr h9 hrel ?_
          simp [execOp, ho, hp, Instr.sliceAt, Instr.slice, run_und hT hi2 w, hb3, run_size hT hti]
        · cases h
      · cases hc
    · rename_i n el s0 b0 z0 hi2
      obtain ⟨ti, hti, rfl⟩ := omap_some hc
      have hmn : mx = none := by
        cases mx with
        | none => rfl
        | some m => simp only [cXo] at hmx; obtain ⟨_, _, h0⟩ := omap_some hmx; cases h0
      simp only [opK] at h
      split at h
      · rename_i id off he
        rw [he] at rx
        obtain ⟨L, hL, hl, hp⟩ := rel_ptr_inv rx
        split at h
        · rename_i c z a b ro ho2
          obtain ⟨n1, h, q1⟩ := optK_ok h
          obtain ⟨n2, h, q2⟩ := optK_ok h
          obtain ⟨hb, h⟩ := bif_then h
          simp only [Bool.and_eq_true, leB_iff] at hb
          obtain ⟨⟨⟨hb1, hb2⟩, hb4⟩, hb5⟩ := hb
          have B1 := bnd_ok hX hhi q1
          have B2 := bnd_ok hX hlo q2
          have hb3 := run_bounds (P := P) (w := w) (isS := false) B1 B2 hb1 hb2
          obtain ⟨_, o2, o3, _⟩ := hr.obj _ _ _ hL ho2
          have hrel := slc_part (ρ := ρ) (sz := ti.size) (m := n) (cap := n) (a := L.at off) hL hl (by omega) (fun _ => rfl) hb1 hb2 (Nat.le_refl _) true (n - n2) (Nat.le_refl _) (fun _ => rfl)
          refine .val hr h hrel ?_
          simp [execOp, ho, hp, hmn, Instr.sliceAt, run_und hT hi2 w, hb3, run_size hT hti, Instr.sureAddr]
          split <;> rfl
        · cases h
      · cases h
    · cases hc
  · cases hc
end
end Ak
