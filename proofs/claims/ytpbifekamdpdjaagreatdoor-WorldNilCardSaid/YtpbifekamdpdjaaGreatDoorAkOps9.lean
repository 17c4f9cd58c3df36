/- Operations: built-in functions but append. -/
import Derived.Test.YtpbifekamdpdjaaGreatDoorAkOps8
namespace Ak
open Go
section
variable {P : Program} {TI : TypeId → Option Ti} {gl : List Nat} {C : Cor}

theorem cXs_len : ∀ {xs : List Operand} {Xs : List X}, cXs gl xs = some Xs → xs.length = Xs.length
  | [], Xs, h => by cases h; rfl
  | x :: xs, Xs, h => by
    simp only [cXs] at h
    split at h
    · rename_i a as h1 h2; cases h; simp [cXs_len h2]
    · cases h
theorem cXs_one {as : Array Operand} {X : X} (h : cXs gl as.toList = some [X]) : ∃ a, as = #[a] ∧ cX gl a = some X := by
  obtain ⟨l⟩ := as
  match l, cXs_len h with
  | [a], _ =>
    refine ⟨a, rfl, ?_⟩
    simp only [cXs] at h
    cases e : cX gl a <;> simp_all
theorem cXs_two {as : Array Operand} {A B : X} (h : cXs gl as.toList = some [A, B]) : ∃ a b, as = #[a, b] ∧ cX gl a = some A ∧ cX gl b = some B := by
  obtain ⟨l⟩ := as
  match l, cXs_len h with
  | [a, b], _ =>
    refine ⟨a, b, rfl, ?_⟩
    simp only [cXs] at h
    cases e : cX gl a <;> cases e2 : cX gl b <;> simp_all
theorem cXs_cons {as : Array Operand} {X : Ak.X} {Xs : List Ak.X} (h : cXs gl as.toList = some (X :: Xs)) : ∃ a l, as = ⟨a :: l⟩ ∧ cX gl a = some X ∧ cXs gl l = some Xs := by
  obtain ⟨l⟩ := as
  match l, cXs_len h with
  | a :: l, _ =>
    refine ⟨a, l, rfl, ?_⟩
    simp only [cXs] at h
    split at h
    · rename_i a' as' h1 h2; cases h; exact ⟨h1, h2⟩
    · cases h
theorem arr_one {α : Type} {a : Array α} {x : α} (h : a.toList = [x]) : a = #[x] := by cases a; simp at h; subst h; rfl
theorem arr_two {α : Type} {a : Array α} {x y : α} (h : a.toList = [x, y]) : a = #[x, y] := by cases a; simp at h; subst h; rfl

/-- A built-in call that gives a value. -/
theorem run_bi (b : Builtin) (ts : Array TypeId) (as : Array Operand) (o : Oper) (ho : o.op = .call { callee := .builtin b, args := as, argTypes := ts }) (φ : Operand → Value) :
    execOp φ o = builtin b ts o.type (as.map fun | .const _ => true | _ => false) (as.map φ) := by
  simp only [execOp, ho, resolve]
  rfl

theorem sim_len (hT : TIok P TI) (ts : Array TypeId) (as : Array Operand) : OpSim P TI gl C (.call { callee := .builtin .len, args := as, argTypes := ts }) := by
  intro α hd p e φ σ w ρ own K r o ho hc hr hX h
  simp only [cOp] at hc
  obtain ⟨xs, hxs, hq⟩ := obind_some hc
  clear hc
  unfold cBi at hq
  split at hq <;> first | (contradiction) | skip
  rename_i t X _ hts
  obtain ⟨a, rfl, hx⟩ := cXs_one hxs
  obtain rfl := arr_one hts
  have rx := hX _ _ hx
  rw [run_bi _ _ _ o ho φ]
  split at hq
  · rename_i s0 b0 z0 hi
    cases hq
    simp only [opK] at h
    split at h
    · rename_i s he
      rw [he] at rx
      obtain ⟨b', hp, hb'⟩ := rel_str_inv rx
      have : s.length = b'.size := by rw [← hb', len_bytesL]
      rw [this] at h
      exact .val hr h (.int _ _) (by simp [builtin, hp, Builtin.len_, run_und hT hi w, goInt])
    · cases h
  · rename_i el s0 b0 z0 hi
    cases hq
    simp only [opK] at h
    split at h
    · rename_i id off sz n mn ex he
      rw [he] at rx
      obtain ⟨L, a', cap, hL, hp, _⟩ := rel_slc_inv rx
      exact .val hr h (.int _ _) (by simp [builtin, hp, Builtin.len_, run_und hT hi w, goInt])
    · rename_i he
      rw [he] at rx
      have hp := rel_nils_inv rx
      exact .val hr h (.int _ _) (by simp [builtin, hp, Builtin.len_, run_und hT hi w, goInt])
    · cases h
  · rename_i n el s0 b0 z0 hi
    cases hq
    simp only [opK] at h
    exact .val hr h (.int _ _) (by simp [builtin, Builtin.len_, run_und hT hi w, goInt])
  · cases hq

theorem sim_cap (hT : TIok P TI) (ts : Array TypeId) (as : Array Operand) : OpSim P TI gl C (.call { callee := .builtin .cap, args := as, argTypes := ts }) := by
  intro α hd p e φ σ w ρ own K r o ho hc hr hX h
  simp only [cOp] at hc
  obtain ⟨xs, hxs, hq⟩ := obind_some hc
  clear hc
  unfold cBi at hq
  split at hq <;> first | (contradiction) | skip
  rename_i t X _ hts
  obtain ⟨a, rfl, hx⟩ := cXs_one hxs
  obtain rfl := arr_one hts
  have rx := hX _ _ hx
  rw [run_bi _ _ _ o ho φ]
  split at hq
  · rename_i el s0 b0 z0 hi
    cases hq
    simp only [opK] at h
    split at h
    · rename_i id off sz n mn ex he
      rw [he] at rx
      obtain ⟨L, a', cap, hL, hp, hl, h1, h2, h3, _⟩ := rel_slc_inv rx
      obtain ⟨hex, h⟩ := bif_then h
      have := h3 hex
      subst this
      exact .val hr h (.int _ _) (by simp [builtin, hp, Builtin.cap_, run_und hT hi w, goInt])
    · rename_i he
      rw [he] at rx
      have hp := rel_nils_inv rx
      exact .val hr h (.int _ _) (by simp [builtin, hp, Builtin.cap_, run_und hT hi w, goInt])
    · cases h
  · cases hq

theorem minI_ok {ρ : Rho} {k : IntKind} (w : World) : ∀ (vs : List V) (vs' : List Value) (a n : Int), minI a vs k = some n → RelL ρ vs vs' → (vs'.foldlM Builtin.min2 (.int k a) : Sem Value).run P w = .ok (.int k n) w
  | [], vs', a, n, h, hr => by obtain rfl := hr.nil_inv; cases h; rfl
  | v :: vs, vs', a, n, h, hr => by
    obtain ⟨v', ws, rfl, rv, hr2⟩ := hr.cons_inv
    cases v with
    | int l b =>
      simp only [minI] at h
      obtain ⟨hk, h⟩ := bif_then h
      rw [rel_int_inv rv]
      have := minI_ok w vs ws _ n h hr2
      have e : (bif decide (b < a) then b else a) = if b < a then b else a := by by_cases hb : b < a <;> simp [hb]
      rw [e] at this
      simp only [List.foldlM_cons, Sem.run_bind, Builtin.min2, Sem.run_pure, Result.andThen_ok]
      exact this
    | _ => simp [minI] at h
theorem maxI_ok {ρ : Rho} {k : IntKind} (w : World) : ∀ (vs : List V) (vs' : List Value) (a n : Int), maxI a vs k = some n → RelL ρ vs vs' → (vs'.foldlM Builtin.max2 (.int k a) : Sem Value).run P w = .ok (.int k n) w
  | [], vs', a, n, h, hr => by obtain rfl := hr.nil_inv; cases h; rfl
  | v :: vs, vs', a, n, h, hr => by
    obtain ⟨v', ws, rfl, rv, hr2⟩ := hr.cons_inv
    cases v with
    | int l b =>
      simp only [maxI] at h
      obtain ⟨hk, h⟩ := bif_then h
      rw [rel_int_inv rv]
      have := maxI_ok w vs ws _ n h hr2
      have e : (bif decide (a < b) then b else a) = if b > a then b else a := by by_cases hb : a < b <;> simp [hb]
      rw [e] at this
      simp only [List.foldlM_cons, Sem.run_bind, Builtin.max2, Sem.run_pure, Result.andThen_ok]
      exact this
    | _ => simp [maxI] at h
theorem sim_min (ts : Array TypeId) (as : Array Operand) : OpSim P TI gl C (.call { callee := .builtin .min, args := as, argTypes := ts }) := by
  intro α hd p e φ σ w ρ own K r o ho hc hr hX h
  simp only [cOp] at hc
  obtain ⟨xs, hxs, hq⟩ := obind_some hc
  clear hc
  unfold cBi at hq
  split at hq <;> first | (contradiction) | skip
  rename_i ts0 X Xs heq
  cases hq
  obtain ⟨a, l, rfl, hx, hl⟩ := cXs_cons hxs
  have rx := hX _ _ hx
  have rl := hX.list hl
  rw [run_bi _ _ _ o ho φ]
  simp only [opK] at h
  split at h
  · rename_i k n he
    rw [he] at rx
    have hp := rel_int_inv rx
    split at h
    · rename_i m hm
      refine .val hr h (.int _ _) ?_
      have := minI_ok (P := P) w _ _ _ _ hm rl
      simp [builtin, Builtin.min_, hp, this]
    · cases h
  · cases h
theorem sim_max (ts : Array TypeId) (as : Array Operand) : OpSim P TI gl C (.call { callee := .builtin .max, args := as, argTypes := ts }) := by
  intro α hd p e φ σ w ρ own K r o ho hc hr hX h
  simp only [cOp] at hc
  obtain ⟨xs, hxs, hq⟩ := obind_some hc
  clear hc
  unfold cBi at hq
  split at hq <;> first | (contradiction) | skip
  rename_i ts0 X Xs heq
  cases hq
  obtain ⟨a, l, rfl, hx, hl⟩ := cXs_cons hxs
  have rx := hX _ _ hx
  have rl := hX.list hl
  rw [run_bi _ _ _ o ho φ]
  simp only [opK] at h
  split at h
  · rename_i k n he
    rw [he] at rx
    have hp := rel_int_inv rx
    split at h
    · rename_i m hm
      refine .val hr h (.int _ _) ?_
      have := maxI_ok (P := P) w _ _ _ _ hm rl
      simp [builtin, Builtin.max_, hp, this]
    · cases h
  · cases h

theorem sim_delete (hT : TIok P TI) (ts : Array TypeId) (as : Array Operand) : OpSim P TI gl C (.call { callee := .builtin .delete, args := as, argTypes := ts }) := by
  intro α hd p e φ σ w ρ own K r o ho hc hr hX h
  simp only [cOp] at hc
  obtain ⟨xs, hxs, hq⟩ := obind_some hc
  clear hc
  unfold cBi at hq
  split at hq <;> first | (contradiction) | skip
  rename_i t u M KX _ hts
  obtain ⟨am, ak, rfl, hm, hk⟩ := cXs_two hxs
  obtain rfl := arr_two hts
  rw [run_bi _ _ _ o ho φ]
  split at hq
  · rename_i kt el s0 b0 z0 hi
    obtain ⟨kk, hkk, rfl⟩ := omap_some hq
    obtain ⟨d, hd1, hd2⟩ := keyOk_ok hT hkk
    simp only [opK] at h
    have rm := hX _ _ hm
    have rk := hX _ _ hk
    have hu := run_und hT hi w
    split at h
    · rename_i id he
      rw [he] at rm
      obtain ⟨L, hL, hp⟩ := rel_map_inv rm
      split at h
      · rename_i es hes
        obtain ⟨_, es', clock, hb, hE, hS⟩ := hr.obj _ _ _ hL hes
        obtain ⟨es2, h1, h2⟩ := delKey_ok hd2 rk es es'.toList 0 h hE
        rcases h2 with ⟨h3, h4⟩ | ⟨j, v0, h3, h4⟩
        · obtain ⟨q1, q2⟩ := map_mut hr hL hes es2 es' clock h4 hS
          refine .inl ⟨.tuple #[], _, ?_, _, _, _, _, h1, .undef _, q1, q2⟩
          simp [builtin, Builtin.delete_, hp, hu, checkKey_ok hd1 hd2, MapKept.run_getObj_map hb, MapKept.run_findKey hd1 h3, MapKept.run_setObj_map _ hb]
        · have hE2 : EsR ρ es2 (es'.eraseIdxIfInBounds (0 + j)).toList := by
            rw [Nat.zero_add]
            have : (es'.eraseIdxIfInBounds j).toList = es'.toList.eraseIdx j := by
              unfold Array.eraseIdxIfInBounds
              split
              · rw [Array.toList_eraseIdx]
              · rw [List.eraseIdx_of_length_le (by simp; omega)]
            rw [this]; exact h4
          obtain ⟨q1, q2⟩ := map_mut hr hL hes es2 (es'.eraseIdxIfInBounds (0 + j)) clock hE2 (MapKept.stamped_erase hS _)
          refine .inl ⟨.tuple #[], _, ?_, _, _, _, _, h1, .undef _, q1, q2⟩
          simp [builtin, Builtin.delete_, hp, hu, checkKey_ok hd1 hd2, MapKept.run_getObj_map hb, MapKept.run_findKey hd1 h3, MapKept.run_setObj_map _ hb]
      · cases h
    · cases h
  · cases hq

theorem allOne_rel {ρ : Rho} : ∀ {vs : List V} {vs' : List Value}, allOne vs = true → RelL ρ vs vs' → ∀ v ∈ vs', v.oneCell' = true
  | [], vs', _, hr => by obtain rfl := hr.nil_inv; simp
  | v :: vs, vs', h, hr => by
    obtain ⟨v', ws, rfl, rv, hr2⟩ := hr.cons_inv
    simp only [allOne, Bool.and_eq_true] at h
    intro x hx
    cases hx with
    | head => exact rel_one rv h.1
    | tail _ hx => exact allOne_rel h.2 hr2 x hx

theorem slc_addr {L : Loc} {a : Addr} {cap off : Nat} (h5 : cap ≠ 0 → a = L.at off) {len : Nat} (hl : len ≠ 0) (hle : len ≤ cap) : a = L.at off := h5 (by omega)

theorem sim_clear (hT : TIok P TI) (ts : Array TypeId) (as : Array Operand) : OpSim P TI gl C (.call { callee := .builtin .clear, args := as, argTypes := ts }) := by
  intro α hd p e φ σ w ρ own K r o ho hc hr hX h
  simp only [cOp] at hc
  obtain ⟨xs, hxs, hq⟩ := obind_some hc
  clear hc
  unfold cBi at hq
  split at hq <;> first | (contradiction) | skip
  rename_i t X _ hts
  obtain ⟨a, rfl, hx⟩ := cXs_one hxs
  obtain rfl := arr_one hts
  have rx := hX _ _ hx
  rw [run_bi _ _ _ o ho φ]
  split at hq
  · rename_i kt el s0 b0 z0 hi
    cases hq
    have hu := run_und hT hi w
    simp only [opK] at h
    split at h
    · rename_i he
      rw [he] at rx
      have hp := rel_nilm_inv rx
      exact .val (v' := .tuple #[]) hr h (.undef _) (by simp [builtin, Builtin.clear_, hp, hu])
    · rename_i id he
      rw [he] at rx
      obtain ⟨L, hL, hp⟩ := rel_map_inv rx
      split at h
      · rename_i es hes
        obtain ⟨_, es', clock, hb, hE, hS⟩ := hr.obj _ _ _ hL hes
        obtain ⟨q1, q2⟩ := map_mut hr hL hes [] #[] clock ⟨.nil ρ, .nil ρ⟩ (MapKept.stamped_empty _)
        refine .inl ⟨.tuple #[], _, ?_, _, _, _, _, h, .undef _, q1, q2⟩
        simp [builtin, Builtin.clear_, hp, hu, MapKept.run_getObj_map hb, MapKept.run_setObj_map _ hb]
      · cases h
    · cases h
  · rename_i el s0 b0 z0 hi
    obtain ⟨z, hz, rfl⟩ := omap_some hq
    obtain ⟨i, hti, hz⟩ := obind_some hz
    obtain ⟨zv, hz1, hz2, _, _⟩ := run_zero hT hti hz
    have hu := run_und hT hi w
    simp only [opK] at h
    split at h
    · rename_i he
      rw [he] at rx
      have hp := rel_nils_inv rx
      exact .val (v' := .tuple #[]) hr h (.undef _) (by simp [builtin, Builtin.clear_, hp, hu])
    · rename_i id off sz len mn ex he
      rw [he] at rx
      obtain ⟨L, a', cap, hL, hp, hl, h1, h2, h3, h4, h5⟩ := rel_slc_inv rx
      by_cases h0 : len = 0
      · subst h0
        simp only [zcells, stnK] at h
        exact .val (v' := .tuple #[]) hr h (.undef _) (by simp [builtin, Builtin.clear_, hp, hu])
      · have ha := h5 (by omega)
        obtain ⟨σ', w', k1, k2, k3, k4⟩ := stnK_ok P hL _ _ off 0 a' h hr (rel_zeroCells (hz2 ρ) len) (fun _ => by rw [ha]; simp [Addr.add]) (by rw [ha]; rfl)
        refine .inl ⟨.tuple #[], w', ?_, _, _, _, _, k1, .undef _, k3, k4⟩
        obtain ⟨m, rfl⟩ : ∃ m, len = m + 1 := ⟨len - 1, by omega⟩
        simp [builtin, Builtin.clear_, hp, hu, hz1, k2]
    · cases h
  · cases hq

theorem sim_copy (hT : TIok P TI) (ts : Array TypeId) (as : Array Operand) : OpSim P TI gl C (.call { callee := .builtin .copy, args := as, argTypes := ts }) := by
  intro α hd p e φ σ w ρ own K r o ho hc hr hX h
  simp only [cOp] at hc
  obtain ⟨xs, hxs, hq⟩ := obind_some hc
  clear hc
  unfold cBi at hq
  split at hq <;> first | (contradiction) | skip
  rename_i s u X Y _ hts
  obtain ⟨a, b, rfl, hx, hy⟩ := cXs_two hxs
  obtain rfl := arr_two hts
  have rx := hX _ _ hx
  have ry := hX _ _ hy
  rw [run_bi _ _ _ o ho φ]
  split at hq
  · rename_i el s0 b0 z0 el2 s1 b1 z1 hi hi2
    obtain ⟨ti, hti, rfl⟩ := omap_some hq
    have hu := run_und hT hi w
    simp only [opK] at h
    obtain ⟨vs, vs', n, k1, k2, k3, k4, k5, aa, cap, hp⟩ := src_ok (P := P) h ry hr
    split at k1
    · rename_i he
      rw [he] at rx
      have hp2 := rel_nils_inv rx
      have hf := k5 0 (Nat.zero_le _)
      exact .val hr k1 (.int _ _) (by simp [builtin, Builtin.copy_, hp2, hu, k4, run_size hT hti, hf, goInt])
    · rename_i id off sz len mn ex he
      rw [he] at rx
      obtain ⟨L, a', cap', hL, hp2, hl, h1, h2, h3, h4, h5⟩ := rel_slc_inv rx
      have hf := k5 (min n len) (Nat.min_le_left _ _)
      by_cases h0 : len = 0
      · subst h0
        simp only [Nat.min_zero, Nat.zero_mul, List.take_zero, stnK] at k1 hf
        exact .val hr k1 (.int _ _) (by simp [builtin, Builtin.copy_, hp2, hu, k4, run_size hT hti, hf, goInt, storeCells])
      · have ha := h5 (by omega)
        obtain ⟨σ', w', j1, j2, j3, j4⟩ := stnK_ok P hL _ _ off 0 a' k1 hr (k2.take (min n len * ti.size)) (fun _ => by rw [ha]; simp [Addr.add]) (by rw [ha]; rfl)
        refine .inl ⟨_, w', ?_, _, _, _, _, j1, .int _ _, j3, j4⟩
        have hf' : (Builtin.firstCells ti.size (n.min len) (φ b)).run P w = .ok (vs'.take (min n len * ti.size)).toArray w := hf
        simp [builtin, Builtin.copy_, hp2, hu, k4, run_size hT hti, hf', goInt, j2]
    · cases k1
  · rename_i el s0 b0 z0 s1 b1 z1 hi hi2
    split at hq
    · rename_i b3 z3 he3
      cases hq
      have hu := run_und hT hi w
      simp only [opK] at h
      split at h
      · rename_i bs id off sz len mn ex he1 he2
        rw [he1] at ry
        rw [he2] at rx
        obtain ⟨b', hp, hb'⟩ := rel_str_inv ry
        obtain ⟨L, a', cap', hL, hp2, hl, h1, h2, h3, h4, h5⟩ := rel_slc_inv rx
        have hlen : bs.length = b'.size := by rw [← hb', len_bytesL]
        have hrel : RelL ρ (bytesOf (bs.take (min bs.length len))) ((b'.extract 0 (min b'.size len)).data.map fun b => Value.int .u8 b.toNat).toList := by
          refine ⟨?_, fun i x x' e1 e2 => ?_⟩
          · have : ∀ l : List Nat, (bytesOf l).length = l.length := by
              intro l
              induction l with
              | nil => rfl
              | cons a l ih => simp [bytesOf, ih]
            rw [this]
            simp [hlen, ByteArray.data_extract]
          · rw [get_bytesOf, List.getElem?_take] at e1
            simp only [Array.toList_map, List.getElem?_map, ByteArray.data_extract, Array.toList_extract, List.extract_eq_take_drop, List.drop_zero, Nat.sub_zero, List.getElem?_take] at e2
            rw [hlen] at e1
            split at e1
            · rename_i hlt
              rw [if_pos hlt] at e2
              rw [← hb'] at e1
              simp only [bytesL, List.getElem?_map] at e1
              cases hq : b'.data.toList[i]? with
              | none => rw [hq] at e1; cases e1
              | some q =>
                rw [hq] at e1 e2
                cases e1
                cases e2
                exact .int _ _
            · cases e1
        have hf : (Builtin.firstCells 1 (min b'.size len) (.string b')).run P w = .ok ((b'.extract 0 (min b'.size len)).data.map fun b => Value.int .u8 b.toNat) w := rfl
        by_cases h0 : len = 0
        · subst h0
          simp only [Nat.min_zero, List.take_zero, bytesOf, stnK] at h
          simp only [Nat.min_zero] at hf
          refine .val hr h (.int _ _) ?_
          simp [builtin, Builtin.copy_, hp2, hp, hu, Builtin.lenOf, run_size hT he3, hf, goInt, storeCells]
        · have ha := h5 (by omega)
          obtain ⟨σ', w', j1, j2, j3, j4⟩ := stnK_ok P hL _ _ off 0 a' h hr hrel (fun _ => by rw [ha]; simp [Addr.add]) (by rw [ha]; rfl)
          refine .inl ⟨_, w', ?_, _, _, _, _, j1, .int _ _, j3, j4⟩
          rw [hlen]
          have hf' : (Builtin.firstCells 1 (b'.size.min len) (.string b')).run P w = .ok ((b'.extract 0 (min b'.size len)).data.map fun b => Value.int .u8 b.toNat) w := hf
          simp [builtin, Builtin.copy_, hp2, hp, hu, Builtin.lenOf, run_size hT he3, hf', goInt] at j2 ⊢
          simp [j2]
      · cases h
    · cases hq
  · cases hq
end
end Ak
