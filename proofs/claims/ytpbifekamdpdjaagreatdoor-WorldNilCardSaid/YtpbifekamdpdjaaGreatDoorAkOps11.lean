/- Structs, arrays and rows that are built. -/
import Derived.Test.YtpbifekamdpdjaaGreatDoorAkOps10
namespace Ak
open Go
section
variable {P : Program} {TI : TypeId → Option Ti} {gl : List Nat} {C : Cor}

theorem fillF_eq : ∀ (cs : List V) (off : Nat) (vs : List V), off + vs.length ≤ cs.length → fillF cs off vs = some (cs.take off ++ vs ++ cs.drop (off + vs.length))
  | cs, off, [], h => by
    have : fillF cs off [] = some cs := by cases cs <;> cases off <;> rfl
    rw [this]; simp
  | [], off, v :: vs, h => by simp at h
  | c :: cs, 0, v :: vs, h => by
    simp only [fillF]
    rw [fillF_eq cs 0 vs (by simp at h ⊢; omega)]
    simp
  | c :: cs, off + 1, v :: vs, h => by
    simp only [fillF]
    rw [fillF_eq cs off (v :: vs) (by simp at h ⊢; omega)]
    rw [show off + 1 + (v :: vs).length = off + (v :: vs).length + 1 from by omega]
    simp

theorem foldl_set (off : Nat) : ∀ (l : List Value) (k : Nat) (cells : Array Value), off + k + l.length ≤ cells.size →
    ((l.zipIdx k).foldl (fun cs (c, j) => cs.setIfInBounds (off + j) c) cells).toList = cells.toList.take (off + k) ++ l ++ cells.toList.drop (off + k + l.length)
  | [], k, cells, h => by simp
  | v :: l, k, cells, h => by
    simp only [List.length_cons] at h
    simp only [List.zipIdx_cons, List.foldl_cons]
    rw [foldl_set off l (k + 1) (cells.setIfInBounds (off + k) v) (by simp; omega)]
    have hs : cells.toList.length = cells.size := by simp
    apply List.ext_getElem?
    intro i
    simp only [Array.toList_setIfInBounds, List.getElem?_append, List.length_append, List.length_take, List.length_set, List.getElem?_take, List.getElem?_set, List.getElem?_drop, List.length_cons, hs]
    by_cases h1 : i < off + k
    · have e1 : i < min (off + (k + 1)) cells.size := by omega
      have e2 : i < min (off + k) cells.size := by omega
      have e3 : i < min (off + (k + 1)) cells.size + l.length := by omega
      have e4 : i < min (off + k) cells.size + (l.length + 1) := by omega
      have e5 : i < off + (k + 1) := by omega
      have e6 : ¬ (off + k = i) := by omega
      simp [e1, e2, e3, e4, e5, e6, h1]
    · by_cases h2 : i = off + k
      · subst h2
        have e1 : off + k < min (off + (k + 1)) cells.size := by omega
        have e2 : ¬ (off + k < min (off + k) cells.size) := by omega
        have e3 : off + k < min (off + (k + 1)) cells.size + l.length := by omega
        have e4 : off + k < min (off + k) cells.size + (l.length + 1) := by omega
        have e5 : off + k < off + (k + 1) := by omega
        have e6 : off + k < cells.size := by omega
        have e7 : off + k - min (off + k) cells.size = 0 := by omega
        simp [e1, e2, e3, e4, e5, e6, e7]
      · by_cases h3 : i < off + k + (l.length + 1)
        · have e1 : ¬ (i < min (off + (k + 1)) cells.size) := by omega
          have e2 : ¬ (i < min (off + k) cells.size) := by omega
          have e3 : i < min (off + (k + 1)) cells.size + l.length := by omega
          have e4 : i < min (off + k) cells.size + (l.length + 1) := by omega
          have e7 : i - min (off + k) cells.size = (i - min (off + (k + 1)) cells.size) + 1 := by omega
          simp [e1, e2, e3, e4, e7]
        · have e3 : ¬ (i < min (off + (k + 1)) cells.size + l.length) := by omega
          have e4 : ¬ (i < min (off + k) cells.size + (l.length + 1)) := by omega
          have e6 : ¬ (off + k = off + (k + 1) + l.length + (i - (min (off + (k + 1)) cells.size + l.length))) := by omega
          have e8 : off + (k + 1) + l.length + (i - (min (off + (k + 1)) cells.size + l.length)) = off + k + (l.length + 1) + (i - (min (off + k) cells.size + (l.length + 1))) := by omega
          simp only [e3, e4, if_false]
          rw [if_neg e6, e8]

theorem fill_ok {ρ : Rho} {e : X → V} {φ : Operand → Value} (hX : XR gl ρ e φ) (place : Nat → Option (Nat × Nat)) : ∀ (ps : List (Nat × Operand)) (as : List (Nat × Nat × X)) (cs r : List V) (cs' : Array Value),
    buildL e cs as = some r → RelL ρ cs cs'.toList → (List.length ps = as.length) → (∀ (j i : Nat) (x : Operand) (off n : Nat) (X : X), ps[j]? = some (i, x) → as[j]? = some (off, n, X) → place i = some (off, n) ∧ cX gl x = some X) →
    ∃ r' : Array Value, Instr.fill place cs' (ps.map fun (i, x) => (i, φ x)) = some r' ∧ RelL ρ r r'.toList
  | [], [], cs, r, cs', h, hr, _, _ => by cases h; exact ⟨cs', rfl, hr⟩
  | [], a :: as, cs, r, cs', h, hr, hl, _ => by cases hl
  | p :: ps, [], cs, r, cs', h, hr, hl, _ => by cases hl
  | (i, x) :: ps, (off, n, X) :: as, cs, r, cs', h, hr, hl, hp => by
    obtain ⟨hpl, hx⟩ := hp 0 i x off n X rfl rfl
    simp only [buildL] at h
    obtain ⟨hg, h⟩ := bif_then h
    simp only [Bool.and_eq_true, Nat.beq_eq, leB_iff] at hg
    obtain ⟨⟨g1, g2⟩, g3⟩ := hg
    have rv := rel_cells (hX _ _ hx) (allOne_ne g3)
    rw [fillF_eq cs off _ (by rw [g1]; exact g2)] at h
    have hsz : (φ x).cells.size = n := by have := rv.1; rw [g1] at this; simpa using this.symm
    have hcs : cs.length = cs'.size := by have := hr.1; simpa using this
    have hset := foldl_set off (φ x).cells.toList 0 cs' (by simp [hsz]; omega)
    obtain ⟨r', k1, k2⟩ := fill_ok hX place ps as _ r ((φ x).cells.zipIdx.foldl (fun cs (c, j) => cs.setIfInBounds (off + j) c) cs') h (by
      have e9 : ((φ x).cells.zipIdx.foldl (fun cs (c, j) => cs.setIfInBounds (off + j) c) cs').toList = cs'.toList.take off ++ (φ x).cells.toList ++ cs'.toList.drop (off + (φ x).cells.toList.length) := by
        rw [← Array.foldl_toList, Array.toList_zipIdx]
        simpa using hset
      rw [e9]
      have hd : (e X).cells.length = (φ x).cells.toList.length := rv.1
      rw [hd]
      exact ((hr.take off).append rv).append (hr.drop _)) (by simpa using hl) (fun j i x off n X h1 h2 => hp (j + 1) i x off n X (by simpa using h1) (by simpa using h2))
    refine ⟨r', ?_, k2⟩
    simp only [List.map_cons, Instr.fill, hpl]
    have hlt : ((φ x).cells.size ≠ n || off + (φ x).cells.size > cs'.size) = false := by
      rw [hsz]
      simp
      omega
    rw [if_neg (by rw [hlt]; simp)]
    exact k1

theorem partsS_ok (hT : TIok P TI) {pl : List (Nat × Nat)} : ∀ {ps : List (Nat × Operand)} {as : List (Nat × Nat × X)}, partsS gl pl ps = some as → ps.length = as.length ∧
    ∀ (j i : Nat) (x : Operand) (off n : Nat) (X : X), ps[j]? = some (i, x) → as[j]? = some (off, n, X) → pl[i]? = some (off, n) ∧ cX gl x = some X
  | [], as, h => by cases h; exact ⟨rfl, fun j i x off n X h1 => by simp at h1⟩
  | (i0, x0) :: ps, as, h => by
    simp only [partsS] at h
    split at h
    · rename_i off0 n0 X0 r h1 h2 h3
      cases h
      obtain ⟨k1, k2⟩ := partsS_ok hT h3
      refine ⟨by simp [k1], fun j i x off n X e1 e2 => ?_⟩
      cases j with
      | zero => simp at e1 e2; obtain ⟨rfl, rfl⟩ := e1; obtain ⟨rfl, rfl, rfl⟩ := e2; exact ⟨h1, h2⟩
      | succ j => exact k2 j i x off n X (by simpa using e1) (by simpa using e2)
    · cases h
theorem partsA_ok {sz : Nat} : ∀ {ps : List (Nat × Operand)} {as : List (Nat × Nat × X)}, partsA gl sz ps = some as → ps.length = as.length ∧
    ∀ (j i : Nat) (x : Operand) (off n : Nat) (X : X), ps[j]? = some (i, x) → as[j]? = some (off, n, X) → (off = i * sz ∧ n = sz) ∧ cX gl x = some X
  | [], as, h => by cases h; exact ⟨rfl, fun j i x off n X h1 => by simp at h1⟩
  | (i0, x0) :: ps, as, h => by
    simp only [partsA] at h
    split at h
    · rename_i X0 r h2 h3
      cases h
      obtain ⟨k1, k2⟩ := partsA_ok h3
      refine ⟨by simp [k1], fun j i x off n X e1 e2 => ?_⟩
      cases j with
      | zero => simp at e1 e2; obtain ⟨rfl, rfl⟩ := e1; obtain ⟨rfl, rfl, rfl⟩ := e2; exact ⟨⟨rfl, rfl⟩, h2⟩
      | succ j => exact k2 j i x off n X (by simpa using e1) (by simpa using e2)
    · cases h
theorem partsL_ok : ∀ {ps : List (Nat × Operand)} {as : List (Nat × X)}, partsL gl ps = some as → ps.length = as.length ∧
    ∀ (j i : Nat) (x : Operand) (i' : Nat) (X : X), ps[j]? = some (i, x) → as[j]? = some (i', X) → i' = i ∧ cX gl x = some X
  | [], as, h => by cases h; exact ⟨rfl, fun j i x off X h1 => by simp at h1⟩
  | (i0, x0) :: ps, as, h => by
    simp only [partsL] at h
    split at h
    · rename_i X0 r h2 h3
      cases h
      obtain ⟨k1, k2⟩ := partsL_ok h3
      refine ⟨by simp [k1], fun j i x i' X e1 e2 => ?_⟩
      cases j with
      | zero => simp at e1 e2; obtain ⟨rfl, rfl⟩ := e1; obtain ⟨rfl, rfl⟩ := e2; exact ⟨rfl, h2⟩
      | succ j => exact k2 j i x i' X (by simpa using e1) (by simpa using e2)
    · cases h

theorem fieldsAt_ok (hT : TIok P TI) : ∀ {fs : List Field} {pl : List (Nat × Nat)}, fieldsAt TI fs = some pl → ∀ w, (fs.mapM (m := Sem) fun f => do pure (f.offset, ← Go.sizeOf f.type)).run P w = .ok pl w
  | [], pl, h, w => by cases h; rfl
  | f :: fs, pl, h, w => by
    simp only [fieldsAt] at h
    split at h
    · rename_i i r h1 h2
      cases h
      simp only [List.mapM_cons, Sem.run_bind, run_size hT h1, Result.andThen_ok, Sem.run_pure, fieldsAt_ok hT h2]
    · cases h

theorem sim_build (hT : TIok P TI) (t : TypeId) (ps : Array (Nat × Operand)) : OpSim P TI gl C (.build t ps) := by
  intro α hd p e φ σ w ρ own K r o ho hc hr hX h
  simp only [cOp] at hc
  split at hc
  · rename_i fs s0 b0 z hi
    split at hc
    · rename_i pl hpl
      obtain ⟨as, has, rfl⟩ := omap_some hc
      simp only [opK] at h
      split at h
      · rename_i cs hcs
        obtain ⟨zv, hz1, hz2, _, _⟩ := run_zero hT hi rfl
        obtain ⟨q1, q2⟩ := partsS_ok hT has
        obtain ⟨r', k1, k2⟩ := fill_ok hX (pl.toArray[·]?) ps.toList as z cs zv.cells hcs (hz2 ρ) q1 (fun j i x off n X e1 e2 => by
          obtain ⟨a, b⟩ := q2 j i x off n X e1 e2
          exact ⟨by simpa using a, b⟩)
        refine .val hr h (rel_agg k2) ?_
        have hm : (fs.mapM fun f => do pure (f.offset, ← Go.sizeOf f.type) : Sem (Array (Nat × Nat))).run P w = .ok pl.toArray w := by
          rw [Array.mapM_eq_mapM_toList]
          simp only [Sem.run_map, fieldsAt_ok hT hpl, Result.andThen_ok]
        have hu := run_und hT hi w
        simp only [execOp, ho, Instr.build, Sem.run_bind, hz1, hu, hm, Result.andThen_ok]
        have : (ps.map fun (i, x) => (i, φ x)).toList = ps.toList.map fun (i, x) => (i, φ x) := by simp
        rw [this, k1]
        simp
      · cases h
    · cases hc
  · rename_i n el s0 b0 z hi
    split at hc
    · rename_i ti hti
      obtain ⟨as, has, rfl⟩ := omap_some hc
      simp only [opK] at h
      split at h
      · rename_i cs hcs
        obtain ⟨zv, hz1, hz2, _, _⟩ := run_zero hT hi rfl
        obtain ⟨q1, q2⟩ := partsA_ok has
        obtain ⟨r', k1, k2⟩ := fill_ok hX (fun i => some (i * ti.size, ti.size)) ps.toList as z cs zv.cells hcs (hz2 ρ) q1 (fun j i x off n X e1 e2 => by
          obtain ⟨⟨rfl, rfl⟩, b⟩ := q2 j i x off n X e1 e2
          exact ⟨rfl, b⟩)
        refine .val hr h (rel_agg k2) ?_
        have hu := run_und hT hi w
        simp only [execOp, ho, Instr.build, Sem.run_bind, hz1, hu, run_size hT hti, Result.andThen_ok]
        have : (ps.map fun (i, x) => (i, φ x)).toList = ps.toList.map fun (i, x) => (i, φ x) := by simp
        rw [this, k1]
        simp
      · cases h
    · cases hc
  · cases hc

theorem sim_buildSlice (hT : TIok P TI) (t : TypeId) (len : Nat) (ps : Array (Nat × Operand)) : OpSim P TI gl C (.buildSlice t len ps) := by
  intro α hd p e φ σ w ρ own K r o ho hc hr hX h
  simp only [cOp] at hc
  split at hc
  · rename_i el s0 b0 z0 hi
    split at hc
    · rename_i d sz bs z hel
      obtain ⟨hg, hc⟩ := bif_then hc
      obtain ⟨as, has, rfl⟩ := omap_some hc
      simp only [Bool.and_eq_true, Nat.beq_eq, blt_iff, leB_iff] at hg
      obtain ⟨⟨rfl, hg2⟩, hg3⟩ := hg
      simp only [opK] at h
      split at h
      · rename_i cs hcs
        obtain ⟨hone, h⟩ := bif_then h
        obtain ⟨zv, hz1, hz2, _, _⟩ := run_zero hT hel rfl
        obtain ⟨q1, q2⟩ := partsL_ok has
        have hzs : zv.cells.size = z.length := by have := (hz2 ρ).1; simpa using this.symm
        have hbase := rel_zeroCells (hz2 ρ) len
        obtain ⟨r', k1, k2⟩ := fill_ok hX (fun i => some (i * z.length, z.length)) ps.toList (as.map fun (i, x) => (i * z.length, z.length, x)) (zcells z len) cs (Builtin.zeroCells zv.cells len) hcs hbase (by simpa using q1) (fun j i x off n X e1 e2 => by
          simp only [List.getElem?_map] at e2
          cases hq : as[j]? with
          | none => rw [hq] at e2; cases e2
          | some q =>
            obtain ⟨i', X'⟩ := q
            rw [hq] at e2
            simp only [Option.map_some, Option.some.injEq, Prod.mk.injEq] at e2
            obtain ⟨rfl, rfl, rfl⟩ := e2
            obtain ⟨rfl, b⟩ := q2 j i x i' X' e1 hq
            exact ⟨rfl, b⟩)
        have hlen : cs.length = len * z.length := by
          have hpres : ∀ (as : List (Nat × Nat × X)) (c r : List V), buildL e c as = some r → r.length = c.length := by
            intro as
            induction as with
            | nil => intro c r h; cases h; rfl
            | cons a as ih =>
              intro c r h
              obtain ⟨off, n, x⟩ := a
              simp only [buildL] at h
              obtain ⟨hg, h⟩ := bif_then h
              simp only [Bool.and_eq_true, Nat.beq_eq, leB_iff] at hg
              rw [fillF_eq c off _ (by rw [hg.1.1]; exact hg.1.2)] at h
              rw [ih _ _ h]
              simp [hg.1.1]
              omega
          rw [hpres _ _ _ hcs, len_zcells]
        obtain ⟨p1, p2⟩ := push_tof (C := C) hr k2 el
        rw [hlen] at p1 p2
        refine .inl ⟨.slice (some ⟨w.heap.size, 0, none⟩) len len, _, ?_, _, _, _, _, h, ?_, p1, p2⟩
        · have hu := run_und hT hi w
          have hmc : ((Array.range (len * z.length)).map fun x => zv.cells[x % zv.cells.size]!) = Builtin.zeroCells zv.cells len := by rw [← hzs]; rfl

          have hlim : ¬ (len * z.length > 2 ^ 24) := by omega
          simp only [execOp, ho, Instr.buildSlice, Sem.run_bind, hu, run_size hT hel, Result.andThen_ok]
          by_cases h0 : len * z.length = 0
          · have hz0 : Builtin.zeroCells zv.cells len = #[] := by
              rw [← hmc, h0, Array.range_zero']; simp
            rw [hz0] at k1
            have h00 : len = 0 := by
              rcases Nat.mul_eq_zero.1 h0 with h1 | h1
              · exact h1
              · omega
            subst h00
            simp [k1, newRow, Array.range_zero']
          · simp [hlim, h0, hz1, hmc, k1, newRow]
        · exact .slc σ.next 0 z.length len len true ⟨w.heap.size, 0, 0, len * z.length⟩ _ len (by simp [Rho.add]) (Nat.le_refl _) (Nat.le_refl _) (Nat.le_refl _) (fun _ => rfl) (by simp) (fun _ => by simp [Loc.at])
      · cases h
    · cases hc
  · cases hc
end
end Ak
