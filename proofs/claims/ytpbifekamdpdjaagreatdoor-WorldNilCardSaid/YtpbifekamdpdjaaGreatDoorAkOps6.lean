/- Operations: interfaces, functions, maps and rows made; slices of rows. -/
import Derived.Test.YtpbifekamdpdjaaGreatDoorAkOps5
import Derived.Laws.MakeOwn
import Derived.Laws.Build
namespace Ak
open Go
section
variable {P : Program} {TI : TypeId → Option Ti} {gl : List Nat} {C : Cor}

theorem sim_makeInterface (hT : TIok P TI) (t : TypeId) (x : Operand) : OpSim P TI gl C (.makeInterface t x) := by
  intro α hd p e φ σ w ρ own K r o ho hc hr hX h
  simp only [cOp] at hc
  split at hc
  · cases hc
  · rename_i i hne hi
    obtain ⟨X, hx, rfl⟩ := omap_some hc
    simp only [opK] at h
    have rx := hX _ _ hx
    refine .val hr h (.ifc t _ _ rx) ?_
    have hu := run_und hT hi w
    simp only [execOp, ho, Instr.makeInterface, Sem.run_bind, hu, Result.andThen_ok]
    split
    · rename_i x1 hd1
      obtain ⟨d, s, b, z⟩ := i
      simp only at hd1
      subst hd1
      exact absurd rfl (hne _ _ _ _)
    · rfl
  · cases hc

theorem XR.arr {ρ : Rho} {e : X → V} {φ : Operand → Value} (h : XR gl ρ e φ) {xs : Array Operand} {Xs : List X} (hx : cXs gl xs.toList = some Xs) : RelL ρ (Xs.map e) (xs.map φ).toList := by
  have := h.list hx
  simpa using this

theorem rel_fn {ρ : Rho} (f : FuncId) {xs cap : List V} {xs' cap' : Array Value} (h1 : RelL ρ xs xs'.toList) (h2 : RelL ρ cap cap'.toList) : Rel ρ (.fn f xs cap) (.func (.func f) xs' cap') := by
  have := Rel.fn (ρ := ρ) f xs cap xs'.toList cap'.toList h1.1 h1.2 h2.1 h2.2
  simpa using this

theorem sim_makeFunc (fn : Fn) (xs cap : Array Operand) : OpSim P TI gl C (.makeFunc fn xs cap) := by
  intro α hd p e φ σ w ρ own K r o ho hc hr hX h
  cases fn with
  | func f =>
    simp only [cOp] at hc
    split at hc
    · rename_i Xs Cs h1 h2
      cases hc
      simp only [opK] at h
      exact .val hr h (rel_fn f (hX.arr h1) (hX.arr h2)) (by simp [execOp, ho, Instr.makeFunc])
    · cases hc
  | _ => cases hc

theorem mkM_sim {α : Type} {ρ : Rho} {own : Own} {σ : H} {w : World} {K : V → H → Option α} {r : α} (hr : HR C ρ own σ w)
    (h : K (.map σ.next) (σ.push (.map [])) = some r) {res : Result Next} (hres : res = .ok (.value (.map (some w.heap.size))) (w.alloc (.map #[] 0))) : OkV C K r ρ own σ w res := by
  obtain ⟨h1, h2⟩ := HR.push (C := C) hr (.map #[] 0) (.map []) ⟨w.heap.size, 0, 0, 0⟩ rfl ⟨by simp [Own.add], #[], 0, World.alloc_heap_new w _, ⟨.nil _, .nil _⟩, MapKept.stamped_empty _⟩
  refine .inl ⟨_, _, hres, _, _, _, _, h, ?_, h1, h2⟩
  have := Rel.map (ρ := ρ.add σ.next ⟨w.heap.size, 0, 0, 0⟩) σ.next ⟨w.heap.size, 0, 0, 0⟩ (by simp [Rho.add])
  simpa using this

theorem sim_makeMap (hT : TIok P TI) (t : TypeId) (rv : Option Operand) : OpSim P TI gl C (.makeMap t rv) := by
  intro α hd p e φ σ w ρ own K r o ho hc hr hX h
  cases rv with
  | none =>
    cases hc
    simp only [opK] at h
    exact mkM_sim hr h (by simp [execOp, ho, Instr.makeMap])
  | some x =>
    simp only [cOp] at hc
    split at hc
    · rename_i k1 e1 s1 b1 z1 hi
      obtain ⟨X, hx, rfl⟩ := omap_some hc
      simp only [opK] at h
      have rx := hX _ _ hx
      split at h
      · rename_i k n he
        rw [he] at rx
        have hk := rel_int_inv rx
        have hu := run_und hT hi w
        refine mkM_sim hr h ?_
        simp only [execOp, ho, Option.map_some, Instr.makeMap, Sem.run_bind, hu, Result.andThen_ok]
        simp [hk, asInt, asIntOf]
      · cases h
    · cases hc

/-- The cells of noughts, over and over. -/
theorem len_zcells (z : List V) : ∀ n, (zcells z n).length = n * z.length
  | 0 => by simp [zcells]
  | n + 1 => by simp [zcells, len_zcells z n, Nat.succ_mul, Nat.add_comm]
theorem get_zcells (z : List V) : ∀ (n i : Nat), i < n * z.length → (zcells z n)[i]? = z[i % z.length]?
  | 0, i, h => by simp at h
  | n + 1, i, h => by
    simp only [zcells, List.getElem?_append]
    by_cases hi : i < z.length
    · simp only [hi, if_true]; rw [Nat.mod_eq_of_lt hi]
    · simp only [hi, if_false]
      have hs : (n + 1) * z.length = n * z.length + z.length := Nat.succ_mul _ _
      rw [get_zcells z n (i - z.length) (by omega)]
      congr 1
      rw [Nat.mod_eq_sub_mod (by omega : z.length ≤ i)]
theorem rel_made {ρ : Rho} {z : List V} {v : Value} (h : RelL ρ z v.cells.toList) (hp : 0 < z.length) (n i : Nat) (hi : i < n) :
    ∃ v', (madeCells v.cells n)[i]? = some v' ∧ Rel ρ (z.getD (i % z.length) .undef) v' := by
  have hs : v.cells.size = z.length := by have := h.1; simpa using this.symm
  have hm : i % z.length < z.length := Nat.mod_lt _ hp
  obtain ⟨v', e, rv⟩ := h.get (i := i % z.length) (v := z[i % z.length]) (by simp [hm])
  refine ⟨v', ?_, ?_⟩
  · have e' : v.cells[i % z.length]? = some v' := by simpa using e
    have e2 : v.cells[i % z.length]! = v' := by rw [getElem!_def, e']
    simp [madeCells, hs, hi, e2]
  · simpa [List.getD_eq_getElem?_getD, hm] using rv
theorem rel_zeroCells {ρ : Rho} {z : List V} {v : Value} (h : RelL ρ z v.cells.toList) (n : Nat) : RelL ρ (zcells z n) (Builtin.zeroCells v.cells n).toList := by
  have hs : v.cells.size = z.length := by have := h.1; simpa using this.symm
  have hz : Builtin.zeroCells v.cells n = madeCells v.cells (n * v.cells.size) := rfl
  refine ⟨by simp [len_zcells, Builtin.zeroCells, hs], fun i x x' e e' => ?_⟩
  have hi : i < n * z.length := by
    have := (List.getElem?_eq_some_iff.1 e).1
    rwa [len_zcells] at this
  have hp : 0 < z.length := by
    rcases Nat.eq_zero_or_pos z.length with h0 | h0
    · rw [h0] at hi; simp at hi
    · exact h0
  rw [get_zcells z n i hi] at e
  obtain ⟨v', e2, rv⟩ := rel_made h hp (n * v.cells.size) i (by rw [hs]; exact hi)
  rw [hz] at e'
  have e3 : (madeCells v.cells (n * v.cells.size))[i]? = some x' := by simpa using e'
  rw [e2] at e3
  cases e3
  simpa [List.getD_eq_getElem?_getD, e] using rv

theorem natK_ok {α : Type} {v : V} {K : Nat → Option α} {r : α} (h : natK v K = some r) : ∃ k n, v = .int k n ∧ 0 ≤ n ∧ K n.toNat = some r := by
  unfold natK at h
  split at h
  · rename_i k n
    obtain ⟨h1, h2⟩ := bif_then h
    exact ⟨k, n, rfl, by simpa using h1, h2⟩
  · cases h

theorem sim_makeSlice (hT : TIok P TI) (t : TypeId) (l c : Operand) : OpSim P TI gl C (.makeSlice t l c) := by
  intro α hd p e φ σ w ρ own K r o ho hc hr hX h
  simp only [cOp] at hc
  split at hc
  · rename_i el s0 b0 z0 hi
    split at hc
    · rename_i d1 sz bs z L Cc hel hl hcc
      obtain ⟨hg, hc⟩ := bif_then hc
      cases hc
      simp only [Bool.and_eq_true, Nat.beq_eq, blt_iff] at hg
      obtain ⟨⟨hg1, hg2⟩, hg3⟩ := hg
      simp only [opK] at h
      obtain ⟨kl, n, e1, hn, h⟩ := natK_ok h
      obtain ⟨kc, m, e2, hm, h⟩ := natK_ok h
      obtain ⟨hb, h⟩ := bif_then h
      simp only [Bool.and_eq_true, leB_iff, blt_iff] at hb
      obtain ⟨⟨⟨hb1, hb2⟩, hb3⟩, hb4⟩ := hb
      have r1 := hX _ _ hl
      have r2 := hX _ _ hcc
      rw [e1] at r1; rw [e2] at r2
      have p1 := rel_int_inv r1
      have p2 := rel_int_inv r2
      obtain ⟨j, j1, j2, j3, j4⟩ := hT.info _ _ hel
      obtain ⟨v, hv, hv2, _, _⟩ := j4 z rfl
      have hrel := ofSs_rel ρ hv2
      have hm1 : m.toNat ≤ m.toNat * bs := Nat.le_mul_of_pos_right _ hg3
      have hmN : (m.toNat : Int) = m := Int.toNat_of_nonneg hm
      have hbI : (j.bytes : Int) * m ≤ 281474976710656 := by
        rw [j3, ← hmN, ← Int.natCast_mul, Nat.mul_comm]
        simp only at hb2 ⊢
        omega
      have hrun := run_make (P := P) w t el j v (hT.und _ _ hi) j1 hv kl kc n m hn (by omega) hbI (by omega)
      obtain ⟨q1, q2⟩ := push_cells (C := C) hr .lf z (m.toNat * z.length) (m.toNat * z.length) (madeCells v.cells (m.toNat * j.size)) el (Nat.le_refl _)
        (by rw [size_madeCells, j2]; simp only; rw [hg1]; exact Nat.le_refl _) (fun i hi => by
          obtain ⟨v', x1, x2⟩ := rel_made hrel hb4 (m.toNat * j.size) i (by rw [j2]; simp only; rw [← hg1]; exact hi)
          exact ⟨v', x1, by simpa [cget, T.get_lf] using x2⟩)
      refine .inl ⟨.slice (some ⟨w.heap.size, 0, none⟩) n.toNat m.toNat, _, ?_, _, _, _, _, h, ?_, q1, q2⟩
      · simp only [execOp, ho, p1, p2, Sem.run_bind, hrun, Result.andThen_ok, Sem.run_pure]
      · exact .slc σ.next 0 z.length n.toNat m.toNat true ⟨w.heap.size, 0, 0, m.toNat * z.length⟩ ⟨w.heap.size, 0, none⟩ m.toNat (by simp [Rho.add]) (Nat.le_refl _) hb1 (Nat.le_refl _) (fun _ => rfl) (by simp) (fun _ => by simp [Loc.at])
    · cases hc
  · cases hc
end
end Ak
