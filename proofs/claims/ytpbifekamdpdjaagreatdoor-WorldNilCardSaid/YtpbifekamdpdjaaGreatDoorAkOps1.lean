/- Operations, one by one: those of plain values, boxes, loads and stores. -/
import Derived.Test.YtpbifekamdpdjaaGreatDoorAkOps
import Derived.Laws.Strings
namespace Ak
open Go

/-- An operation without a call, abstract and of the machine. -/
def OpSim (P : Program) (TI : TypeId → Option Ti) (gl : List Nat) (C : Cor) (op : Op) : Prop :=
  ∀ ⦃α : Type⦄ (hd : Hd α) (p : Ap) (e : X → V) (φ : Operand → Value) (σ : H) (w : World) (ρ : Rho) (own : Own) (K : V → H → Option α) (r : α) (o : Oper),
    o.op = op → cOp TI gl op = some p → HR C ρ own σ w → XR gl ρ e φ → opK hd p e σ K = some r → OkV C K r ρ own σ w ((execOp φ o).run P w)

theorem omap_some {α β : Type} {f : α → β} {x : Option α} {b : β} (h : x.map f = some b) : ∃ a, x = some a ∧ f a = b := by
  cases x with
  | none => cases h
  | some a => cases h; exact ⟨a, rfl, rfl⟩
theorem obind_some {α β : Type} {f : α → Option β} {x : Option α} {b : β} (h : x.bind f = some b) : ∃ a, x = some a ∧ f a = some b := by
  cases x with
  | none => cases h
  | some a => exact ⟨a, rfl, h⟩

theorem rel_int_inv {ρ : Rho} {k : IntKind} {n : Int} {v' : Value} (h : Rel ρ (.int k n) v') : v' = .int k n := by cases h; rfl
theorem rel_bool_inv {ρ : Rho} {b : Bool} {v' : Value} (h : Rel ρ (.bool b) v') : v' = .bool b := by cases h; rfl
theorem rel_str_inv {ρ : Rho} {s : List Nat} {v' : Value} (h : Rel ρ (.str s) v') : ∃ b, v' = .string b ∧ bytesL b = s := by cases h; exact ⟨_, rfl, by assumption⟩

section
variable {P : Program} {TI : TypeId → Option Ti} {gl : List Nat} {C : Cor}

theorem sim_move (x : Operand) : OpSim P TI gl C (.move x) := by
  intro α hd p e φ σ w ρ own K r o ho hc hr hX h
  simp only [cOp] at hc
  obtain ⟨X, hx, rfl⟩ := omap_some hc
  simp only [opK] at h
  exact .val hr h (hX _ _ hx) (by simp [execOp, ho])
theorem sim_assign (x : Operand) : OpSim P TI gl C (.assign x) := by
  intro α hd p e φ σ w ρ own K r o ho hc hr hX h
  simp only [cOp] at hc
  obtain ⟨X, hx, rfl⟩ := omap_some hc
  simp only [opK] at h
  exact .val hr h (hX _ _ hx) (by simp [execOp, ho])

theorem sim_pick (c a b : Operand) : OpSim P TI gl C (.pick c a b) := by
  intro α hd p e φ σ w ρ own K r o ho hc hr hX h
  simp only [cOp] at hc
  split at hc
  · rename_i c' a' b' e1 e2 e3
    cases hc
    simp only [opK] at h
    have r1 := hX _ _ e1
    have r2 := hX _ _ e2
    have r3 := hX _ _ e3
    split at h
    · rename_i t et
      rw [et] at r1
      have hct : φ c = .bool t := rel_bool_inv r1
      have hrun : (execOp φ o).run P w = .ok (.value (if t then φ a else φ b)) w := by
        simp only [execOp, ho, hct, asBool]
        cases t <;> simp
      split at h
      · rename_i p q ep eq
        rw [ep] at r2; rw [eq] at r3
        have ha : φ a = .bool p := rel_bool_inv r2
        have hb : φ b = .bool q := rel_bool_inv r3
        refine .val hr h ?_ hrun
        rw [ha, hb]
        cases t <;> exact .bool _
      · obtain ⟨ht, hK⟩ | ⟨ht, hK⟩ := bif_some h
        · subst ht; exact .val hr hK r2 hrun
        · subst ht; exact .val hr hK r3 hrun
    · cases h
  · cases hc

theorem allOne_ne {v : V} (h : allOne v.cells = true) : v ≠ .undef := by
  rintro rfl
  simp [V.cells, allOne, V.one] at h

theorem sim_alloc (hT : TIok P TI) (t : TypeId) : OpSim P TI gl C (.alloc t) := by
  intro α hd p e φ σ w ρ own K r o ho hc hr hX h
  simp only [cOp] at hc
  obtain ⟨z, hz, rfl⟩ := omap_some hc
  obtain ⟨i, hi, hz⟩ := obind_some hz
  simp only [opK] at h
  obtain ⟨_, h⟩ := bif_then h
  obtain ⟨v, hv, hl, _, _⟩ := run_zero hT hi hz
  have := box_sim (P := P) (C := C) hr (v := v) (hl ρ) t h
  simpa [execOp, ho, Instr.alloc, hv] using this
theorem sim_box (t : TypeId) (x : Operand) : OpSim P TI gl C (.box t x) := by
  intro α hd p e φ σ w ρ own K r o ho hc hr hX h
  simp only [cOp] at hc
  obtain ⟨X, hx, rfl⟩ := omap_some hc
  simp only [opK] at h
  obtain ⟨h1, h⟩ := bif_then h
  have := box_sim (P := P) (C := C) hr (v := φ x) (rel_cells (hX _ _ hx) (allOne_ne h1)) t h
  simpa [execOp, ho, Instr.box] using this

theorem sim_load (hT : TIok P TI) (t : TypeId) (a : Operand) : OpSim P TI gl C (.load t a) := by
  intro α hd p e φ σ w ρ own K r o ho hc hr hX h
  simp only [cOp] at hc
  split at hc
  · rename_i i A hi ha
    have ra := hX _ _ ha
    have key : ∀ id off, e A = .ptr id off → (if isAg i.d then ldnK σ id off i.size fun cs => K (.agg cs) σ else ldK σ id off fun v => K v σ) = some r → OkV C K r ρ own σ w ((execOp φ o).run P w) := by
      intro id off he hk
      rw [he] at ra
      cases hp : φ a with
      | pointer q =>
        cases q with
        | none => rw [hp] at ra; cases ra
        | some ad =>
          rw [hp] at ra
          obtain ⟨v, v', k1, k2, k3⟩ := loadVar_sim hT hr hi ra (K := fun v => K v σ) hk
          exact .val hr k1 k3 (by simp [execOp, ho, hp, Instr.loadAt, Instr.sureAddr, k2])
      | _ => rw [hp] at ra; cases ra
    obtain ⟨hg, hc⟩ | ⟨hg, hc⟩ := bif_some hc
    · cases hc
      simp only [opK] at h
      split at h
      · rename_i id off he
        exact key id off he (by simp [hg, h])
      · cases h
    · cases hc
      simp only [opK] at h
      split at h
      · rename_i id off he
        exact key id off he (by simp [hg, h])
      · cases h
  · cases hc

theorem rel_ptr_inv {ρ : Rho} {id off : Nat} {v' : Value} (h : Rel ρ (.ptr id off) v') : ∃ L, ρ id = some L ∧ L.lo ≤ off ∧ v' = .pointer (some (L.at off)) := by
  cases h with
  | ptr _ _ L h hl => exact ⟨L, h, hl, rfl⟩

theorem sim_store (hT : TIok P TI) (t : TypeId) (a v : Operand) : OpSim P TI gl C (.store t a v) := by
  intro α hd p e φ σ w ρ own K r o ho hc hr hX h
  simp only [cOp] at hc
  split at hc
  · rename_i i A X hi ha hx
    cases hc
    simp only [opK] at h
    split at h
    · rename_i id off he
      have ra := hX _ _ ha
      rw [he] at ra
      obtain ⟨L, hL, hl, hp⟩ := rel_ptr_inv ra
      obtain ⟨hs, h⟩ := bif_then h
      have hs : (e X).cells.length = i.size := by simpa using hs
      by_cases hu : e X = .undef
      · -- an undefined value is stored nowhere
        rw [hu] at h
        simp only [V.cells, stnK, st1K] at h
        split at h
        · simp [V.one] at h
        · cases h
      · have rv := rel_cells (hX _ _ hx) hu
        obtain ⟨σ', w', k1, k2, k3, k4⟩ := stnK_ok P hL _ _ off 0 (L.at off) h hr rv (fun _ => rfl) rfl
        refine .inr ⟨w', ?_, .undef, σ', ρ, own, k1, .undef _, k3, k4⟩
        have hsz : (φ v).cells.size = i.size := by rw [← hs, rv.1]; simp
        simp [execOp, ho, Instr.storeAt, hp, Instr.sureAddr, storeVar, run_size hT hi, hsz, k2]
    · cases h
  · cases hc

theorem sim_nilCheck (x : Operand) : OpSim P TI gl C (.nilCheck x) := by
  intro α hd p e φ σ w ρ own K r o ho hc hr hX h
  simp only [cOp] at hc
  obtain ⟨X, hx, rfl⟩ := omap_some hc
  simp only [opK] at h
  have rx := hX _ _ hx
  split at h
  · rename_i id off he
    rw [he] at rx
    obtain ⟨L, _, _, hp⟩ := rel_ptr_inv rx
    exact .val hr h rx (by simp [execOp, ho, hp])
  · rename_i f xs cap he
    rw [he] at rx
    refine .val hr h rx ?_
    cases hp : φ x with
    | func fn a b =>
      rw [hp] at rx
      cases rx
      simp [execOp, ho, hp]
    | _ => rw [hp] at rx; cases rx
  · rename_i l he
    rw [he] at rx
    refine .val hr h rx ?_
    cases hp : φ x with
    | func fn a b =>
      rw [hp] at rx
      cases rx
      simp [execOp, ho, hp]
    | _ => rw [hp] at rx; cases rx
  · rename_i t v he
    rw [he] at rx
    refine .val hr h rx ?_
    cases hp : φ x with
    | iface t v => simp [execOp, ho, hp]
    | _ => rw [hp] at rx; cases rx
  · cases h

theorem strEq_iff : ∀ (a b : List Nat), strEq a b = decide (a = b)
  | [], [] => by simp [strEq]
  | [], _ :: _ => by simp [strEq]
  | _ :: _, [] => by simp [strEq]
  | a :: x, b :: y => by
    simp only [strEq, strEq_iff x y, List.cons.injEq, Bool.decide_and]
    congr 1
    rw [Bool.eq_iff_iff]; simp

theorem bytes_inj {a b : ByteArray} (h : bytesL a = bytesL b) : a = b := by
  unfold bytesL at h
  have inj : ∀ (x y : UInt8), x.toNat = y.toNat → x = y := fun x y e => UInt8.toNat_inj.1 e
  have h2 : a.data.toList = b.data.toList := (List.map_inj_right (l := a.data.toList) (l' := b.data.toList) (f := UInt8.toNat) inj).1 h
  cases a with
  | mk a => cases b with
    | mk b => simp at h2; rw [h2]

theorem toList_bytes (a : ByteArray) : a.toList.map UInt8.toNat = bytesL a := by
  unfold bytesL; rw [ByteArray.toList_eq]
end
end Ak
