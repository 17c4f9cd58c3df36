/- Operations: conversions, slices, fields, elements. -/
import Derived.Test.YtpbifekamdpdjaaGreatDoorAkOps4
import Derived.Laws.Slices
import Derived.Laws.BytesString
namespace Ak
open Go
section
variable {P : Program} {TI : TypeId → Option Ti} {gl : List Nat} {C : Cor}

theorem sim_not (t : TypeId) (x : Operand) : OpSim P TI gl C (.unOp .not t x) := by
  intro α hd p e φ σ w ρ own K r o ho hc hr hX h
  simp only [cOp] at hc
  obtain ⟨X, hx, rfl⟩ := omap_some hc
  simp only [opK] at h
  have rx := hX _ _ hx
  split at h
  · rename_i b he
    rw [he] at rx
    have hp := rel_bool_inv rx
    exact .val hr h (.bool _) (by simp [execOp, ho, hp, Op.unary])
  · cases h
theorem sim_neg (t : TypeId) (x : Operand) : OpSim P TI gl C (.unOp .neg t x) := by
  intro α hd p e φ σ w ρ own K r o ho hc hr hX h
  simp only [cOp] at hc
  obtain ⟨X, hx, rfl⟩ := omap_some hc
  simp only [opK] at h
  have rx := hX _ _ hx
  split at h
  · rename_i k n he
    rw [he] at rx
    have hp := rel_int_inv rx
    exact .val hr h (.int _ _) (by simp [execOp, ho, hp, Op.unary, Op.intArith, wrapF])
  · cases h

theorem rel_slc_inv {ρ : Rho} {id off sz len mn : Nat} {ex : Bool} {v' : Value} (h : Rel ρ (.slc id off sz len mn ex) v') :
    ∃ L a cap, ρ id = some L ∧ v' = .slice (some a) len cap ∧ L.lo ≤ off ∧ len ≤ cap ∧ mn ≤ cap ∧ (ex = true → cap = mn) ∧ off - L.lo + cap * sz ≤ L.top ∧ (cap ≠ 0 → a = L.at off) := by
  cases h with
  | slc _ _ _ _ _ _ L a cap h hl h1 h2 h3 h4 h5 => exact ⟨L, a, cap, h, rfl, hl, h1, h2, h3, h4, h5⟩
theorem rel_nils_inv {ρ : Rho} {v' : Value} (h : Rel ρ .nils v') : v' = .slice none 0 0 := by cases h; rfl

/-- Bytes of a row of cells. -/
def byteOk : List V → List Value → Prop
  | [], [] => True
  | .int .u8 n :: vs, .int .u8 m :: ws => n = m ∧ byteOk vs ws
  | _, _ => False
theorem strOf_ok {ρ : Rho} : ∀ {vs : List V} {vs' : List Value} {s : List Nat}, strOf vs = some s → RelL ρ vs vs' → ∃ ns : List Int, vs' = ns.map (fun n => Value.int .u8 n) ∧ s = ns.map (fun n => n.toNat % 256)
  | [], vs', s, h, hr => by cases h; obtain rfl := hr.nil_inv; exact ⟨[], rfl, rfl⟩
  | v :: vs, vs', s, h, hr => by
    obtain ⟨v', ws, rfl, h1, h2⟩ := hr.cons_inv
    unfold strOf at h
    split at h
    · rename_i heq; cases heq
    · rename_i n vs0 heq
      cases heq
      split at h
      · rename_i bs hb
        cases h
        obtain ⟨ns, rfl, rfl⟩ := strOf_ok hb h2
        exact ⟨n :: ns, by rw [rel_int_inv h1]; rfl, rfl⟩
      · cases h
    · cases h


theorem push_bytes (ns : List Int) : ∀ (s : ByteArray), bytesL (ns.foldl (fun r n => r.push (UInt8.ofNat n.toNat)) s) = bytesL s ++ ns.map (fun n => n.toNat % 256) := by
  induction ns with
  | nil => intro s; simp
  | cons n ns ih =>
    intro s
    simp only [List.foldl_cons, ih, List.map_cons]
    have : bytesL (s.push (UInt8.ofNat n.toNat)) = bytesL s ++ [n.toNat % 256] := by
      unfold bytesL
      simp [ByteArray.push]
    rw [this]; simp

section
variable {α : Type} {ρ : Rho} {own : Own} {σ : H} {w : World}
/-- What is handed to append or copy. -/
theorem src_ok {sz : Nat} {v : V} {v' : Value} {K : List V → Nat → Option α} {r : α} (h : srcK σ sz v K = some r) (hv : Rel ρ v v') (hr : HR C ρ own σ w) :
    ∃ vs vs' n, K vs n = some r ∧ RelL ρ vs vs' ∧ vs'.length = n * sz ∧ (Builtin.lenOf v').run P w = .ok n w ∧ (∀ m, m ≤ n → (Builtin.firstCells sz m v').run P w = .ok (vs'.take (m * sz)).toArray w) ∧
      (∃ a cap, v' = .slice a n cap) := by
  unfold srcK at h
  split at h
  · rename_i id off s0 len mn ex
    obtain ⟨L, a, cap, hL, rfl, hl, h1, h2, h3, h4, h5⟩ := rel_slc_inv hv
    obtain ⟨h0, vs, vs', k1, k2, k3, k4⟩ := ldnK_ok hr hL _ _ h
    refine ⟨vs, vs', len, k1, k2, k3, by simp [Builtin.lenOf], fun m hm => ?_, some a, cap, rfl⟩
    simp only [Builtin.firstCells]
    by_cases hc : cap = 0
    · have : m = 0 := by omega
      subst this
      simp [loadCells, loadCellsFrom]
    · have ha := h5 hc
      have hlen : (vs'.take (m * sz)).length = m * sz := by
        have : m * sz ≤ len * sz := Nat.mul_le_mul_right _ hm
        rw [List.length_take, k3]; omega
      have := run_loadCells_list (P := P) w a (vs'.take (m * sz)) (fun j x e => by
        rw [ha, Loc.at_add hl]
        refine k4 j x ?_
        simp only [List.getElem?_take] at e
        split at e
        · exact e
        · cases e)
      rw [hlen] at this
      exact this
  · obtain rfl := rel_nils_inv hv
    exact ⟨[], [], 0, h, .nil ρ, by simp, by simp [Builtin.lenOf], fun m hm => by rw [show m = 0 from by omega]; simp [Builtin.firstCells], none, 0, rfl⟩
  · cases h

theorem get_bytesOf : ∀ (l : List Nat) (i : Nat), (bytesOf l)[i]? = (l[i]?).map fun n => V.int .u8 (Int.ofNat n)
  | [], i => by simp [bytesOf]
  | a :: l, i => by cases i <;> simp [bytesOf, get_bytesOf l]

theorem freeze_alloc (w : World) (c : Array Value) (e : TypeId) (n : Nat) : (w.alloc (.cells c e)).freeze ⟨w.heap.size, n, none⟩ 1 = w.alloc (.cells c e (n, n + 1)) := by
  have hp : ∀ (o : Obj) (f : Obj → Obj), (w.heap.push o).modify w.heap.size f = w.heap.push (f o) := by
    intro o f
    apply Array.ext
    · simp
    · intro i h1 h2
      simp only [Array.getElem_modify, Array.getElem_push]
      by_cases hi : i < w.heap.size
      · simp [hi]; intro hh; omega
      · have : w.heap.size = i := by simp at h1; omega
        simp [this]
  unfold World.freeze World.alloc
  simp [hp]
end

theorem sim_convert (hT : TIok P TI) (s d : TypeId) (x : Operand) : OpSim P TI gl C (.convert s d x) := by
  intro α hd p e φ σ w ρ own K r o ho hc hr hX h
  simp only [cOp] at hc
  obtain ⟨X, hx, hc⟩ := obind_some hc
  have rx := hX _ _ hx
  unfold cConv at hc
  split at hc
  · rename_i k1 a1 b1 z1 k2 a2 b2 z2 hs hd2
    cases hc
    simp only [opK] at h
    split at h
    · rename_i k n he
      rw [he] at rx
      have hp := rel_int_inv rx
      have u1 := run_und hT hs w
      have u2 := run_und hT hd2 w
      exact .val hr h (.int _ _) (by simp [execOp, ho, hp, convert, u1, u2, Conv.intToInt, wrapF])
    · cases h
  · rename_i hs hd2
    cases hc
    simp only [opK] at h
    split at h
    · rename_i b he
      rw [he] at rx
      obtain ⟨b', hp, hb⟩ := rel_str_inv rx
      have u1 := run_und hT hs w
      have u2 := run_und hT hd2 w
      exact .val hr h (.str _ _ hb) (by simp [execOp, ho, hp, convert, u1, u2])
    · cases h
  · rename_i e1 a2 b2 z2 hs hd2
    split at hc
    · rename_i b3 z3 he3
      cases hc
      simp only [opK] at h
      split at h
      · rename_i b he
        rw [he] at rx
        obtain ⟨b', hp, hb⟩ := rel_str_inv rx
        have u1 := run_und hT hs w
        have u2 := run_und hT hd2 w
        have u3 := run_und hT he3 w
        have hlen : b.length = b'.size := by rw [← hb, len_bytesL]
        obtain ⟨cap, hcap, hrun⟩ : ∃ cap, b'.size ≤ cap ∧ (choose (.appendCap b'.size 0 e1)).run P w = .ok cap w.drew := by
          refine ⟨(Question.appendCap b'.size 0 e1).cut (w.tape w.drawn (.appendCap b'.size 0 e1)), ?_, ?_⟩
          · simp [Question.cut]
          · rw [run_choose]; rfl
        have hdr := hr.drew
        obtain ⟨ar, har⟩ : ∃ ar : Array Value, ar = (b'.data.map fun b => Value.int .u8 b.toNat) ++ Array.replicate (cap - b'.size) (Value.int .u8 0) := ⟨_, rfl⟩
        have hsz : ar.size = cap := by
          have : b'.data.size = b'.size := rfl
          rw [har]; simp; omega
        obtain ⟨q1, q2⟩ := push_cells_fr (C := C) hdr (tof (bytesOf b)) [] b.length cap ar e1 (cap, cap + 1)
          (fun j hj => by simp; omega) (by omega) (by omega) (fun i hi => by
          have hib : i < b'.data.size := by rw [hlen] at hi; exact hi
          have hib2 : i < b'.size := hib
          refine ⟨.int .u8 (b'.data[i]'hib).toNat, by rw [har, Array.getElem?_append_left (by simpa using hib)]; simp only [Array.getElem?_map, Array.getElem?_eq_getElem hib]; rfl, ?_⟩
          have : (bytesOf b)[i]? = some (.int .u8 (Int.ofNat (b'.data[i]'hib).toNat)) := by
            rw [get_bytesOf, ← hb]
            simp only [bytesL, List.getElem?_map, Array.getElem?_toList, Array.getElem?_eq_getElem hib]
            rfl
          rw [cget_tof [] this]
          exact .int _ _)
        have hfa := freeze_alloc w.drew ar e1 cap
        have hsh : (w.drew.alloc (.cells ar e1)).shape? w.heap.size = some (e1, cap) := by
          have := World.alloc_heap_new w.drew (.cells ar e1)
          simp only [World.shape?, show w.drew.heap.size = w.heap.size from rfl] at this ⊢
          rw [this, ← hsz]
        refine .inl ⟨.slice (some ⟨w.heap.size, 0, none⟩) b'.size cap, w.drew.alloc (.cells ar e1 (cap, cap + 1)), ?_, _, _, _, _, h, ?_, q1, Fr.drew.trans q2⟩
        · simp only [execOp, ho, hp, convert, Sem.run_bind, u1, u2, Result.andThen_ok, u3, Conv.stringToBytes, hrun, ← har, newRow_run, markStringish, run_shape]
          simp only [show w.drew.heap.size = w.heap.size from rfl, hsh, run_freeze, Result.andThen_ok] at hfa ⊢
          rw [hfa]
          rfl
        · rw [hlen]
          exact .slc σ.next 0 1 b'.size b'.size false ⟨w.heap.size, 0, 0, cap⟩ _ cap (by simp [Rho.add]) (Nat.le_refl _) hcap hcap (by simp) (by simp) (fun _ => by simp [Loc.at])
      · cases h
    · cases hc
  · rename_i e1 a2 b2 z2 hs hd2
    split at hc
    · rename_i b3 z3 he3
      cases hc
      simp only [opK] at h
      obtain ⟨vs, vs', n, k1, k2, k3, k4, k5, aa, cap, hp⟩ := src_ok (P := P) h rx hr
      have u1 := run_und hT hs w
      have u2 := run_und hT hd2 w
      have u3 := run_und hT he3 w
      split at k1
      · rename_i s0 hs0
        obtain ⟨ns, hns, hsn⟩ := strOf_ok hs0 k2
        have hfc := k5 n (Nat.le_refl _)
        rw [hp] at hfc
        cases aa with
        | none =>
          simp only [Builtin.firstCells, Sem.run_pure, Result.ok.injEq, and_true] at hfc
          have : vs' = [] := by
            have h0 : vs'.take (n * 1) = [] := by simpa using (congrArg Array.toList hfc).symm
            rw [Nat.mul_one] at h0
            rwa [List.take_of_length_le (by omega)] at h0
          rw [this] at hns
          have hns0 : ns = [] := by simpa using hns.symm
          subst hns0
          refine .val hr k1 (.str _ ByteArray.empty (by rw [hsn]; rfl)) ?_
          simp [execOp, ho, hp, convert, u1, u2, u3, Conv.bytesToString]
        | some ad =>
          refine .val hr k1 (.str _ (ns.foldl (fun r n => r.push (UInt8.ofNat n.toNat)) ByteArray.empty) ?_) ?_
          · rw [hsn]
            have := push_bytes ns ByteArray.empty
            simpa [bytesL] using this
          · have hl : (loadCells ad n).run P w = .ok (ns.map (Value.int .u8)).toArray w := by
              simp only [Builtin.firstCells, Nat.mul_one] at hfc
              rw [hfc, List.take_of_length_le (by omega), hns]
            have := run_bytesToString (P := P) w ad n cap ns hl
            simp [execOp, ho, hp, convert, u1, u2, u3, this]
      · cases k1
    · cases hc
  · cases hc
end
end Ak
