/- Operations: arithmetic, comparisons, conversions, interfaces, functions. -/
import Derived.Test.YtpbifekamdpdjaaGreatDoorAkOps1
import Derived.Laws.StructEq
namespace Ak
open Go

section
variable {P : Program} {TI : TypeId → Option Ti} {gl : List Nat} {C : Cor}

theorem guard_int (op : BinOp) (t : TypeId) (x y : Operand) (k : IntKind) (n : Int) (b : Value) (w : World) : (eqGuard op t x y (.int k n) b).run P w = .ok () w := by
  cases op <;> simp [eqGuard]
theorem guard_str (op : BinOp) (t : TypeId) (x y : Operand) (s : ByteArray) (b : Value) (w : World) : (eqGuard op t x y (.string s) b).run P w = .ok () w := by
  cases op <;> simp [eqGuard]
theorem guard_other (op : BinOp) (t : TypeId) (x y : Operand) (a b : Value) (w : World) (h1 : a ≠ .nilIface) (h2 : ∀ cs, a ≠ .agg cs) : (eqGuard op t x y a b).run P w = .ok () w := by
  cases a <;> first
    | exact absurd rfl h1
    | exact absurd rfl (h2 _)
    | (cases op <;> simp [eqGuard])

/-- What a value's relation to the machine's gives, for an operation that leaves the heap. -/
def PureV {α : Type} (P : Program) (ρ : Rho) (w : World) (K : V → Option α) (r : α) (s : Sem Value) : Prop := ∃ v v', K v = some r ∧ s.run P w = .ok v' w ∧ Rel ρ v v'

theorem binI_ok {α : Type} {ρ : Rho} {w : World} {K : V → Option α} {r : α} (op : BinOp) (t : TypeId) (k : IntKind) (a b : Int) (h : binI op k a b K = some r) :
    PureV P ρ w K r (binOp op t (.int k a) (.int k b)) := by
  cases op with
  | add => exact ⟨_, _, h, by simp [binOp, Op.intArith, wrapF], .int _ _⟩
  | sub => exact ⟨_, _, h, by simp [binOp, Op.intArith, wrapF], .int _ _⟩
  | mul => exact ⟨_, _, h, by simp [binOp, Op.intArith, wrapF], .int _ _⟩
  | quo =>
    obtain ⟨h0, h⟩ := bif_else h
    have h0 : ¬ b = 0 := by simpa using h0
    exact ⟨_, _, h, by simp [binOp, Op.intDiv, h0, wrapF], .int _ _⟩
  | rem =>
    obtain ⟨h0, h⟩ := bif_else h
    have h0 : ¬ b = 0 := by simpa using h0
    exact ⟨_, _, h, by simp [binOp, Op.intDiv, h0], .int _ _⟩
  | and => exact ⟨_, _, h, by simp [binOp, Op.intBits, bitsF], .int _ _⟩
  | or => exact ⟨_, _, h, by simp [binOp, Op.intBits, bitsF], .int _ _⟩
  | xor => exact ⟨_, _, h, by simp [binOp, Op.intBits, bitsF], .int _ _⟩
  | andNot => exact ⟨_, _, h, by simp [binOp, Op.intBits, bitsF], .int _ _⟩
  | shl => cases h
  | shr => cases h
  | eql => exact ⟨_, _, h, by simp [binOp, Op.intCmp]; rfl, .bool _⟩
  | neq => exact ⟨_, _, h, by simp [binOp, Op.intCmp]; rfl, .bool _⟩
  | lss => exact ⟨_, _, h, by simp [binOp, Op.intCmp], .bool _⟩
  | leq => exact ⟨_, _, h, by simp [binOp, Op.intCmp], .bool _⟩
  | gtr => exact ⟨_, _, h, by simp [binOp, Op.intCmp], .bool _⟩
  | geq => exact ⟨_, _, h, by simp [binOp, Op.intCmp], .bool _⟩

theorem eq_bytes (a b : ByteArray) : (a.toList == b.toList) = strEq (bytesL a) (bytesL b) := by
  rw [strEq_iff, Bool.eq_iff_iff, beq_iff_eq, decide_eq_true_iff, ByteArray.toList_eq, ByteArray.toList_eq]
  constructor
  · intro h; unfold bytesL; rw [h]
  · intro h; rw [bytes_inj h]
theorem lt_bytes : ∀ (a b : List UInt8), Op.bytesLess a b = strLt (a.map UInt8.toNat) (b.map UInt8.toNat)
  | _, [] => by simp [Op.bytesLess, strLt]
  | [], _ :: _ => by simp [Op.bytesLess, strLt]
  | a :: x, b :: y => by
    simp only [Op.bytesLess, strLt, List.map_cons, lt_bytes x y]
    congr 1
    · rw [Bool.eq_iff_iff, decide_eq_true_iff, blt_iff]; exact UInt8.lt_iff_toNat_lt
    · congr 1
      rw [Bool.eq_iff_iff, beq_iff_eq]
      rw [Nat.beq_eq]
      exact UInt8.toNat_inj.symm
theorem lt_bytes' (a b : ByteArray) : Op.bytesLess a.toList b.toList = strLt (bytesL a) (bytesL b) := by
  rw [lt_bytes, toList_bytes, toList_bytes]

theorem len_bytesL (a : ByteArray) : (bytesL a).length = a.size := by unfold bytesL; simp
theorem bytesL_append (a b : ByteArray) : bytesL (a ++ b) = bytesL a ++ bytesL b := by unfold bytesL; simp

theorem binS_ok {α : Type} {ρ : Rho} {w : World} {K : V → Option α} {r : α} (op : BinOp) (t : TypeId) (a b : ByteArray) (h : binS op (bytesL a) (bytesL b) K = some r) :
    PureV P ρ w K r (binOp op t (.string a) (.string b)) := by
  have e := eq_bytes a b
  have l := lt_bytes' a b
  cases op <;> first | (cases h; done) | skip
  · -- add
    simp only [binS] at h
    obtain ⟨h0, h⟩ := bif_then h
    simp only [decide_eq_true_iff, len_bytesL] at h0
    refine ⟨_, .string (a ++ b), h, ?_, .str _ _ (bytesL_append a b)⟩
    have : ¬ ((a.size + b.size : Nat) : Int) > IntKind.i64.max := by simp [IntKind.max, IntKind.signed, IntKind.bits]; omega
    simp only [binOp, Op.stringOp, this, if_false, Sem.run_pure]
  all_goals (refine ⟨_, _, h, ?_, .bool _⟩; simp only [binOp, Op.stringOp, e, l, Sem.run_pure])

theorem kindB_eq {k l : IntKind} (h : kindB k l = true) : k = l := by simpa [kindB] using h

theorem binK_ok {α : Type} {ρ : Rho} {w : World} {K : V → Option α} {r : α} (op : BinOp) (t : TypeId) (x y : Operand) {a b : V} {a' b' : Value} (ha : Rel ρ a a') (hb : Rel ρ b b') (h : binK op a b K = some r) :
    PureV P ρ w K r (do eqGuard op t x y a' b'; binOp op t a' b') := by
  have key : ∀ s : Sem Value, (eqGuard op t x y a' b').run P w = .ok () w → PureV P ρ w K r s → PureV P ρ w K r (do eqGuard op t x y a' b'; s) := by
    rintro s hg ⟨v, v', k1, k2, k3⟩
    exact ⟨v, v', k1, by simp [hg, k2], k3⟩
  unfold binK at h
  split at h
  · rename_i k n l m
    obtain rfl := rel_int_inv ha
    obtain rfl := rel_int_inv hb
    obtain ⟨h0, h⟩ := bif_else h
    have h0 : ¬ m < 0 := by simpa using h0
    exact key _ (guard_int ..) ⟨_, _, h, by simp [binOp, Op.shift, h0, wrapF], .int _ _⟩
  · rename_i k n l m
    obtain rfl := rel_int_inv ha
    obtain rfl := rel_int_inv hb
    obtain ⟨h0, h⟩ := bif_else h
    have h0 : ¬ m < 0 := by simpa using h0
    exact key _ (guard_int ..) ⟨_, _, h, by simp [binOp, Op.shift, h0], .int _ _⟩
  · rename_i k n l m _ _
    obtain rfl := rel_int_inv ha
    obtain rfl := rel_int_inv hb
    obtain ⟨h0, h'⟩ := bif_then h
    obtain rfl := kindB_eq h0
    exact key _ (guard_int ..) (binI_ok op t k n m h')
  · obtain ⟨s, rfl, rfl⟩ := rel_str_inv ha
    obtain ⟨s', rfl, rfl⟩ := rel_str_inv hb
    exact key _ (guard_str ..) (binS_ok op t s s' h)
  · cases h

theorem okV_of_pure {α : Type} {ρ : Rho} {own : Own} {σ : H} {w : World} {K : V → H → Option α} {r : α} {s : Sem Value} (hr : HR C ρ own σ w) (h : PureV P ρ w (fun v => K v σ) r s) :
    OkV C K r ρ own σ w ((do pure (Next.value (← s)) : Sem Next).run P w) := by
  obtain ⟨v, v', h1, h2, h3⟩ := h
  exact .val hr h1 h3 (by simp [h2])

theorem eq1_ok {ρ : Rho} {w : World} (hT : TIok P TI) {t : TypeId} {i : Ti} (hi : TI t = some i) {cls : Nat} {a b : V} {a' b' : Value} (ha : Rel ρ a a') (hb : Rel ρ b b') {v : Bool} (h : eq1 cls a b = some v)
    (hc : (cls = 0 ∧ i.d = .bool) ∨ (cls = 1 ∧ ∃ e, i.d = .pointer e) ∨ (cls = 2 ∧ ∃ e, i.d = .slice e) ∨ (cls = 3 ∧ ∃ k e, i.d = .map k e) ∨ (cls = 4 ∧ ∃ x y z, i.d = .func x y z)) :
    (Op.equal t a' b').run P w = .ok v w ∧ a' ≠ .nilIface ∧ (∀ cs, a' ≠ .agg cs) ∧ (∀ (op : BinOp), op = .eql ∨ op = .neq → binOp op t a' b' = match op with | .eql => (do pure (.bool (← Op.equal t a' b'))) | _ => (do pure (.bool (!(← Op.equal t a' b'))))) := by
  have hu := run_und hT hi w
  have fin : (∀ d, (Op.equalIn (d + 1) t a' b').run P w = .ok v w) → (Op.equal t a' b').run P w = .ok v w := fun h => h 9999
  rcases hc with ⟨rfl, hd⟩ | ⟨rfl, e, hd⟩ | ⟨rfl, e, hd⟩ | ⟨rfl, k, e, hd⟩ | ⟨rfl, x, y, z, hd⟩
  · rw [hd] at hu
    unfold eq1 at h
    split at h <;> first | contradiction | skip
    cases h
    obtain rfl := rel_bool_inv ha
    obtain rfl := rel_bool_inv hb
    refine ⟨fin fun d => by simp [Op.equalIn, hu], by simp, by simp, ?_⟩
    rintro op (rfl | rfl) <;> rfl
  · rw [hd] at hu
    unfold eq1 at h
    split at h <;> first | contradiction | skip
    all_goals cases h
    all_goals cases ha
    all_goals cases hb
    all_goals refine ⟨fin fun d => by simp [Op.equalIn, hu], by simp, by simp, ?_⟩
    all_goals rintro op (rfl | rfl) <;> rfl
  · rw [hd] at hu
    unfold eq1 at h
    split at h <;> first | contradiction | skip
    all_goals cases h
    all_goals cases ha
    all_goals cases hb
    all_goals refine ⟨fin fun d => by simp [Op.equalIn, hu], by simp, by simp, ?_⟩
    all_goals rintro op (rfl | rfl) <;> rfl
  · rw [hd] at hu
    unfold eq1 at h
    split at h <;> first | contradiction | skip
    all_goals cases h
    all_goals cases ha
    all_goals cases hb
    all_goals refine ⟨fin fun d => by simp [Op.equalIn, hu], by simp, by simp, ?_⟩
    all_goals rintro op (rfl | rfl) <;> rfl
  · rw [hd] at hu
    unfold eq1 at h
    split at h <;> first | contradiction | skip
    all_goals cases h
    all_goals cases ha
    all_goals cases hb
    all_goals refine ⟨fin fun d => by simp [Op.equalIn, hu], by simp, by simp, ?_⟩
    all_goals rintro op (rfl | rfl) <;> rfl
end
end Ak
