/- All operations but calls. -/
import Derived.Test.YtpbifekamdpdjaaGreatDoorAkOps11
namespace Ak
open Go
/-- Does an operation call? -/
def isCall : Op → Bool
  | .call { callee := .value _, .. } => true
  | _ => false
theorem op_sim {P : Program} {TI : TypeId → Option Ti} {gl : List Nat} {C : Cor} (hT : TIok P TI) (hE : EqOk P TI) (op : Op) (hc : isCall op = false) : OpSim P TI gl C op := by
  have no : ∀ op, cOp TI gl op = none → OpSim P TI gl C op := by
    intro op h α hd p e φ σ w ρ own K r o ho hc
    rw [h] at hc; cases hc
  cases op with
  | move x => exact sim_move x
  | assign x => exact sim_assign x
  | pick c a b => exact sim_pick c a b
  | alloc t => exact sim_alloc hT t
  | box t x => exact sim_box t x
  | build t ps => exact sim_build hT t ps
  | buildSlice t n ps => exact sim_buildSlice hT t n ps
  | load t a => exact sim_load hT t a
  | store t a v => exact sim_store hT t a v
  | nilCheck x => exact sim_nilCheck x
  | binOp b t x y u => exact sim_binOp hT hE b t x y u
  | unOp u t x => cases u <;> first | exact sim_not t x | exact sim_neg t x | exact no _ rfl
  | convert s d x => exact sim_convert hT s d x
  | sliceToArrayPointer t x => exact sim_s2a hT t x
  | makeInterface t x => exact sim_makeInterface hT t x
  | makeFunc f xs cap => exact sim_makeFunc f xs cap
  | makeMap t r => exact sim_makeMap hT t r
  | makeSlice t l c => exact sim_makeSlice hT t l c
  | slice t x lo hi mx => exact sim_slice hT t x lo hi mx
  | fieldAddr t x f => exact sim_fieldAddr hT t x f
  | field t x f => exact sim_field hT t x f
  | indexAddr t x i => exact sim_indexAddr hT t x i
  | index t x i => exact sim_index hT t x i
  | lookup t m k ok => exact sim_lookup hT t m k ok
  | mapUpdate t m k v => exact sim_mup hT t m k v _ (.inl rfl)
  | insert t m k v => exact sim_mup hT t m k v _ (.inr rfl)
  | extract x i => exact sim_extract x i
  | call c =>
    obtain ⟨callee, as, ts⟩ := c
    cases callee with
    | builtin b =>
      cases b with
      | len => exact sim_len hT ts as
      | cap => exact sim_cap hT ts as
      | min => exact sim_min ts as
      | max => exact sim_max ts as
      | append => exact sim_append hT ts as
      | copy => exact sim_copy hT ts as
      | clear => exact sim_clear hT ts as
      | delete => exact sim_delete hT ts as
      | _ =>
        intro α hd p e φ σ w ρ own K r o ho hc
        simp only [cOp] at hc
        obtain ⟨xs, _, hq⟩ := obind_some hc
        simp [cBi] at hq
    | value x => cases hc
    | _ => exact no _ rfl
  | _ => exact no _ rfl
end Ak
