/- Allocations: the evaluator allots the number, the machine lays the block later. -/
import Derived.Test.YtpbifekamdpdjaaGreatDoorAkDrw1
namespace Ak
open Go
section
variable {P : Program} {TI : TypeId → Option Ti} {gl : List Nat} {C : Cor}

theorem or_cells {ρ : Rho} {own : Own} {w : World} {s a n top : Nat} {arr : Array Value} {el : TypeId} {fr : Nat × Nat} {c : T V} {z : List V} (hs : w.heap.size = s) (ho : own s = some a) (hf : ∀ j, j < top → ¬ (fr.1 ≤ j ∧ j < fr.2)) (hn : n ≤ top) (ht : top ≤ arr.size)
    (hc : ∀ i, i < n → ∃ v', arr[i]? = some v' ∧ Rel ρ (cget c z i) v') : OR C ρ own (w.alloc (.cells arr el fr)) a ⟨s, 0, 0, top⟩ (.cells c z 0 n false) := by
  subst hs
  have hblk : (w.alloc (.cells arr el fr)).heap[w.heap.size]? = some (.cells arr el fr) := World.alloc_heap_new w _
  refine ⟨by simp [ho], Nat.le_refl _, by simpa using hn, arr, el, fr, hblk, by simpa using ht, fun _ j hj => ?_, fun off _ h2 => ?_⟩
  · simp only [World.frozen?, hblk]
    have := hf j hj
    simp only [Nat.zero_add]
    rw [Bool.and_eq_false_iff]
    simp only [decide_eq_false_iff_not]
    omega
  · obtain ⟨v', e, rv⟩ := hc off h2
    exact ⟨v', by simpa using e, rv⟩

theorem or_tof {ρ : Rho} {own : Own} {w : World} {s a : Nat} {vs : List V} {vs' : Array Value} {el : TypeId} (hs : w.heap.size = s) (ho : own s = some a) (hv : RelL ρ vs vs'.toList) :
    OR C ρ own (w.alloc (.cells vs' el)) a ⟨s, 0, 0, vs.length⟩ (.cells (tof vs) [] 0 vs.length false) :=
  or_cells hs ho (fun j _ => by simp) (Nat.le_refl _) (by have := hv.1; simp at this; omega) fun i hi => by
    obtain ⟨v', e, rv⟩ := hv.get (i := i) (v := vs[i]) (by simp [hi])
    exact ⟨v', by simpa using e, by rw [cget_tof (v := vs[i]) [] (by simp [hi])]; exact rv⟩

/-- The operations that may allocate. -/
def alcSrc : Op → Bool
  | .alloc _ | .box .. | .makeMap .. | .makeSlice .. | .buildSlice .. | .convert .. => true
  | _ => false
theorem cBin_noAlc {op : BinOp} {t : TypeId} {x y : X} {p : Ap} (hc : cBin TI op t x y = some p) : isAlc p = false := by
  have eq1 : ∀ c p, cEq c op x y = some p → isAlc p = false := by
    intro c p h; unfold cEq at h; split at h <;> first | (cases h; rfl) | cases h
  have eq2 : ∀ ks p, cEqa ks op x y = some p → isAlc p = false := by
    intro c p h; unfold cEqa at h; split at h <;> first | (cases h; rfl) | cases h
  unfold cBin at hc
  split at hc
  · cases hc; rfl
  · cases hc; rfl
  · exact eq1 _ _ hc
  · exact eq1 _ _ hc
  · exact eq1 _ _ hc
  · exact eq1 _ _ hc
  · exact eq1 _ _ hc
  · split at hc
    · exact eq2 _ _ hc
    · cases hc
  · split at hc
    · exact eq2 _ _ hc
    · cases hc
  · cases hc
theorem cSlice_noAlc {t : TypeId} {x : X} {lo hi mx : Option X} {p : Ap} (hc : cSlice TI t x lo hi mx = some p) : isAlc p = false := by
  unfold cSlice at hc
  split at hc
  · cases hc; rfl
  · obtain ⟨_, _, rfl⟩ := omap_some hc; rfl
  · split at hc
    · obtain ⟨_, _, rfl⟩ := omap_some hc; rfl
    · cases hc
  · obtain ⟨_, _, rfl⟩ := omap_some hc; rfl
  · cases hc
theorem cBi_noAlc {b : Builtin} {ts : List TypeId} {xs : List X} {p : Ap} (hc : cBi TI b ts xs = some p) : isAlc p = false := by
  unfold cBi at hc
  split at hc
  · split at hc <;> first | (cases hc; rfl) | cases hc
  · split at hc <;> first | (cases hc; rfl) | cases hc
  · cases hc; rfl
  · cases hc; rfl
  · split at hc
    · split at hc
      · obtain ⟨_, hc⟩ := bif_then hc; cases hc; rfl
      · cases hc
    · split at hc <;> first | (cases hc; rfl) | cases hc
    · split at hc
      · obtain ⟨_, hc⟩ := bif_then hc; cases hc; rfl
      · cases hc
    · cases hc
  · split at hc
    · obtain ⟨_, _, rfl⟩ := omap_some hc; rfl
    · split at hc <;> first | (cases hc; rfl) | cases hc
    · cases hc
  · split at hc
    · cases hc; rfl
    · obtain ⟨_, _, rfl⟩ := omap_some hc; rfl
    · cases hc
  · split at hc
    · obtain ⟨_, _, rfl⟩ := omap_some hc; rfl
    · cases hc
  · cases hc
theorem cOp_noAlc (op : Op) (hs : alcSrc op = false) {p : Ap} (hc : cOp TI gl op = some p) : isAlc p = false := by
  cases op with
  | move x => obtain ⟨_, _, rfl⟩ := omap_some hc; rfl
  | assign x => obtain ⟨_, _, rfl⟩ := omap_some hc; rfl
  | nilCheck x => obtain ⟨_, _, rfl⟩ := omap_some hc; rfl
  | extract x i => obtain ⟨_, _, rfl⟩ := omap_some hc; rfl
  | pick c a b =>
    simp only [cOp] at hc
    split at hc
    · cases hc; rfl
    · cases hc
  | build t ps =>
    simp only [cOp] at hc
    split at hc
    · split at hc
      · obtain ⟨_, _, rfl⟩ := omap_some hc; rfl
      · cases hc
    · split at hc
      · obtain ⟨_, _, rfl⟩ := omap_some hc; rfl
      · cases hc
    · cases hc
  | load t a =>
    simp only [cOp] at hc
    split at hc
    · obtain ⟨_, hc⟩ | ⟨_, hc⟩ := bif_some hc <;> (cases hc; rfl)
    · cases hc
  | store t a v =>
    simp only [cOp] at hc
    split at hc
    · cases hc; rfl
    · cases hc
  | binOp o t x y u =>
    simp only [cOp] at hc
    split at hc
    · exact cBin_noAlc hc
    · cases hc
  | unOp u t x => cases u <;> first | (obtain ⟨_, _, rfl⟩ := omap_some hc; rfl) | cases hc
  | sliceToArrayPointer t x =>
    simp only [cOp] at hc
    split at hc
    · obtain ⟨_, _, rfl⟩ := omap_some hc; rfl
    · cases hc
  | makeInterface t x =>
    simp only [cOp] at hc
    split at hc
    · cases hc
    · obtain ⟨_, _, rfl⟩ := omap_some hc; rfl
    · cases hc
  | makeFunc fn xs cs =>
    cases fn with
    | func f =>
      simp only [cOp] at hc
      split at hc
      · cases hc; rfl
      · cases hc
    | _ => cases hc
  | slice t x lo hi mx =>
    simp only [cOp] at hc
    split at hc
    · exact cSlice_noAlc hc
    · cases hc
  | fieldAddr t x f =>
    simp only [cOp] at hc
    split at hc
    · split at hc
      · split at hc
        · obtain ⟨_, hc⟩ := bif_then hc; cases hc; rfl
        · cases hc
      · cases hc
    · cases hc
  | field t x f =>
    simp only [cOp] at hc
    split at hc
    · split at hc
      · split at hc
        · obtain ⟨_, hc⟩ | ⟨_, hc⟩ := bif_some hc <;> (cases hc; rfl)
        · cases hc
      · cases hc
    · cases hc
  | indexAddr t x i =>
    simp only [cOp] at hc
    split at hc
    · obtain ⟨_, _, rfl⟩ := omap_some hc; rfl
    · obtain ⟨_, _, rfl⟩ := omap_some hc; rfl
    · cases hc
  | index t x i =>
    simp only [cOp] at hc
    split at hc
    · obtain ⟨ti, _, rfl⟩ := omap_some hc
      cases isAg ti.d <;> rfl
    · cases hc; rfl
    · cases hc
  | lookup t m k ok =>
    simp only [cOp] at hc
    split at hc
    · split at hc
      · cases hc; rfl
      · cases hc
    · cases hc
  | mapUpdate t m k v =>
    simp only [cOp] at hc
    split at hc
    · obtain ⟨_, _, rfl⟩ := omap_some hc; rfl
    · cases hc
  | insert t m k v =>
    simp only [cOp] at hc
    split at hc
    · obtain ⟨_, _, rfl⟩ := omap_some hc; rfl
    · cases hc
  | call c =>
    obtain ⟨callee, as, ts⟩ := c
    cases callee with
    | builtin b =>
      simp only [cOp] at hc
      obtain ⟨xs, _, hq⟩ := obind_some hc
      exact cBi_noAlc hq
    | value x =>
      cases x with
      | func f =>
        simp only [cOp] at hc
        obtain ⟨_, _, rfl⟩ := omap_some hc; rfl
      | _ =>
        simp only [cOp] at hc
        split at hc
        · cases hc; rfl
        · cases hc
    | _ => cases hc
  | alloc _ => cases hs
  | box _ _ => cases hs
  | makeMap _ _ => cases hs
  | makeSlice _ _ _ => cases hs
  | buildSlice _ _ _ => cases hs
  | convert _ _ _ => cases hs
  | _ => cases hc

/-- What the machine makes of an allocation, whatever number it has been allotted. -/
def AlcOk (P : Program) (C : Cor) (φ : Operand → Value) (oo : Oper) (ρ : Rho) (w : World) (o : O) (f : Nat → V) : Prop :=
  ∃ v' w1 ob top, (execOp φ oo).run P w = .ok (.value v') (w1.alloc ob) ∧ (w1 = w ∨ w1 = w.drew) ∧ (∀ r, ob ≠ .loop r) ∧
    ∀ (ρ' : Rho) (own' : Own) (a : Nat), Ext ρ ρ' → ρ' a = some ⟨w.heap.size, 0, 0, top⟩ → own' w.heap.size = some a → OR C ρ' own' (w1.alloc ob) a ⟨w.heap.size, 0, 0, top⟩ o ∧ Rel ρ' (f a) v'

theorem alc_ok (hT : TIok P TI) {oo : Oper} {p : Ap} (hc : cOp TI gl oo.op = some p) {e : X → V} {φ : Operand → Value} {ρ : Rho} (hX : XR gl ρ e φ) (ha : isAlc p = true) {o : O} {f : Nat → V} (h : alc p e = some (o, f)) (w : World) : AlcOk P C φ oo ρ w o f := by
  have boxed : ∀ (t : TypeId) (vs : List V) (v : Value), RelL ρ vs v.cells.toList → (execOp φ oo).run P w = .ok (.value (.pointer (some ⟨w.heap.size, 0, none⟩))) (w.alloc (.cells v.cells t)) →
      AlcOk P C φ oo ρ w (.cells (tof vs) [] 0 vs.length false) (fun a => .ptr a 0) := by
    intro t vs v hv hrun
    refine ⟨_, w, _, vs.length, hrun, .inl rfl, by simp, fun ρ' own' a hx hρ ho => ⟨or_tof rfl ho (hv.mono hx), ?_⟩⟩
    have := Rel.ptr (ρ := ρ') a 0 _ hρ (Nat.le_refl _)
    simpa [Loc.at] using this
  have mapped : (execOp φ oo).run P w = .ok (.value (.map (some w.heap.size))) (w.alloc (.map #[] 0)) → AlcOk P C φ oo ρ w (.map []) .map := by
    intro hrun
    refine ⟨_, w, _, 0, hrun, .inl rfl, by simp, fun ρ' own' a hx hρ ho => ⟨⟨ho, #[], 0, World.alloc_heap_new w _, ⟨.nil _, .nil _⟩, MapKept.stamped_empty _⟩, .map a _ hρ⟩⟩
  cases hop : oo.op with
  | alloc t =>
    rw [hop] at hc
    simp only [cOp] at hc
    obtain ⟨z, hz, rfl⟩ := omap_some hc
    obtain ⟨i, hi, hz⟩ := obind_some hz
    simp only [alc] at h
    obtain ⟨_, h⟩ := bif_then h
    cases h
    obtain ⟨v, hv, hl, _, _⟩ := run_zero hT hi hz
    exact boxed t _ v (hl ρ) (by simp [execOp, hop, Instr.alloc, hv, newVar_run])
  | box t x =>
    rw [hop] at hc
    simp only [cOp] at hc
    obtain ⟨X, hx, rfl⟩ := omap_some hc
    simp only [alc] at h
    obtain ⟨h1, h⟩ := bif_then h
    cases h
    exact boxed t _ (φ x) (rel_cells (hX _ _ hx) (allOne_ne h1)) (by simp [execOp, hop, Instr.box, newVar_run])
  | makeMap t rv =>
    rw [hop] at hc
    cases rv with
    | none =>
      cases hc
      simp only [alc, Option.some.injEq, Prod.mk.injEq] at h
      obtain ⟨rfl, rfl⟩ := h
      exact mapped (by simp [execOp, hop, Instr.makeMap])
    | some x =>
      simp only [cOp] at hc
      split at hc
      · rename_i k1 e1 s1 b1 z1 hi
        obtain ⟨X, hx, rfl⟩ := omap_some hc
        simp only [alc] at h
        have rx := hX _ _ hx
        split at h
        · rename_i k n he
          rw [he] at rx
          have hk := rel_int_inv rx
          have hu := run_und hT hi w
          simp only [Option.some.injEq, Prod.mk.injEq] at h
          obtain ⟨rfl, rfl⟩ := h
          refine mapped ?_
          simp only [execOp, hop, Option.map_some, Instr.makeMap, Sem.run_bind, hu, Result.andThen_ok]
          simp [hk, asInt, asIntOf]
        · cases h
      · cases hc
  | makeSlice t l c =>
    rw [hop] at hc
    simp only [cOp] at hc
    split at hc
    · rename_i el s0 b0 z0 hi
      split at hc
      · rename_i d1 sz bs z L Cc hel hl hcc
        obtain ⟨hg, hc⟩ := bif_then hc
        cases hc
        simp only [Bool.and_eq_true, Nat.beq_eq, blt_iff] at hg
        obtain ⟨⟨hg1, hg2⟩, hg3⟩ := hg
        simp only [alc] at h
        split at h
        · rename_i kl n kc m e1 e2
          obtain ⟨hnm, h⟩ := bif_then h
          simp only [Bool.and_eq_true, decide_eq_true_eq] at hnm
          obtain ⟨hn, hm⟩ := hnm
          obtain ⟨hb, h⟩ := bif_then h
          simp only [Option.some.injEq, Prod.mk.injEq] at h
          obtain ⟨rfl, rfl⟩ := h
          simp only [Bool.and_eq_true, leB_iff, blt_iff] at hb
          obtain ⟨⟨⟨hb1, hb2⟩, hb3⟩, hb4⟩ := hb
          have r1 := hX _ _ hl
          have r2 := hX _ _ hcc
          rw [e1] at r1; rw [e2] at r2
          have p1 := rel_int_inv r1
          have p2 := rel_int_inv r2
          obtain ⟨j, j1, j2, j3, j4⟩ := hT.info _ _ hel
          obtain ⟨v, hv, hv2, _, _⟩ := j4 z rfl
          have hm1 : m.toNat ≤ m.toNat * bs := Nat.le_mul_of_pos_right _ hg3
          have hmN : (m.toNat : Int) = m := Int.toNat_of_nonneg hm
          have hbI : (j.bytes : Int) * m ≤ 281474976710656 := by
            rw [j3, ← hmN, ← Int.natCast_mul, Nat.mul_comm]
            simp only at hb2 ⊢
            omega
          have hrun := run_make (P := P) w t el j v (hT.und _ _ hi) j1 hv kl kc n m hn (by omega) hbI (by omega)
          refine ⟨.slice (some ⟨w.heap.size, 0, none⟩) n.toNat m.toNat, w, .cells (madeCells v.cells (m.toNat * j.size)) el, m.toNat * z.length, by simp only [execOp, hop, p1, p2, Sem.run_bind, hrun, Result.andThen_ok, Sem.run_pure], .inl rfl, by simp, fun ρ' own' a hx hρ ho => ⟨or_cells rfl ho (fun j _ => by simp) (Nat.le_refl _) ?_ (fun i hi => ?_), ?_⟩⟩
          · rw [size_madeCells, j2]; simp only; rw [hg1]; exact Nat.le_refl _
          · obtain ⟨v', x1, x2⟩ := rel_made (ofSs_rel ρ' hv2) hb4 (m.toNat * j.size) i (by rw [j2]; simp only; rw [← hg1]; exact hi)
            exact ⟨v', x1, by simpa [cget, T.get_lf] using x2⟩
          · exact .slc a 0 z.length n.toNat m.toNat true _ ⟨w.heap.size, 0, none⟩ m.toNat hρ (Nat.le_refl _) hb1 (Nat.le_refl _) (fun _ => rfl) (by simp) (fun _ => by simp [Loc.at])
        · cases h
      · cases hc
    · cases hc
  | buildSlice t len ps =>
    rw [hop] at hc
    simp only [cOp] at hc
    split at hc
    · rename_i el s0 b0 z0 hi
      split at hc
      · rename_i d sz bs z hel
        obtain ⟨hg, hc⟩ := bif_then hc
        obtain ⟨as, has, rfl⟩ := omap_some hc
        simp only [Bool.and_eq_true, Nat.beq_eq, blt_iff, leB_iff] at hg
        obtain ⟨⟨rfl, hg2⟩, hg3⟩ := hg
        simp only [alc] at h
        split at h
        · rename_i cs hcs
          obtain ⟨hone, h⟩ := bif_then h
          simp only [Option.some.injEq, Prod.mk.injEq] at h
          obtain ⟨rfl, rfl⟩ := h
          obtain ⟨zv, hz1, hz2, _, _⟩ := run_zero hT hel rfl
          obtain ⟨q1, q2⟩ := partsL_ok has
          have hzs : zv.cells.size = z.length := by have := (hz2 ρ).1; simpa using this.symm
          have hbase := rel_zeroCells (hz2 ρ) len
          obtain ⟨r', k1, k2⟩ := fill_ok hX (fun i => some (i * z.length, z.length)) ps.toList (as.map fun (i, x) => (i * z.length, z.length, x)) (zcells z len) cs (Builtin.zeroCells zv.cells len) hcs hbase (by simpa using q1) (fun j i x off n X e1 e2 => by
            simp only [List.getElem?_map] at e2
            cases hq : as[j]? with
            | none => rw [hq] at e2; cases e2
            | some q =>
              obtain ⟨i', X'⟩ := q
              rw [hq] at e2
              simp only [Option.map_some, Option.some.injEq, Prod.mk.injEq] at e2
              obtain ⟨rfl, rfl, rfl⟩ := e2
              obtain ⟨rfl, b⟩ := q2 j i x i' X' e1 hq
              exact ⟨rfl, b⟩)
          have hlen : cs.length = len * z.length := by
            have hpres : ∀ (as : List (Nat × Nat × X)) (c r : List V), buildL e c as = some r → r.length = c.length := by
              intro as
              induction as with
              | nil => intro c r h; cases h; rfl
              | cons a as ih =>
                intro c r h
                obtain ⟨off, n, x⟩ := a
                simp only [buildL] at h
                obtain ⟨hg, h⟩ := bif_then h
                simp only [Bool.and_eq_true, Nat.beq_eq, leB_iff] at hg
                rw [fillF_eq c off _ (by rw [hg.1.1]; exact hg.1.2)] at h
                rw [ih _ _ h]
                simp [hg.1.1]
                omega
            rw [hpres _ _ _ hcs, len_zcells]
          refine ⟨.slice (some ⟨w.heap.size, 0, none⟩) len len, w, .cells r' el, cs.length, ?_, .inl rfl, by simp, fun ρ' own' a hx hρ ho => ⟨?_, ?_⟩⟩
          · have hu := run_und hT hi w
            have hmc : ((Array.range (len * z.length)).map fun x => zv.cells[x % zv.cells.size]!) = Builtin.zeroCells zv.cells len := by rw [← hzs]; rfl
            have hlim : ¬ (len * z.length > 2 ^ 24) := by omega
            simp only [execOp, hop, Instr.buildSlice, Sem.run_bind, hu, run_size hT hel, Result.andThen_ok]
            by_cases h0 : len * z.length = 0
            · have hz0 : Builtin.zeroCells zv.cells len = #[] := by
                rw [← hmc, h0, Array.range_zero']; simp
              rw [hz0] at k1
              have h00 : len = 0 := by
                rcases Nat.mul_eq_zero.1 h0 with h1 | h1
                · exact h1
                · omega
              subst h00
              simp [k1, newRow, Array.range_zero']
            · simp [hlim, h0, hz1, hmc, k1, newRow]
          · rw [← hlen]; exact or_tof rfl ho (k2.mono hx)
          · exact .slc a 0 z.length len len true _ _ len hρ (Nat.le_refl _) (Nat.le_refl _) (Nat.le_refl _) (fun _ => rfl) (by simp [hlen]) (fun _ => by simp [Loc.at])
        · cases h
      · cases hc
    · cases hc
  | convert s d x =>
    rw [hop] at hc
    simp only [cOp] at hc
    obtain ⟨X, hx, hc⟩ := obind_some hc
    have rx := hX _ _ hx
    unfold cConv at hc
    split at hc
    · cases hc; cases ha
    · cases hc; cases ha
    · rename_i e1 a2 b2 z2 hs hd2
      split at hc
      · rename_i b3 z3 he3
        cases hc
        simp only [alc] at h
        split at h
        · rename_i b he
          rw [he] at rx
          simp only [Option.some.injEq, Prod.mk.injEq] at h
          obtain ⟨rfl, rfl⟩ := h
          obtain ⟨b', hp, hb⟩ := rel_str_inv rx
          have u1 := run_und hT hs w
          have u2 := run_und hT hd2 w
          have u3 := run_und hT he3 w
          have hlen : b.length = b'.size := by rw [← hb, len_bytesL]
          obtain ⟨cap, hcap, hrun⟩ : ∃ cap, b'.size ≤ cap ∧ (choose (.appendCap b'.size 0 e1)).run P w = .ok cap w.drew := by
            refine ⟨(Question.appendCap b'.size 0 e1).cut (w.tape w.drawn (.appendCap b'.size 0 e1)), ?_, ?_⟩
            · simp [Question.cut]
            · rw [run_choose]; rfl
          obtain ⟨ar, har⟩ : ∃ ar : Array Value, ar = (b'.data.map fun b => Value.int .u8 b.toNat) ++ Array.replicate (cap - b'.size) (Value.int .u8 0) := ⟨_, rfl⟩
          have hsz : ar.size = cap := by
            have : b'.data.size = b'.size := rfl
            rw [har]; simp; omega
          have hfa := freeze_alloc w.drew ar e1 cap
          have hsh : (w.drew.alloc (.cells ar e1)).shape? w.heap.size = some (e1, cap) := by
            have := World.alloc_heap_new w.drew (.cells ar e1)
            simp only [World.shape?, show w.drew.heap.size = w.heap.size from rfl] at this ⊢
            rw [this, ← hsz]
          refine ⟨.slice (some ⟨w.heap.size, 0, none⟩) b'.size cap, w.drew, .cells ar e1 (cap, cap + 1), cap, ?_, .inr rfl, by simp, fun ρ' own' a hx' hρ ho => ⟨or_cells rfl ho (fun j hj => by simp; omega) (by omega) (by omega) (fun i hi => ?_), ?_⟩⟩
          · simp only [execOp, hop, hp, convert, Sem.run_bind, u1, u2, Result.andThen_ok, u3, Conv.stringToBytes, hrun, ← har, newRow_run, markStringish, run_shape]
            simp only [show w.drew.heap.size = w.heap.size from rfl, hsh, run_freeze, Result.andThen_ok] at hfa ⊢
            rw [hfa]
            rfl
          · have hib : i < b'.data.size := by rw [hlen] at hi; exact hi
            refine ⟨.int .u8 (b'.data[i]'hib).toNat, by rw [har, Array.getElem?_append_left (by simpa using hib)]; simp only [Array.getElem?_map, Array.getElem?_eq_getElem hib]; rfl, ?_⟩
            have : (bytesOf b)[i]? = some (.int .u8 (Int.ofNat (b'.data[i]'hib).toNat)) := by
              rw [get_bytesOf, ← hb]
              simp only [bytesL, List.getElem?_map, Array.getElem?_toList, Array.getElem?_eq_getElem hib]
              rfl
            rw [cget_tof [] this]
            exact .int _ _
          · rw [hlen]
            exact .slc a 0 1 b'.size b'.size false _ _ cap hρ (Nat.le_refl _) hcap hcap (by simp) (by simp) (fun _ => by simp [Loc.at])
        · cases h
      · cases hc
    · split at hc
      · cases hc; cases ha
      · cases hc
    · cases hc
  | _ =>
    exfalso
    rw [hop] at hc
    have := cOp_noAlc _ (by simp [alcSrc]) hc
    rw [this] at ha
    cases ha
end
end Ak
