/- append. -/
import Derived.Test.YtpbifekamdpdjaaGreatDoorAkOps9
import Derived.Laws.AppendOwn
namespace Ak
open Go
section
variable {P : Program} {TI : TypeId → Option Ti} {gl : List Nat} {C : Cor}

theorem cget_setAll : ∀ (vs : List V) (start : Nat) (c : T V) (z : List V) (k : Nat),
    cget (setAll vs start c) z k = if start ≤ k ∧ k < start + vs.length then vs.getD (k - start) .undef else cget c z k
  | [], start, c, z, k => by
    have : ¬ (start ≤ k ∧ k < start + ([] : List V).length) := by simp
    rw [if_neg this]; rfl
  | v :: vs, start, c, z, k => by
    simp only [setAll, cget_setAll vs, List.length_cons]
    by_cases h : start + 1 ≤ k ∧ k < start + 1 + vs.length
    · have h2 : start ≤ k ∧ k < start + (vs.length + 1) := by omega
      rw [if_pos h, if_pos h2]
      rw [show k - start = (k - (start + 1)) + 1 from by omega]
      simp [List.getD_eq_getElem?_getD]
    · rw [if_neg h]
      by_cases e : k = start
      · subst e
        simp [cget, T.get_set_same]
      · have h2 : ¬ (start ≤ k ∧ k < start + (vs.length + 1)) := by omega
        rw [if_neg h2]
        simp only [cget, T.get_set_ne _ _ e]

/-- A row of one-celled values stored into one block. -/
theorem storeRow (P : Program) (blk : Nat) (el : TypeId) (fr : Nat × Nat) : ∀ (vs : List Value) (a : Addr) (i start : Nat) (w : World) (arr : Array Value), w.heap[blk]? = some (.cells arr el fr) →
    (vs ≠ [] → a.add i = ⟨blk, start, none⟩) → a.spot = none → start + vs.length ≤ arr.size → (∀ j, j < vs.length → w.frozen? ⟨blk, start + j, none⟩ = false) → (∀ v ∈ vs, v.oneCell' = true) →
    ∃ (w' : World) (arr' : Array Value), (storeCells a vs i).run P w = .ok () w' ∧ w'.heap[blk]? = some (.cells arr' el fr) ∧ arr'.size = arr.size ∧
      (∀ k, arr'[k]? = if start ≤ k ∧ k < start + vs.length then vs[k - start]? else arr[k]?) ∧ (∀ b, b ≠ blk → w'.heap[b]? = w.heap[b]?) ∧ w'.heap.size = w.heap.size ∧
      w'.os = w.os ∧ w'.tape = w.tape ∧ w'.output = w.output
  | [], a, i, start, w, arr, hb, _, _, _, _, _ => ⟨w, arr, rfl, hb, rfl, fun k => by
      have : ¬ (start ≤ k ∧ k < start + ([] : List Value).length) := by simp
      rw [if_neg this], fun _ _ => rfl, rfl, rfl, rfl, rfl⟩
  | v :: vs, a, i, start, w, arr, hb, ha, hs, hle, hfr, hone => by
    have had := ha (by simp)
    have h1 := hone v (List.mem_cons_self ..)
    simp only [List.length_cons] at hle hfr
    have hlt : start < arr.size := by omega
    have hcell : w.cell? ⟨blk, start, none⟩ = some arr[start] := by rw [getElem_cell hb]; simp [hlt]
    have hf0 : w.frozen? ⟨blk, start, none⟩ = false := by simpa using hfr 0 (by omega)
    have hrun : (store ⟨blk, start, none⟩ v).run P w = .ok () (w.setCell ⟨blk, start, none⟩ v) := by
      rw [run_store P w _ _ _ h1, hcell]; simp [hf0]
    have hblk : (w.setCell ⟨blk, start, none⟩ v).heap[blk]? = some (.cells (arr.setIfInBounds start v) el fr) := by
      simp only [World.setCell, Array.getElem?_modify, hb]; simp
    obtain ⟨w', arr', k1, k2, k3, k4, k5, k6, k7, k8, k9⟩ := storeRow P blk el fr vs a (i + 1) (start + 1) (w.setCell ⟨blk, start, none⟩ v) (arr.setIfInBounds start v) hblk
      (fun _ => by rw [add_add a hs i 1, had, Addr.add_lit]) hs (by simp; omega) (fun j hj => by
        have := hfr (j + 1) (by omega)
        rw [World.frozen?_setCell]
        rwa [show start + 1 + j = start + (j + 1) from by omega]) (fun x hx => hone x (List.mem_cons_of_mem _ hx))
    refine ⟨w', arr', by simp only [storeCells, Sem.run_bind, had, hrun, Result.andThen_ok, k1], k2, by rw [k3]; simp, fun k => ?_, fun b hb => ?_, by rw [k6]; simp, k7, k8, k9⟩
    · rw [k4, List.length_cons]
      by_cases h : start + 1 ≤ k ∧ k < start + 1 + vs.length
      · have h2 : start ≤ k ∧ k < start + (vs.length + 1) := by omega
        rw [if_pos h, if_pos h2, show k - start = (k - (start + 1)) + 1 from by omega]
        simp
      · rw [if_neg h]
        by_cases e : k = start
        · subst e; simp [hlt]
        · have h2 : ¬ (start ≤ k ∧ k < start + (vs.length + 1)) := by omega
          rw [if_neg h2, Array.getElem?_setIfInBounds_ne (Ne.symm e)]
    · rw [k5 b hb]
      exact RowKit.Below.heap_setCell _ _ _ _ hb

/-- An object's cells taken over by a new one, in the same block; the old one is dead. -/
theorem HR.steal {ρ : Rho} {own : Own} {σ : H} {w w' : World} (h : HR C ρ own σ w) {id : Nat} {L : Loc} (hi : ρ id = some L) (ho : own L.blk = some id) (o : O) (L' : Loc) (hL : L'.blk = L.blk)
    (hb : ∀ b, b ≠ L.blk → w'.heap[b]? = w.heap[b]?) (hs : w'.heap.size = w.heap.size) (h1 : w'.os = w.os) (h2 : w'.tape = w.tape) (h3 : w'.output = w.output)
    (hO : OR C (ρ.add σ.next L') (own.add L.blk σ.next) w' σ.next L' o) (hk : isLp w L.blk → isLp w' L.blk) :
    HR C (ρ.add σ.next L') (own.add L.blk σ.next) ((σ.push o).put id .dead) w' ∧ Fr ρ own σ w (ρ.add σ.next L') (own.add L.blk σ.next) ((σ.push o).put id .dead) w' := by
  have hlt := (h.dom _ _ hi).1
  have hblk := (h.dom _ _ hi).2
  have hne : id ≠ σ.next := by omega
  refine ⟨⟨fun i M e => ?_, fun i M x e ex => ?_, fun b i e => ?_⟩, ⟨Rho.ext_add h.fresh, Nat.le_succ _, fun i e hi2 => ?_, ⟨[id], rfl, fun i hi2 hn => ?_⟩, fun b hb2 e => ⟨?_, hb b ?_⟩, by omega, h1, h2, h3, fun b hl => ?_⟩⟩
  · unfold Rho.add at e
    split at e
    · rename_i hi2; cases e; subst hi2; exact ⟨Nat.lt_succ_self _, by rw [hL, hs]; exact hblk⟩
    · obtain ⟨a, b⟩ := h.dom _ _ e; exact ⟨Nat.lt_succ_of_lt a, by rw [hs]; exact b⟩
  · rw [H.get_put, H.get_push] at ex
    by_cases e0 : i = id
    · subst e0
      rw [if_pos rfl] at ex
      cases ex
      trivial
    · rw [if_neg e0] at ex
      by_cases e1 : i = σ.next
      · subst e1
        rw [if_pos rfl] at ex
        cases ex
        have : L' = M := by simpa [Rho.add] using e
        subst this
        exact hO
      · rw [if_neg e1] at ex
        have e' : ρ i = some M := by simpa [Rho.add, e1] using e
        have hx := h.obj i M x e' ex
        by_cases eb : M.blk = L.blk
        · cases x with
          | dead => trivial
          | cells c z lo hi ro =>
            have := hx.1
            rw [eb, ho] at this
            cases ro with
            | true => simp at this
            | false => simp at this; exact absurd this.symm e0
          | map es => have := hx.1; rw [eb, ho] at this; cases this; exact absurd rfl e0
          | loop r => have := hx.1; rw [eb, ho] at this; cases this; exact absurd rfl e0
          | defs => have := hx.1; rw [eb, ho] at this; cases this; exact absurd rfl e0
          | shut => have := hx.1; rw [eb, ho] at this; cases this; exact absurd rfl e0
        · exact hx.stable (Rho.ext_add h.fresh) (hb _ eb) (by unfold Own.add; rw [if_neg eb])
  · unfold Own.add at e
    split at e
    · rename_i hb2; subst hb2; rw [hs]; exact hblk
    · rw [hs]; exact h.own _ _ e
  · constructor
    · unfold Rho.add; rw [if_neg (by omega)]; exact e
    · rw [H.get_put, if_neg (by intro e2; subst e2; rw [hi] at e; cases e), H.get_push, if_neg (by omega)]
  · rw [H.get_put, if_neg (by simpa using hn), H.get_push, if_neg (by omega)]
  · unfold Own.add
    rw [if_neg (by intro e2; subst e2; rw [ho] at e; cases e)]; exact e
  · intro e2; subst e2; rw [ho] at e; cases e
  · by_cases eb : b = L.blk
    · subst eb; exact hk hl
    · obtain ⟨r, e⟩ := hl
      exact ⟨r, (hb b eb).trans e⟩

/-- An object dies. -/
theorem HR.kill {ρ : Rho} {own : Own} {σ : H} {w : World} (h : HR C ρ own σ w) {id : Nat} {L : Loc} (hi : ρ id = some L) : HR C ρ own (σ.put id .dead) w ∧ Fr ρ own σ w ρ own (σ.put id .dead) w := by
  refine ⟨⟨fun i M e => h.dom i M e, fun i M x e ex => ?_, h.own⟩, ⟨.refl ρ, Nat.le_refl _, fun i e _ => ⟨e, ?_⟩, ⟨[id], rfl, fun i _ hn => ?_⟩, fun b _ e => ⟨e, rfl⟩, Nat.le_refl _, rfl, rfl, rfl, fun _ h => h⟩⟩
  · rw [H.get_put] at ex
    split at ex
    · cases ex; trivial
    · exact h.obj i M x e ex
  · rw [H.get_put, if_neg (by intro e2; subst e2; rw [hi] at e; cases e)]
  · rw [H.get_put, if_neg (by simpa using hn)]

/-- A new block of cells whose first cell is an object's cell 'lo'. -/
theorem push_at {ρ : Rho} {own : Own} {σ : H} {w : World} (hr : HR C ρ own σ w) (c : T V) (z : List V) (lo hi top : Nat) (arr : Array Value) (el : TypeId)
    (hn : hi ≤ lo + top) (ht : top ≤ arr.size) (hc : ∀ k, lo ≤ k → k < hi → ∃ v', arr[k - lo]? = some v' ∧ Rel ρ (cget c z k) v') :
    HR C (ρ.add σ.next ⟨w.heap.size, 0, lo, top⟩) (own.add w.heap.size σ.next) (σ.push (.cells c z lo hi false)) (w.alloc (.cells arr el)) ∧
    Fr ρ own σ w (ρ.add σ.next ⟨w.heap.size, 0, lo, top⟩) (own.add w.heap.size σ.next) (σ.push (.cells c z lo hi false)) (w.alloc (.cells arr el)) := by
  have hblk : (w.alloc (.cells arr el)).heap[w.heap.size]? = some (.cells arr el) := World.alloc_heap_new w _
  refine hr.push _ _ ⟨w.heap.size, 0, lo, top⟩ rfl ⟨by simp [Own.add], Nat.le_refl _, hn, arr, el, _, hblk, by simpa using ht, fun _ j hj => ?_, fun off h1 h2 => ?_⟩
  · simp only [World.frozen?, hblk]; simp
  · obtain ⟨v', e, rv⟩ := hc off h1 h2
    exact ⟨v', by simpa using e, rv.mono (Rho.ext_add hr.fresh)⟩

/-- The new cells stored, where there is room. -/
def StR (P : Program) (base : Option Addr) (off : Nat) (new : List Value) (w w' : World) : Prop :=
  match base with
  | none => w' = w
  | some a => (storeCells (a.add off) new).run P w = .ok () w'
def isSrc (d : TypeDesc) : Prop := d = .string ∨ ∃ e, d = .slice e
section
variable {t u ty e : TypeId} {d : TypeDesc} {i : TypeInfo} {z : Value} {base : Option Addr} {sLen sCap n : Nat} {x : Value} {w w' : World} {new old : Array Value}
theorem run_app_fit (ht : P.underlying t = some (.slice e)) (hu : P.underlying u = some d) (hd : isSrc d) (hi : P.info? e = some i)
    (hn : ∀ w, (Builtin.lenOf x).run P w = .ok n w) (hf : sLen + n ≤ sCap) (hnew : (Builtin.firstCells i.size n x).run P w = .ok new w)
    (hst : StR P base (sLen * i.size) new.toList w w') :
    (Builtin.append_ #[t, u] ty #[.slice base sLen sCap, x]).run P w = .ok (.slice base (sLen + n) sCap) w' := by
  cases base with
  | none =>
    simp only [StR] at hst
    subst hst
    rcases hd with rfl | ⟨e', rfl⟩ <;> simp [Builtin.append_, run_underlying ht, run_underlying hu, Go.sizeOf, typeInfo, hi, hn, hf, hnew]
  | some a =>
    simp only [StR] at hst
    rcases hd with rfl | ⟨e', rfl⟩ <;> simp [Builtin.append_, run_underlying ht, run_underlying hu, Go.sizeOf, typeInfo, hi, hn, hf, hnew, hst]

theorem run_app_grow (ht : P.underlying t = some (.slice e)) (hu : P.underlying u = some d) (hd : isSrc d) (hi : P.info? e = some i) (hz : i.zero = some z)
    (hn : ∀ w, (Builtin.lenOf x).run P w = .ok n w) (hf : sCap < sLen + n) (h63 : ((sLen + n : Nat) : Int) ≤ 9223372036854775807) (hfit : Builtin.nextslicecap (sLen + n) sCap * i.bytes ≤ 281474976710656)
    (hold : (Builtin.firstCells i.size sLen (.slice base sLen sCap)).run P w.drew = .ok old w.drew) (hnew : (Builtin.firstCells i.size n x).run P w.drew = .ok new w.drew) :
    (Builtin.append_ #[t, u] ty #[.slice base sLen sCap, x]).run P w = .ok (.slice (some ⟨w.heap.size, 0, none⟩) (sLen + n) (grownCap w (sLen + n) sCap e))
      (w.drew.alloc (.cells (old ++ new ++ Builtin.zeroCells z.cells (grownCap w (sLen + n) sCap e - (sLen + n))) e)) := by
  have hn2 : ¬ (sLen + n ≤ sCap) := by omega
  have h63' : ¬ (9223372036854775807 < ((sLen : Int) + (n : Int))) := by omega
  have h48' : ¬ (281474976710656 < Builtin.nextslicecap (sLen + n) sCap * i.bytes) := by omega
  rcases hd with rfl | ⟨e', rfl⟩ <;> simp [Builtin.append_, run_underlying ht, run_underlying hu, Go.sizeOf, typeInfo, zeroValue, hi, hz, hn, hn2, h63', h48', Question.forced, hnew, hold, newRow, grownCap]

theorem run_appz_fit {ku kx : IntKind} {l : Int} (ht : P.underlying t = some (.slice e)) (hu : P.underlying u = some (.int ku)) (hi : P.info? e = some i) (hz : i.zero = some z) (h0 : 0 < n * i.size)
    (hl : IntKind.i64.wrap l = n) (hb : (n : Int) * i.bytes ≤ 281474976710656) (hf : sLen + n ≤ sCap)
    (hst : StR P base (sLen * i.size) (Builtin.zeroCells z.cells n).toList w w') :
    (Builtin.append_ #[t, u] ty #[.slice base sLen sCap, .int kx l]).run P w = .ok (.slice base (sLen + n) sCap) w' := by
  have hb' : ¬ (281474976710656 < (n : Int) * i.bytes) := by omega
  have h0' : ¬ (n * i.size = 0) := by omega
  have hneg : ¬ ((n : Int) < 0) := by omega
  cases base with
  | none =>
    simp only [StR] at hst
    subst hst
    simp [Builtin.append_, run_underlying ht, run_underlying hu, Go.sizeOf, typeInfo, zeroValue, hi, hz, hf, hl, asInt, asIntOf, hb', hneg]
  | some a =>
    simp only [StR] at hst
    simp [Builtin.append_, run_underlying ht, run_underlying hu, Go.sizeOf, typeInfo, zeroValue, hi, hz, hf, hl, asInt, asIntOf, hb', h0', hneg, hst]
theorem run_appz_zero {ku kx : IntKind} {l : Int} (ht : P.underlying t = some (.slice e)) (hu : P.underlying u = some (.int ku)) (hi : P.info? e = some i)
    (hl : IntKind.i64.wrap l = 0) (hf : sLen ≤ sCap) :
    (Builtin.append_ #[t, u] ty #[.slice base sLen sCap, .int kx l]).run P w = .ok (.slice base sLen sCap) w := by
  cases base with
  | none =>
    simp [Builtin.append_, run_underlying ht, run_underlying hu, Go.sizeOf, typeInfo, hi, hf, hl, asInt, asIntOf]
  | some a =>
    simp [Builtin.append_, run_underlying ht, run_underlying hu, Go.sizeOf, typeInfo, hi, hf, hl, asInt, asIntOf, storeCells]

theorem run_appz_grow {ku kx : IntKind} {l : Int} (ht : P.underlying t = some (.slice e)) (hu : P.underlying u = some (.int ku)) (hi : P.info? e = some i) (hz : i.zero = some z) (h0 : 0 < n * i.size)
    (hl : IntKind.i64.wrap l = n) (hb : (n : Int) * i.bytes ≤ 281474976710656) (hf : sCap < sLen + n) (h63 : ((sLen + n : Nat) : Int) ≤ 9223372036854775807) (hfit : Builtin.nextslicecap (sLen + n) sCap * i.bytes ≤ 281474976710656)
    (hold : (Builtin.firstCells i.size sLen (.slice base sLen sCap)).run P w.drew = .ok old w.drew) :
    (Builtin.append_ #[t, u] ty #[.slice base sLen sCap, .int kx l]).run P w = .ok (.slice (some ⟨w.heap.size, 0, none⟩) (sLen + n) (grownCap w (sLen + n) sCap e))
      (w.drew.alloc (.cells (old ++ Builtin.zeroCells z.cells n ++ Builtin.zeroCells z.cells (grownCap w (sLen + n) sCap e - (sLen + n))) e)) := by
  have hb' : ¬ (281474976710656 < (n : Int) * i.bytes) := by omega
  have h0' : ¬ (n * i.size = 0) := by omega
  have hneg : ¬ ((n : Int) < 0) := by omega
  have hn2 : ¬ (sLen + n ≤ sCap) := by omega
  have h63' : ¬ (9223372036854775807 < ((sLen : Int) + (n : Int))) := by omega
  have h48' : ¬ (281474976710656 < Builtin.nextslicecap (sLen + n) sCap * i.bytes) := by omega
  simp [Builtin.append_, run_underlying ht, run_underlying hu, Go.sizeOf, typeInfo, zeroValue, hi, hz, hl, asInt, asIntOf, hb', h0', hneg, hn2, h63', h48', Question.forced, hold, newRow, grownCap]
end

section
variable {α : Type} {ρ : Rho} {own : Own} {σ : H} {w : World} {K : V → H → Option α} {r : α}
theorem app_ok {sz bytes n : Nat} {s : V} {s' : Value} {new : List V} {new' : List Value} (h : appK σ sz bytes s new n K = some r) (hr : HR C ρ own σ w) (hs : Rel ρ s s') (hn : RelL ρ new new') (hl : new'.length = n * sz) (hsz : 0 < sz) (el : TypeId) :
    ∃ base sLen sCap, s' = .slice base sLen sCap ∧
      ((sLen + n ≤ sCap ∧ ∃ w', StR P base (sLen * sz) new' w w' ∧ SimV C K r ρ own σ w (.slice base (sLen + n) sCap) w') ∨
       (sCap < sLen + n ∧ (sLen + n) * bytes ≤ 140737488355328 ∧ ∃ old' : List Value, (Builtin.firstCells sz sLen (.slice base sLen sCap)).run P w.drew = .ok old'.toArray w.drew ∧
          ∀ (cap' : Nat) (rest : Array Value), sLen + n ≤ cap' → rest.size = (cap' - (sLen + n)) * sz →
            SimV C K r ρ own σ w (.slice (some ⟨w.heap.size, 0, none⟩) (sLen + n) cap') (w.drew.alloc (.cells (old'.toArray ++ new'.toArray ++ rest) el)))) := by
  unfold appK at h
  obtain ⟨hone, h⟩ := bif_else h
  have hone : allOne new = true := by simpa using hone
  have hone' := allOne_rel hone hn
  split at h
  · -- nil
    have hp := rel_nils_inv hs
    refine ⟨none, 0, 0, hp, ?_⟩
    obtain ⟨h0, h⟩ | ⟨h0, h⟩ := bif_some h
    · have h0 : n = 0 := by simpa using h0
      subst h0
      exact .inl ⟨Nat.le_refl _, w, rfl, .same hr h .nils⟩
    · have h0 : ¬ n = 0 := by intro e; subst e; cases h0
      obtain ⟨hb, h⟩ := bif_then h
      have hb := leB_iff.1 hb
      refine .inr ⟨by omega, by simpa using hb, [], by simp [Builtin.firstCells], fun cap' rest hc hrs => ?_⟩
      have hmul : n * sz + (cap' - n) * sz = cap' * sz := by rw [← Nat.add_mul]; congr 1; omega
      simp only [Nat.zero_add] at hrs hc
      obtain ⟨q1, q2⟩ := push_cells (C := C) hr.drew (tof new) [] (n * sz) (cap' * sz) (([] : List Value).toArray ++ new'.toArray ++ rest) el (Nat.mul_le_mul_right _ (by omega))
        (by simp [hl, hrs]; omega) (fun i hi => by
          have hi2 : i < new.length := by rw [hn.1, hl]; exact hi
          obtain ⟨v', e, rv⟩ := hn.get (i := i) (v := new[i]) (by simp [hi2])
          refine ⟨v', ?_, ?_⟩
          · rw [Array.getElem?_append_left (by simp [hl]; exact hi)]
            simpa using e
          · rw [cget_tof (v := new[i]) [] (by simp [hi2])]; exact rv)
      refine ⟨_, _, _, _, h, ?_, q1, Fr.drew.trans q2⟩
      simp only [Nat.zero_add]
      exact .slc σ.next 0 sz n n false ⟨w.heap.size, 0, 0, cap' * sz⟩ _ cap' (by simp [Rho.add]) (Nat.le_refl _) hc hc (by simp) (by simp) (fun _ => by simp [Loc.at])
  · -- a slice
    rename_i id off s0 len mn ex _
    obtain ⟨L, a, cap, hL, hp, hlo, h1, h2, h3, h4, h5⟩ := rel_slc_inv hs
    refine ⟨some a, len, cap, hp, ?_⟩
    split at h
    · rename_i c z lo hi ro hob
      obtain ⟨hg, h⟩ := bif_then h
      simp only [Bool.and_eq_true, leB_iff, Nat.beq_eq] at hg
      obtain ⟨⟨g1, g2⟩, rfl⟩ := hg
      obtain ⟨o1, o2, o3, arr, el0, fr, o4, o5, o6, o7⟩ := hr.obj _ _ _ hL hob
      have hmul : len * s0 + n * s0 = (len + n) * s0 := (Nat.add_mul _ _ _).symm
      have hnl : new.length = n * s0 := by rw [hn.1, hl]
      -- the old cells
      have hold : ∃ old' : List Value, old'.length = len * s0 ∧ (Builtin.firstCells s0 len (.slice (some a) len cap)).run P w.drew = .ok old'.toArray w.drew ∧
          ∀ k, off ≤ k → k < off + len * s0 → ∃ v', old'[k - off]? = some v' ∧ Rel ρ (cget c z k) v' := by
        refine ⟨(List.range (len * s0)).map fun j => arr.getD (L.base + (off + j - L.lo)) undef, by simp, ?_, fun k k1 k2 => ?_⟩
        · simp only [Builtin.firstCells]
          have := run_loadCells_list (P := P) w.drew a ((List.range (len * s0)).map fun j => arr.getD (L.base + (off + j - L.lo)) undef) (fun j v e => by
            simp only [List.getElem?_map] at e
            by_cases hj : j < len * s0
            · have hne : cap ≠ 0 := by
                intro e0
                have : len = 0 := by omega
                subst this
                simp at hj
              rw [h5 hne, Loc.at_add (by omega)]
              simp only [List.getElem?_range hj, Option.map_some, Option.some.injEq] at e
              subst e
              obtain ⟨v', e', _⟩ := o7 (off + j) (by omega) (by omega)
              rw [World.cell?_drew]
              unfold Loc.at
              rw [getElem_cell o4, e', Array.getD_eq_getD_getElem?, e']
              rfl
            · rw [List.getElem?_eq_none (by simp; omega)] at e; cases e)
          simpa using this
        · obtain ⟨v', e', rv⟩ := o7 k (by omega) (by omega)
          refine ⟨v', ?_, rv⟩
          simp only [List.getElem?_map]
          rw [List.getElem?_range (by omega)]
          simp only [Option.map_some, Array.getD_eq_getD_getElem?]
          rw [show off + (k - off) - L.lo = k - L.lo from by omega, e']
          rfl
      -- growing
      have grow : ∀ (K2 : H → Option α), K2 (σ.push (.cells (setAll new (off + len * s0) c) z off (off + (len + n) * s0) false)) = some r → ∀ (fin : ∀ ρ' own' w', HR C ρ' own' (σ.push (.cells (setAll new (off + len * s0) c) z off (off + (len + n) * s0) false)) w' →
            Fr ρ own σ w ρ' own' (σ.push (.cells (setAll new (off + len * s0) c) z off (off + (len + n) * s0) false)) w' → ∃ σ', K (.slc σ.next off s0 (len + n) (len + n) false) σ' = some r ∧ HR C ρ' own' σ' w' ∧ Fr ρ own σ w ρ' own' σ' w'),
          ∃ old' : List Value, (Builtin.firstCells s0 len (.slice (some a) len cap)).run P w.drew = .ok old'.toArray w.drew ∧
          ∀ (cap' : Nat) (rest : Array Value), len + n ≤ cap' → rest.size = (cap' - (len + n)) * s0 →
            SimV C K r ρ own σ w (.slice (some ⟨w.heap.size, 0, none⟩) (len + n) cap') (w.drew.alloc (.cells (old'.toArray ++ new'.toArray ++ rest) el)) := by
        intro K2 _ fin
        obtain ⟨old', d1, d2, d3⟩ := hold
        refine ⟨old', d2, fun cap' rest hc hrs => ?_⟩
        have hmul2 : (len + n) * s0 + (cap' - (len + n)) * s0 = cap' * s0 := by rw [← Nat.add_mul]; congr 1; omega
        have hle2 : (len + n) * s0 ≤ cap' * s0 := Nat.mul_le_mul_right _ hc
        obtain ⟨q1, q2⟩ := push_at (C := C) hr.drew (setAll new (off + len * s0) c) z off (off + (len + n) * s0) (cap' * s0) (old'.toArray ++ new'.toArray ++ rest) el (by omega)
          (by simp [d1, hl, hrs]; omega) (fun k k1 k2 => by
            rw [cget_setAll, hnl]
            by_cases hk : off + len * s0 ≤ k ∧ k < off + len * s0 + n * s0
            · rw [if_pos hk]
              have hi2 : k - (off + len * s0) < new.length := by omega
              obtain ⟨v', e, rv⟩ := hn.get (i := k - (off + len * s0)) (v := new[k - (off + len * s0)]) (by simp [hi2])
              refine ⟨v', ?_, ?_⟩
              · rw [Array.getElem?_append_left (by simp [d1, hl]; omega), Array.getElem?_append_right (by simp [d1]; omega)]
                rw [show k - off - old'.toArray.size = k - (off + len * s0) from by simp [d1]; omega]
                simpa using e
              · simpa [List.getD_eq_getElem?_getD, hi2] using rv
            · rw [if_neg hk]
              obtain ⟨v', e, rv⟩ := d3 k k1 (by omega)
              refine ⟨v', ?_, rv⟩
              rw [Array.getElem?_append_left (by simp [d1, hl]; omega), Array.getElem?_append_left (by simp [d1]; omega)]
              simpa using e)
        obtain ⟨σ', k1, k2, k3⟩ := fin _ _ _ q1 (Fr.drew.trans q2)
        exact ⟨_, σ', _, _, k1, .slc σ.next off s0 (len + n) (len + n) false ⟨w.heap.size, 0, off, cap' * s0⟩ _ cap' (by simp [Rho.add]) (Nat.le_refl _) hc hc (by simp) (by simp) (fun _ => by simp [Loc.at]), k2, k3⟩
      -- in place
      have inpl : ro = false → len + n ≤ cap → ∃ (w' : World) (arr' : Array Value), (storeCells (a.add (len * s0)) new').run P w = .ok () w' ∧ w'.heap[L.blk]? = some (.cells arr' el0 fr) ∧ arr'.size = arr.size ∧
          (∀ k, arr'[k]? = if L.base + (off + len * s0 - L.lo) ≤ k ∧ k < L.base + (off + len * s0 - L.lo) + new'.length then new'[k - (L.base + (off + len * s0 - L.lo))]? else arr[k]?) ∧
          (∀ b, b ≠ L.blk → w'.heap[b]? = w.heap[b]?) ∧ w'.heap.size = w.heap.size ∧ w'.os = w.os ∧ w'.tape = w.tape ∧ w'.output = w.output := by
        intro hro hfit
        have hle : (len + n) * s0 ≤ cap * s0 := Nat.mul_le_mul_right _ hfit
        by_cases hc0 : cap = 0
        · have : n = 0 := by omega
          have hnil : new' = [] := by rw [this] at hl; simpa using hl
          subst hnil
          refine ⟨w, arr, rfl, o4, rfl, fun k => ?_, fun _ _ => rfl, rfl, rfl, rfl, rfl⟩
          rw [if_neg (by simp)]
        · refine storeRow P L.blk el0 fr new' (a.add (len * s0)) 0 _ w arr o4 (fun _ => ?_) ?_ ?_ (fun j hj => ?_) hone'
          · rw [h5 hc0, Loc.at_add (by omega)]
            unfold Loc.at Addr.add
            simp
          · rw [h5 hc0, Loc.at_add (by omega)]; rfl
          · rw [hl]; omega
          · rw [Nat.add_assoc]
            exact o6 hro _ (by rw [hl] at hj; omega)
      obtain ⟨hm, h⟩ | ⟨hm, h⟩ := bif_some h
      · -- room that is known
        have hm := leB_iff.1 hm
        obtain ⟨hro, h⟩ := bif_else h
        subst hro
        obtain ⟨w', arr', i1, i2, i3, i4, i5, i6, i7, i8, i9⟩ := inpl rfl (by omega)
        have hle : (len + n) * s0 ≤ cap * s0 := Nat.mul_le_mul_right _ (by omega)
        simp at o1
        refine .inl ⟨by omega, w', i1, ?_⟩
        obtain ⟨q1, q2⟩ := hr.mut hL o1 (.cells (setAll new (off + len * s0) c) z lo (max hi (off + (len + n) * s0)) false) i5 i6 i7 i8 i9
          ⟨by simp [o1], o2, by omega, arr', el0, fr, i2, by omega, fun _ j hj => by
              have := o6 rfl j hj
              simp only [World.frozen?, o4] at this
              simp only [World.frozen?, i2]
              exact this, fun k k1 k2 => by
            rw [cget_setAll, hnl, i4, hl]
            by_cases hk : off + len * s0 ≤ k ∧ k < off + len * s0 + n * s0
            · rw [if_pos hk, if_pos (by omega)]
              have hi2 : k - (off + len * s0) < new.length := by omega
              obtain ⟨v', e, rv⟩ := hn.get (i := k - (off + len * s0)) (v := new[k - (off + len * s0)]) (by simp [hi2])
              refine ⟨v', ?_, by simpa [List.getD_eq_getElem?_getD, hi2] using rv⟩
              rw [show L.base + (k - L.lo) - (L.base + (off + len * s0 - L.lo)) = k - (off + len * s0) from by omega]
              exact e
            · rw [if_neg hk, if_neg (by omega)]
              exact o7 k k1 (by omega)⟩ (fun ⟨_, e9⟩ => by rw [o4] at e9; cases e9)
        exact ⟨_, _, _, _, h, .slc id off s0 (len + n) mn ex L a cap hL hlo (by omega) h2 h3 h4 h5, q1, q2⟩
      · have hm : ¬ (len + n ≤ mn) := by
          intro e; have := leB_iff.2 e; rw [this] at hm; cases hm
        obtain ⟨hb, h⟩ := bif_then h
        have hb := leB_iff.1 hb
        obtain ⟨hex, h⟩ | ⟨hex, h⟩ := bif_some h
        · have hcm := h3 hex
          exact .inr ⟨by omega, hb, grow (fun σ' => K _ σ') h (fun ρ' own' w' x1 x2 => ⟨_, h, x1, x2⟩)⟩
        · obtain ⟨hro, h⟩ := bif_else h
          subst hro
          simp at o1
          by_cases hfit : len + n ≤ cap
          · obtain ⟨w', arr', i1, i2, i3, i4, i5, i6, i7, i8, i9⟩ := inpl rfl hfit
            have hle : (len + n) * s0 ≤ cap * s0 := Nat.mul_le_mul_right _ hfit
            refine .inl ⟨hfit, w', i1, ?_⟩
            obtain ⟨q1, q2⟩ := hr.steal hL o1 (.cells (setAll new (off + len * s0) c) z off (off + (len + n) * s0) false) ⟨L.blk, L.base + (off - L.lo), off, cap * s0⟩ rfl i5 i6 i7 i8 i9
              ⟨by simp [Own.add], Nat.le_refl _, by simp; omega, arr', el0, fr, i2, by simp; omega, fun _ j hj => by
                  have := o6 rfl (off - L.lo + j) (by simp at hj; omega)
                  simp only [World.frozen?, o4] at this
                  simp only [World.frozen?, i2]
                  rw [Nat.add_assoc]
                  exact this, fun k k1 k2 => by
                rw [cget_setAll, hnl]
                simp only
                rw [i4, hl]
                by_cases hk : off + len * s0 ≤ k ∧ k < off + len * s0 + n * s0
                · rw [if_pos hk, if_pos (by omega)]
                  have hi2 : k - (off + len * s0) < new.length := by omega
                  obtain ⟨v', e, rv⟩ := hn.get (i := k - (off + len * s0)) (v := new[k - (off + len * s0)]) (by simp [hi2])
                  refine ⟨v', ?_, Rel.mono (Rho.ext_add hr.fresh) (by simpa [List.getD_eq_getElem?_getD, hi2] using rv)⟩
                  rw [show L.base + (off - L.lo) + (k - off) - (L.base + (off + len * s0 - L.lo)) = k - (off + len * s0) from by omega]
                  exact e
                · rw [if_neg hk, if_neg (by omega)]
                  obtain ⟨v', e, rv⟩ := o7 k (by omega) (by omega)
                  refine ⟨v', ?_, rv.mono (Rho.ext_add hr.fresh)⟩
                  rw [show L.base + (off - L.lo) + (k - off) = L.base + (k - L.lo) from by omega]
                  exact e⟩ (fun ⟨_, e9⟩ => by rw [o4] at e9; cases e9)
            refine ⟨_, _, _, _, h, .slc σ.next off s0 (len + n) (len + n) false ⟨L.blk, L.base + (off - L.lo), off, cap * s0⟩ a cap (by simp [Rho.add]) (Nat.le_refl _) hfit hfit (by simp) (by simp) (fun hc => ?_), q1, q2⟩
            rw [h5 hc]
            unfold Loc.at
            simp
          · refine .inr ⟨by omega, hb, grow (fun σ' => K _ (σ'.put id .dead)) h (fun ρ' own' w' x1 x2 => ?_)⟩
            obtain ⟨y1, y2⟩ := x1.kill (x2.ext _ _ hL)
            exact ⟨_, h, y1, x2.trans y2⟩
    · cases h
  · cases h
end

theorem app_sim {α : Type} {ρ : Rho} {own : Own} {σ : H} {w : World} {K : V → H → Option α} {r : α} (hT : TIok P TI) {t u ty e : TypeId} {d : TypeDesc} {ti : Ti} {z : List V} (ht : P.underlying t = some (.slice e)) (hu : P.underlying u = some d) (hd : isSrc d)
    (he : TI e = some ti) (hz : ti.zero = some z) (hzl : z.length = ti.size) (hsz : 0 < ti.size) (hbs : 0 < ti.bytes) {s : V} {s' x' : Value} {new : List V} {new' : List Value} {n : Nat} (h : appK σ ti.size ti.bytes s new n K = some r) (hr : HR C ρ own σ w)
    (hs : Rel ρ s s') (hn : RelL ρ new new') (hl : new'.length = n * ti.size) (hlen : ∀ w, (Builtin.lenOf x').run P w = .ok n w) (hnew : ∀ w', w'.heap = w.heap → (Builtin.firstCells ti.size n x').run P w' = .ok new'.toArray w') :
    OkV C K r ρ own σ w ((Builtin.append_ #[t, u] ty #[s', x']).run P w |>.andThen fun v w => .ok (.value v) w) := by
  obtain ⟨i, i1, i2, i3, i4⟩ := hT.info _ _ he
  obtain ⟨zv, hz1, hz2, _⟩ := i4 z hz
  have hzs : zv.cells.size = ti.size := by have := (ofSs_rel ρ hz2).1; rw [← hzl, this]; simp
  obtain ⟨base, sLen, sCap, rfl, hcase⟩ := app_ok h hr hs hn hl hsz e
  rcases hcase with ⟨hfit, w', hst, hsim⟩ | ⟨hgr, hb, old', hold, hsim⟩
  · refine .inl ⟨_, w', ?_, hsim⟩
    rw [run_app_fit (new := new'.toArray) ht hu hd i1 hlen hfit (by rw [i2]; exact hnew w rfl) (by rw [i2]; exact hst)]
    rfl
  · have hle : sLen + n ≤ (sLen + n) * ti.bytes := Nat.le_mul_of_pos_right _ hbs
    refine .inl ⟨_, _, ?_, hsim (grownCap w (sLen + n) sCap e) (Builtin.zeroCells zv.cells (grownCap w (sLen + n) sCap e - (sLen + n))) (grownCap_ge _ _ _ _) (by rw [size_zeroCells, hzs])⟩
    rw [run_app_grow (old := old'.toArray) (new := new'.toArray) ht hu hd i1 hz1 hlen hgr (by omega) (growslice_fits hgr (by rw [i3]; exact hb)) (by rw [i2]; exact hold) (by rw [i2]; exact hnew _ rfl)]
    rfl

theorem size_firstCells {ρ : Rho} {vs : List V} {vs' : List Value} (_ : RelL ρ vs vs') {n m : Nat} (h : vs'.length = n * m) : vs'.take (n * m) = vs' := List.take_of_length_le (by omega)

theorem src_ok_all {α : Type} {ρ : Rho} {own : Own} {σ : H} {w : World} {sz : Nat} {v : V} {v' : Value} {K : List V → Nat → Option α} {r : α} (h : srcK σ sz v K = some r) (hv : Rel ρ v v') (hr : HR C ρ own σ w) :
    ∃ vs vs' n, K vs n = some r ∧ RelL ρ vs vs' ∧ vs'.length = n * sz ∧ (∀ w', (Builtin.lenOf v').run P w' = .ok n w') ∧ ∀ w', w'.heap = w.heap → (Builtin.firstCells sz n v').run P w' = .ok vs'.toArray w' := by
  unfold srcK at h
  split at h
  · rename_i id off s0 len mn ex
    obtain ⟨L, a, cap, hL, rfl, hl, h1, h2, h3, h4, h5⟩ := rel_slc_inv hv
    obtain ⟨h0, vs, vs', k1, k2, k3, k4⟩ := ldnK_ok hr hL _ _ h
    refine ⟨vs, vs', len, k1, k2, k3, fun _ => by simp [Builtin.lenOf], fun w' hw => ?_⟩
    simp only [Builtin.firstCells]
    by_cases hc : cap = 0
    · have h00 : len = 0 := by omega
      subst h00
      have hnil : vs' = [] := by simpa using k3
      subst hnil
      simp [loadCells, loadCellsFrom]
    · have ha := h5 hc
      have := run_loadCells_list (P := P) w' a vs' (fun j x e => by
        rw [ha, Loc.at_add hl]
        have := k4 j x e
        simp only [World.cell?, hw] at this ⊢
        exact this)
      rw [k3] at this
      exact this
  · obtain rfl := rel_nils_inv hv
    exact ⟨[], [], 0, h, .nil ρ, by simp, fun _ => by simp [Builtin.lenOf], fun w' _ => by simp [Builtin.firstCells]⟩
  · cases h

theorem rel_slice_le {ρ : Rho} {v : V} {b : Option Addr} {l c : Nat} (h : Rel ρ v (.slice b l c)) (hu : v ≠ .undef) : l ≤ c := by
  cases h <;> first | omega | exact absurd rfl hu

theorem wrap_nat (n : Int) (h0 : 0 ≤ n) (h : n ≤ 9223372036854775807) : IntKind.i64.wrap n = (n.toNat : Int) := by rw [IntKind.wrap_i64]; omega

theorem sim_append (hT : TIok P TI) (ts : Array TypeId) (as : Array Operand) : OpSim P TI gl C (.call { callee := .builtin .append, args := as, argTypes := ts }) := by
  intro α hd p e φ σ w ρ own K r o ho hc hr hX h
  simp only [cOp] at hc
  obtain ⟨xs, hxs, hq⟩ := obind_some hc
  clear hc
  unfold cBi at hq
  split at hq <;> first | (contradiction) | skip
  rename_i s u X Y _ hts
  obtain ⟨a, b, rfl, hx, hy⟩ := cXs_two hxs
  obtain rfl := arr_two hts
  have rx := hX _ _ hx
  have ry := hX _ _ hy
  rw [run_bi _ _ _ o ho φ]
  have hrun : ∀ ty c, (builtin .append #[s, u] ty c (#[a, b].map φ)).run P w = ((Builtin.append_ #[s, u] ty #[φ a, φ b]).run P w).andThen fun v w => .ok (.value v) w := by
    intro ty c
    simp [builtin]
  rw [hrun]
  split at hq
  · rename_i el s0 b0 z0 el2 s1 b1 z1 hi hi2
    split at hq
    · rename_i d sz bs z hel
      obtain ⟨hg, hq⟩ := bif_then hq
      cases hq
      simp only [Bool.and_eq_true, Nat.beq_eq, blt_iff] at hg
      obtain ⟨⟨hg1, hg2⟩, hg3⟩ := hg
      simp only [opK] at h
      obtain ⟨vs, vs', n, k1, k2, k3, k4, k5⟩ := src_ok_all (P := P) h ry hr
      exact app_sim (ti := ⟨d, sz, bs, some z⟩) hT (hT.und _ _ hi) (hT.und _ _ hi2) (.inr ⟨_, rfl⟩) hel rfl hg3 hg1 hg2 k1 hr rx k2 k3 k4 k5
    · cases hq
  · rename_i el s0 b0 z0 s1 b1 z1 hi hi2
    split at hq
    · rename_i zz hel
      cases hq
      simp only [opK] at h
      split at h
      · rename_i bs he
        rw [he] at ry
        obtain ⟨b', hp, hb'⟩ := rel_str_inv ry
        have hlen : bs.length = b'.size := by rw [← hb', len_bytesL]
        have hfc : ∀ w', (Builtin.firstCells 1 b'.size (.string b')).run P w' = .ok ((b'.data.toList.map fun b => Value.int .u8 b.toNat).toArray) w' := by
          intro w'
          simp only [Builtin.firstCells, Sem.run_pure]
          congr 1
          apply Array.ext'
          have : b'.extract 0 b'.size = b' := ByteArray.extract_zero_size
          rw [this]
          simp
        have hrel : RelL ρ (bytesOf bs) (b'.data.toList.map fun b => Value.int .u8 b.toNat) := by
          rw [← hb']
          unfold bytesL
          generalize b'.data.toList = l
          induction l with
          | nil => exact .nil ρ
          | cons a l ih => exact .cons (.int _ _) ih
        rw [hp]
        exact app_sim (ti := ⟨.int .u8, 1, 1, some [zz]⟩) hT (hT.und _ _ hi) (hT.und _ _ hi2) (.inl rfl) hel rfl rfl (by simp) (by simp) h hr rx hrel (by rw [hlen]; simp) (fun w' => by rw [hlen]; simp [Builtin.lenOf]) (fun w' _ => by rw [hlen]; exact hfc w')
      · cases h
    · cases hq
  · rename_i el s0 b0 z0 ku s1 b1 z1 hi hi2
    split at hq
    · rename_i d sz bs z hel
      obtain ⟨hg, hq⟩ := bif_then hq
      cases hq
      simp only [Bool.and_eq_true, Nat.beq_eq, blt_iff] at hg
      obtain ⟨⟨hg1, hg2⟩, hg3⟩ := hg
      simp only [opK] at h
      obtain ⟨k, m, e1, hm, h⟩ := natK_ok h
      obtain ⟨hb, h⟩ := bif_then h
      have hb := leB_iff.1 hb
      rw [e1] at ry
      have hp := rel_int_inv ry
      obtain ⟨i, i1, i2, i3, i4⟩ := hT.info _ _ hel
      obtain ⟨zv, hz1, hz2, _⟩ := i4 z rfl
      simp only at i2 i3
      have hzs : zv.cells.size = sz := by have := (ofSs_rel ρ hz2).1; rw [← hg3, this]; simp
      have hnew := rel_zeroCells (ofSs_rel ρ hz2) m.toNat
      have hl : (Builtin.zeroCells zv.cells m.toNat).toList.length = m.toNat * sz := by simp [size_zeroCells, hzs]
      rw [hg3] at h
      have hle : m.toNat ≤ m.toNat * bs := Nat.le_mul_of_pos_right _ hg2
      have hw := wrap_nat m hm (by omega)
      obtain ⟨base, sLen, sCap, hps, hcase⟩ := app_ok h hr rx hnew hl hg1 el
      have hnu : e X ≠ .undef := by
        intro e0
        rw [e0] at h
        unfold appK at h
        obtain ⟨_, h⟩ := bif_else h
        cases h
      rw [hps, hp]
      have hb2 : (m.toNat : Int) * i.bytes ≤ 281474976710656 := by rw [i3, ← Int.natCast_mul]; omega
      by_cases h0 : m.toNat = 0
      · rw [h0] at hw
        have hle0 : sLen ≤ sCap := rel_slice_le (hps ▸ rx) hnu
        rcases hcase with ⟨hfit, w', hst, hsim⟩ | ⟨hgr, _⟩
        · have hww : w' = w := by
            cases base with
            | none => exact hst
            | some aa => rw [h0] at hst; simp [StR, Builtin.zeroCells, storeCells] at hst; exact hst.symm
          subst hww
          rw [h0] at hsim
          refine .inl ⟨_, w', ?_, hsim⟩
          rw [run_appz_zero (hT.und _ _ hi) (hT.und _ _ hi2) i1 hw hle0]
          rfl
        · omega
      · have hpos : 0 < m.toNat * i.size := Nat.mul_pos (by omega) (by rw [i2]; exact hg1)
        rcases hcase with ⟨hfit, w', hst, hsim⟩ | ⟨hgr, hb3, old', hold, hsim⟩
        · refine .inl ⟨_, w', ?_, hsim⟩
          rw [run_appz_fit (hT.und _ _ hi) (hT.und _ _ hi2) i1 hz1 hpos hw hb2 hfit (by rw [i2]; exact hst)]
          rfl
        · have hle2 : sLen + m.toNat ≤ (sLen + m.toNat) * bs := Nat.le_mul_of_pos_right _ hg2
          refine .inl ⟨_, _, ?_, hsim (grownCap w (sLen + m.toNat) sCap el) (Builtin.zeroCells zv.cells (grownCap w (sLen + m.toNat) sCap el - (sLen + m.toNat))) (grownCap_ge _ _ _ _) (by rw [size_zeroCells, hzs])⟩
          rw [run_appz_grow (old := old'.toArray) (hT.und _ _ hi) (hT.und _ _ hi2) i1 hz1 hpos hw hb2 hgr (by omega) (growslice_fits hgr (by rw [i3]; exact hb3)) (by rw [i2]; exact hold)]
          simp
    · cases hq
  · cases hq
end
end Ak
