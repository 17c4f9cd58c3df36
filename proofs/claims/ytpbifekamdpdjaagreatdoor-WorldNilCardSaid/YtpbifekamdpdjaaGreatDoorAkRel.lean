/- What the abstract evaluator's values and heap have to do with the machine's. -/
import Derived.Test.YtpbifekamdpdjaaGreatDoorAkCore
import Derived.Laws.Sem
import Derived.Laws.World
import Derived.Laws.Cells
import Derived.RangeFuncRecord
import Derived.Below
import Derived.MapKept
namespace Ak
open Go

/-- Where an object lies: the block; the place there of its cell 'lo'; how many cells from there on are at hand. -/
structure Loc where
  blk : Nat
  base : Nat
  lo : Nat
  top : Nat
abbrev Rho := Nat → Option Loc
abbrev Own := Nat → Option Nat
def Loc.at (L : Loc) (off : Nat) : Addr := ⟨L.blk, L.base + (off - L.lo), none⟩

inductive Rel (ρ : Rho) : V → Value → Prop
  | undef (v : Value) : Rel ρ .undef v
  | bool (b : Bool) : Rel ρ (.bool b) (.bool b)
  | int (k : IntKind) (n : Int) : Rel ρ (.int k n) (.int k n)
  | str (s : List Nat) (b : ByteArray) (h : b.data.toList.map UInt8.toNat = s) : Rel ρ (.str s) (.string b)
  | nil : Rel ρ .nil (.pointer none)
  | ptr (id off : Nat) (L : Loc) (h : ρ id = some L) (hl : L.lo ≤ off) : Rel ρ (.ptr id off) (.pointer (some (L.at off)))
  | nils : Rel ρ .nils (.slice none 0 0)
  | slc (id off sz len mn : Nat) (ex : Bool) (L : Loc) (a : Addr) (cap : Nat) (h : ρ id = some L) (hl : L.lo ≤ off) (h1 : len ≤ cap) (h2 : mn ≤ cap)
      (h3 : ex = true → cap = mn) (h4 : off - L.lo + cap * sz ≤ L.top) (h5 : cap ≠ 0 → a = L.at off) : Rel ρ (.slc id off sz len mn ex) (.slice (some a) len cap)
  | nilm : Rel ρ .nilm (.map none)
  | map (id : Nat) (L : Loc) (h : ρ id = some L) : Rel ρ (.map id) (.map (some L.blk))
  | fn (f : FuncId) (xs cap : List V) (xs' cap' : List Value) (h1 : xs.length = xs'.length) (h2 : ∀ (i : Nat) v v', xs[i]? = some v → xs'[i]? = some v' → Rel ρ v v')
      (h3 : cap.length = cap'.length) (h4 : ∀ (i : Nat) v v', cap[i]? = some v → cap'[i]? = some v' → Rel ρ v v') : Rel ρ (.fn f xs cap) (.func (.func f) ⟨xs'⟩ ⟨cap'⟩)
  | yld (id : Nat) (L : Loc) (h : ρ id = some L) : Rel ρ (.yld id) (.func (.yield L.blk) #[] #[])
  | nilf : Rel ρ .nilf .nilFunc
  | ifc (t : TypeId) (v : V) (v' : Value) (h : Rel ρ v v') : Rel ρ (.ifc t v) (.iface t v')
  | nili : Rel ρ .nili .nilIface
  | agg (cs : List V) (cs' : List Value) (h1 : cs.length = cs'.length) (h2 : ∀ (i : Nat) v v', cs[i]? = some v → cs'[i]? = some v' → Rel ρ v v') : Rel ρ (.agg cs) (.agg ⟨cs'⟩)
  | tup (cs : List V) (cs' : List Value) (h1 : cs.length = cs'.length) (h2 : ∀ (i : Nat) v v', cs[i]? = some v → cs'[i]? = some v' → Rel ρ v v') : Rel ρ (.tup cs) (.tuple ⟨cs'⟩)

def Ext (ρ ρ' : Rho) : Prop := ∀ id L, ρ id = some L → ρ' id = some L
theorem Ext.refl (ρ : Rho) : Ext ρ ρ := fun _ _ h => h
theorem Ext.trans {a b c : Rho} (h : Ext a b) (k : Ext b c) : Ext a c := fun i L e => k i L (h i L e)

theorem Rel.mono {ρ ρ' : Rho} (hx : Ext ρ ρ') {v : V} {v' : Value} (h : Rel ρ v v') : Rel ρ' v v' := by
  induction h with
  | undef v => exact .undef v
  | bool b => exact .bool b
  | int k n => exact .int k n
  | str s b h => exact .str s b h
  | nil => exact .nil
  | ptr id off L h hl => exact .ptr id off L (hx _ _ h) hl
  | nils => exact .nils
  | slc id off sz len mn ex L a cap h hl h1 h2 h3 h4 h5 => exact .slc id off sz len mn ex L a cap (hx _ _ h) hl h1 h2 h3 h4 h5
  | nilm => exact .nilm
  | map id L h => exact .map id L (hx _ _ h)
  | fn f xs cap xs' cap' h1 _ h3 _ ih1 ih2 => exact .fn f xs cap xs' cap' h1 ih1 h3 ih2
  | yld id L h => exact .yld id L (hx _ _ h)
  | nilf => exact .nilf
  | ifc t v v' _ ih => exact .ifc t v v' ih
  | nili => exact .nili
  | agg cs cs' h1 _ ih => exact .agg cs cs' h1 ih
  | tup cs cs' h1 _ ih => exact .tup cs cs' h1 ih

/-- Lists of values. -/
def RelL (ρ : Rho) (vs : List V) (vs' : List Value) : Prop := vs.length = vs'.length ∧ ∀ (i : Nat) v v', vs[i]? = some v → vs'[i]? = some v' → Rel ρ v v'
theorem RelL.nil (ρ : Rho) : RelL ρ [] [] := ⟨rfl, fun i v v' h => by simp at h⟩
theorem RelL.cons {ρ : Rho} {v : V} {v' : Value} {vs : List V} {vs' : List Value} (h : Rel ρ v v') (k : RelL ρ vs vs') : RelL ρ (v :: vs) (v' :: vs') :=
  ⟨by simp [k.1], fun i x x' e e' => by
    cases i with
    | zero => simp at e e'; subst e; subst e'; exact h
    | succ i => simp at e e'; exact k.2 i x x' e e'⟩
theorem RelL.mono {ρ ρ' : Rho} (hx : Ext ρ ρ') {vs : List V} {vs' : List Value} (h : RelL ρ vs vs') : RelL ρ' vs vs' := ⟨h.1, fun i v v' e e' => (h.2 i v v' e e').mono hx⟩
theorem RelL.head {ρ : Rho} {v : V} {v' : Value} {vs : List V} {vs' : List Value} (h : RelL ρ (v :: vs) (v' :: vs')) : Rel ρ v v' := h.2 0 v v' rfl rfl
theorem RelL.tail {ρ : Rho} {v : V} {v' : Value} {vs : List V} {vs' : List Value} (h : RelL ρ (v :: vs) (v' :: vs')) : RelL ρ vs vs' :=
  ⟨by simpa using h.1, fun i x x' e e' => h.2 (i + 1) x x' (by simpa using e) (by simpa using e')⟩
theorem RelL.nil_inv {ρ : Rho} {vs' : List Value} (h : RelL ρ [] vs') : vs' = [] := by
  have := h.1; simp at this; exact List.length_eq_zero_iff.1 this.symm
theorem RelL.cons_inv {ρ : Rho} {v : V} {vs : List V} {vs' : List Value} (h : RelL ρ (v :: vs) vs') : ∃ w ws, vs' = w :: ws ∧ Rel ρ v w ∧ RelL ρ vs ws := by
  cases vs' with
  | nil => have := h.1; simp at this
  | cons w ws => exact ⟨w, ws, rfl, h.head, h.tail⟩
theorem RelL.append {ρ : Rho} {a b : List V} {a' b' : List Value} (h : RelL ρ a a') (k : RelL ρ b b') : RelL ρ (a ++ b) (a' ++ b') :=
  ⟨by simp [h.1, k.1], fun i v v' e e' => by
    rw [List.getElem?_append] at e e'
    by_cases hi : i < a.length
    · have hi' : i < a'.length := h.1 ▸ hi
      simp only [hi, hi', if_true] at e e'
      exact h.2 i v v' e e'
    · have hi' : ¬ i < a'.length := h.1 ▸ hi
      simp only [hi, hi', if_false] at e e'
      rw [h.1] at e
      exact k.2 _ v v' e e'⟩
theorem RelL.get {ρ : Rho} {vs : List V} {vs' : List Value} (h : RelL ρ vs vs') {i : Nat} {v : V} (e : vs[i]? = some v) : ∃ v', vs'[i]? = some v' ∧ Rel ρ v v' := by
  have hi : i < vs'.length := by rw [← h.1]; exact (List.getElem?_eq_some_iff.1 e).1
  exact ⟨vs'[i], by simp [hi], h.2 i v _ e (by simp [hi])⟩
theorem RelL.map {ρ : Rho} {β : Type} {f : β → V} {g : β → Value} (l : List β) (h : ∀ x ∈ l, Rel ρ (f x) (g x)) : RelL ρ (l.map f) (l.map g) := by
  induction l with
  | nil => exact .nil ρ
  | cons x l ih => exact .cons (h x (List.mem_cons_self ..)) (ih fun y hy => h y (List.mem_cons_of_mem _ hy))
theorem RelL.take {ρ : Rho} {vs : List V} {vs' : List Value} (h : RelL ρ vs vs') (n : Nat) : RelL ρ (vs.take n) (vs'.take n) :=
  ⟨by simp [h.1], fun i v v' e e' => by
    simp only [List.getElem?_take] at e e'
    split at e
    · rename_i hi; simp only [hi, if_true] at e'; exact h.2 i v v' e e'
    · cases e⟩
theorem RelL.drop {ρ : Rho} {vs : List V} {vs' : List Value} (h : RelL ρ vs vs') (n : Nat) : RelL ρ (vs.drop n) (vs'.drop n) :=
  ⟨by simp [h.1], fun i v v' e e' => by simp only [List.getElem?_drop] at e e'; exact h.2 _ v v' e e'⟩

theorem rel_agg {ρ : Rho} {cs : List V} {cs' : List Value} (h : RelL ρ cs cs') : Rel ρ (.agg cs) (.agg cs'.toArray) := .agg cs cs' h.1 h.2
theorem rel_tup {ρ : Rho} {cs : List V} {cs' : List Value} (h : RelL ρ cs cs') : Rel ρ (.tup cs) (.tuple cs'.toArray) := .tup cs cs' h.1 h.2

/-- The cells of a value. -/
theorem rel_cells {ρ : Rho} {v : V} {v' : Value} (h : Rel ρ v v') (hu : v ≠ .undef) : RelL ρ v.cells v'.cells.toList := by
  cases h with
  | undef v => exact absurd rfl hu
  | agg cs cs' h1 h2 => exact ⟨h1, h2⟩
  | bool b => exact RelL.cons (.bool b) (.nil ρ)
  | int k n => exact RelL.cons (.int k n) (.nil ρ)
  | str s b h => exact RelL.cons (.str s b h) (.nil ρ)
  | nil => exact RelL.cons .nil (.nil ρ)
  | ptr id off L h hl => exact RelL.cons (.ptr id off L h hl) (.nil ρ)
  | nils => exact RelL.cons .nils (.nil ρ)
  | slc id off sz len mn ex L a cap h hl h1 h2 h3 h4 h5 => exact RelL.cons (.slc id off sz len mn ex L a cap h hl h1 h2 h3 h4 h5) (.nil ρ)
  | nilm => exact RelL.cons .nilm (.nil ρ)
  | map id L h => exact RelL.cons (.map id L h) (.nil ρ)
  | fn f xs cap xs' cap' h1 h2 h3 h4 => exact RelL.cons (.fn f xs cap xs' cap' h1 h2 h3 h4) (.nil ρ)
  | yld id L h => exact RelL.cons (.yld id L h) (.nil ρ)
  | nilf => exact RelL.cons .nilf (.nil ρ)
  | ifc t v v' h => exact RelL.cons (.ifc t v v' h) (.nil ρ)
  | nili => exact RelL.cons .nili (.nil ρ)
  | tup cs cs' h1 h2 => exact RelL.cons (.tup cs cs' h1 h2) (.nil ρ)

/-- What may lie in one cell lies in one cell. -/
theorem rel_one {ρ : Rho} {v : V} {v' : Value} (h : Rel ρ v v') (h1 : v.one = true) : v'.oneCell' = true := by
  cases h <;> first | rfl | simp [V.one] at h1

/-- The temporaries. -/
def TmR (ρ : Rho) (tm : T V) (tmps : Array Value) : Prop := ∀ t v, tm.get t = some v → ∃ v', tmps[t]? = some v' ∧ Rel ρ v v'
theorem TmR.mono {ρ ρ' : Rho} (hx : Ext ρ ρ') {tm : T V} {tmps : Array Value} (h : TmR ρ tm tmps) : TmR ρ' tm tmps :=
  fun t v e => let ⟨v', e', r⟩ := h t v e; ⟨v', e', r.mono hx⟩
theorem TmR.ev {ρ : Rho} {tm : T V} {tmps : Array Value} (h : TmR ρ tm tmps) (t : Nat) : Rel ρ (ev tm (.t t)) (tmps.getD t undef) := by
  cases e : tm.get t with
  | none =>
    have : Ak.ev tm (.t t) = .undef := by simp only [Ak.ev, e]
    rw [this]; exact .undef _
  | some v =>
    obtain ⟨v', e', r⟩ := h t v e
    have : Ak.ev tm (.t t) = v := by simp only [Ak.ev, e]
    rw [this]
    simp only [Array.getD_eq_getD_getElem?, e', Option.getD_some]
    exact r
theorem TmR.put {ρ : Rho} {tm : T V} {tmps : Array Value} (h : TmR ρ tm tmps) {d : Nat} {v : V} {v' : Value} (hd : d < tmps.size) (hv : Rel ρ v v') :
    TmR ρ (tm.set d v) (tmps.setIfInBounds d v') := by
  intro t x e
  rw [T.get_set] at e
  by_cases ht : t = d
  · subst ht
    simp at e
    subst e
    exact ⟨v', by simp [hd], hv⟩
  · simp only [ht, if_false] at e
    obtain ⟨x', e', r⟩ := h t x e
    exact ⟨x', by rw [Array.getElem?_setIfInBounds_ne (Ne.symm ht)]; exact e', r⟩

/-! The heap. -/
def ExR : Ex → Code → Prop
  | .ret, .ret => True
  | .exit i, .exit j => i = j
  | _, _ => False
def LsR : Ls → LoopState → Prop
  | .ready, .ready => True
  | .busy, .busy => True
  | .done, .done => True
  | .exhausted, .exhausted => True
  | _, _ => False

/-- Does the abstract code say what the code says? (Of frames of nt temporaries.) Told by the compiler's text; see AkComp. -/
abbrev Cor := Nat → A → Code → Prop

structure LrR (C : Cor) (ρ : Rho) (r : Lr) (l : Loop) : Prop where
  st : LsR r.st l.state
  pend : match r.pend, l.pending with | none, none => True | some e, some c => ExR e c | _, _ => False
  tm : TmR ρ r.tm l.tmps
  ps : r.ps = l.params.toList
  pb : ∀ p ∈ r.ps, p < l.tmps.size
  asn : C l.tmps.size r.asn l.assign
  body : C l.tmps.size r.body l.body

def EsR (ρ : Rho) (es : List (V × V)) (es' : List MapEntry) : Prop := RelL ρ (es.map (·.1)) (es'.map (·.key)) ∧ RelL ρ (es.map (·.2)) (es'.map (·.val))

/-- An object lies in the world. -/
def OR (C : Cor) (ρ : Rho) (own : Own) (w : World) (id : Nat) (L : Loc) : O → Prop
  | .cells c z lo hi ro => (if ro then own L.blk = none else own L.blk = some id) ∧ L.lo ≤ lo ∧ hi ≤ L.lo + L.top ∧
      ∃ arr el fr, w.heap[L.blk]? = some (.cells arr el fr) ∧ L.base + L.top ≤ arr.size ∧
        (ro = false → ∀ j, j < L.top → w.frozen? ⟨L.blk, L.base + j, none⟩ = false) ∧
        ∀ off, lo ≤ off → off < hi → ∃ v', arr[L.base + (off - L.lo)]? = some v' ∧ Rel ρ (cget c z off) v'
  | .map es => own L.blk = some id ∧ ∃ es' clock, w.heap[L.blk]? = some (.map es' clock) ∧ EsR ρ es es'.toList ∧ MapKept.Stamped es' clock
  | .loop r => own L.blk = some id ∧ ∃ l, w.heap[L.blk]? = some (.loop l) ∧ LrR C ρ r l
  | .defs => own L.blk = some id ∧ w.heap[L.blk]? = some (.deferred (some []))
  | .shut => own L.blk = some id ∧ w.heap[L.blk]? = some (.deferred none)
  | .dead => True

structure HR (C : Cor) (ρ : Rho) (own : Own) (σ : H) (w : World) : Prop where
  dom : ∀ id L, ρ id = some L → id < σ.next ∧ L.blk < w.heap.size
  obj : ∀ id L o, ρ id = some L → σ.get id = some o → OR C ρ own w id L o
  own : ∀ b id, own b = some id → b < w.heap.size

/-- Does a loop's record lie there? -/
def isLp (w : World) (b : Nat) : Prop := ∃ r, w.heap[b]? = some (.loop r)

/-- What a piece of work leaves as it was. -/
structure Fr (ρ : Rho) (own : Own) (σ : H) (w : World) (ρ' : Rho) (own' : Own) (σ' : H) (w' : World) : Prop where
  ext : Ext ρ ρ'
  next : σ.next ≤ σ'.next
  un : ∀ id, ρ id = none → id < σ.next → ρ' id = none ∧ σ'.get id = σ.get id
  log : ∃ l, σ'.log = l ++ σ.log ∧ ∀ id, id < σ.next → id ∉ l → σ'.get id = σ.get id
  heap : ∀ b, b < w.heap.size → own b = none → own' b = none ∧ w'.heap[b]? = w.heap[b]?
  size : w.heap.size ≤ w'.heap.size
  os : w'.os = w.os
  tape : w'.tape = w.tape
  out : w'.output = w.output
  lps : ∀ b, isLp w b → isLp w' b

theorem Fr.refl (ρ : Rho) (own : Own) (σ : H) (w : World) : Fr ρ own σ w ρ own σ w :=
  ⟨.refl ρ, Nat.le_refl _, fun _ h _ => ⟨h, rfl⟩, ⟨[], rfl, fun _ _ _ => rfl⟩, fun _ _ h => ⟨h, rfl⟩, Nat.le_refl _, rfl, rfl, rfl, fun _ h => h⟩
theorem Fr.trans {ρ ρ1 ρ2 : Rho} {own own1 own2 : Own} {σ σ1 σ2 : H} {w w1 w2 : World} (h : Fr ρ own σ w ρ1 own1 σ1 w1) (k : Fr ρ1 own1 σ1 w1 ρ2 own2 σ2 w2) :
    Fr ρ own σ w ρ2 own2 σ2 w2 := by
  refine ⟨h.ext.trans k.ext, Nat.le_trans h.next k.next, fun id e hi => ?_, ?_, fun b hb e => ?_, Nat.le_trans h.size k.size, k.os.trans h.os, k.tape.trans h.tape, k.out.trans h.out, fun b hb => k.lps b (h.lps b hb)⟩
  · obtain ⟨a, b⟩ := h.un id e hi
    obtain ⟨c, d⟩ := k.un id a (Nat.lt_of_lt_of_le hi h.next)
    exact ⟨c, d.trans b⟩
  · obtain ⟨l, e, p⟩ := h.log
    obtain ⟨l', e', p'⟩ := k.log
    refine ⟨l' ++ l, by rw [e', e, List.append_assoc], fun id hi hn => ?_⟩
    simp only [List.mem_append, not_or] at hn
    exact (p' id (Nat.lt_of_lt_of_le hi h.next) hn.1).trans (p id hi hn.2)
  · obtain ⟨a, c⟩ := h.heap b hb e
    obtain ⟨d, f⟩ := k.heap b (Nat.lt_of_lt_of_le hb h.size) a
    exact ⟨d, f.trans c⟩

theorem LrR.mono {C : Cor} {ρ ρ' : Rho} (hx : Ext ρ ρ') {r : Lr} {l : Loop} (h : LrR C ρ r l) : LrR C ρ' r l := ⟨h.st, h.pend, h.tm.mono hx, h.ps, h.pb, h.asn, h.body⟩
theorem EsR.mono {ρ ρ' : Rho} (hx : Ext ρ ρ') {es : List (V × V)} {es' : List MapEntry} (h : EsR ρ es es') : EsR ρ' es es' := ⟨h.1.mono hx, h.2.mono hx⟩

theorem frozen_of_block {w w' : World} {b : Nat} (h : w'.heap[b]? = w.heap[b]?) (j : Nat) : w'.frozen? ⟨b, j, none⟩ = w.frozen? ⟨b, j, none⟩ := by
  simp [World.frozen?, h]
theorem cell_of_block {w w' : World} {b : Nat} (h : w'.heap[b]? = w.heap[b]?) (j : Nat) : w'.cell? ⟨b, j, none⟩ = w.cell? ⟨b, j, none⟩ := by
  simp [World.cell?, h]

/-- An object whose block has not turned. -/
theorem OR.stable {C : Cor} {ρ ρ' : Rho} {own own' : Own} {w w' : World} {id : Nat} {L : Loc} {o : O} (h : OR C ρ own w id L o) (hx : Ext ρ ρ')
    (hb : w'.heap[L.blk]? = w.heap[L.blk]?) (ho : own' L.blk = own L.blk) : OR C ρ' own' w' id L o := by
  cases o with
  | cells c z lo hi ro =>
    obtain ⟨h1, h2, h3, arr, el, fr, h4, h5, h6, h7⟩ := h
    exact ⟨by rw [ho]; exact h1, h2, h3, arr, el, fr, hb.trans h4, h5, fun e j hj => (frozen_of_block hb _).trans (h6 e j hj), fun off a b => let ⟨v', e, r⟩ := h7 off a b; ⟨v', e, r.mono hx⟩⟩
  | map es => obtain ⟨h1, es', clock, h2, h3, h4⟩ := h; exact ⟨ho.trans h1, es', clock, hb.trans h2, h3.mono hx, h4⟩
  | loop r => obtain ⟨h1, l, h2, h3⟩ := h; exact ⟨ho.trans h1, l, hb.trans h2, h3.mono hx⟩
  | defs => exact ⟨ho.trans h.1, hb.trans h.2⟩
  | shut => exact ⟨ho.trans h.1, hb.trans h.2⟩
  | dead => trivial

theorem H.get_push (σ : H) (o : O) (id : Nat) : (σ.push o).get id = if id = σ.next then some o else σ.get id := T.get_set _ _ _ _
theorem H.get_put (σ : H) (i : Nat) (o : O) (id : Nat) : (σ.put i o).get id = if id = i then some o else σ.get id := T.get_set _ _ _ _

def Rho.add (ρ : Rho) (id : Nat) (L : Loc) : Rho := fun i => if i = id then some L else ρ i
def Own.add (own : Own) (b id : Nat) : Own := fun c => if c = b then some id else own c
theorem Rho.ext_add {ρ : Rho} {id : Nat} {L : Loc} (h : ρ id = none) : Ext ρ (ρ.add id L) := fun i M e => by
  unfold Rho.add
  split
  · rename_i hi; subst hi; rw [h] at e; cases e
  · exact e

section
variable {C : Cor} {ρ : Rho} {own : Own} {σ : H} {w : World}

theorem HR.fresh (h : HR C ρ own σ w) : ρ σ.next = none := by
  cases e : ρ σ.next with
  | none => rfl
  | some L => exact absurd (h.dom _ _ e).1 (Nat.lt_irrefl _)
theorem HR.newblk (h : HR C ρ own σ w) : own w.heap.size = none := by
  cases e : own w.heap.size with
  | none => rfl
  | some id => exact absurd (h.own _ _ e) (Nat.lt_irrefl _)

/-- A new block: a new object. -/
theorem HR.push (h : HR C ρ own σ w) (ob : Obj) (o : O) (L : Loc) (hL : L.blk = w.heap.size)
    (ho : OR C (ρ.add σ.next L) (own.add w.heap.size σ.next) (w.alloc ob) σ.next L o) :
    HR C (ρ.add σ.next L) (own.add w.heap.size σ.next) (σ.push o) (w.alloc ob) ∧ Fr ρ own σ w (ρ.add σ.next L) (own.add w.heap.size σ.next) (σ.push o) (w.alloc ob) := by
  have hold : ∀ b, b < w.heap.size → (w.alloc ob).heap[b]? = w.heap[b]? := fun b hb => RowKit.Below.heap_alloc w ob b hb
  refine ⟨⟨fun id M e => ?_, fun id M x e ex => ?_, fun b id e => ?_⟩, ⟨Rho.ext_add h.fresh, Nat.le_succ _, fun id e hi => ?_, ⟨[], rfl, fun id hi _ => ?_⟩, fun b hb e => ⟨?_, hold b hb⟩, by simp, rfl, rfl, rfl, fun b hl => ?_⟩⟩
  · unfold Rho.add at e
    split at e
    · rename_i hi; cases e; subst hi; exact ⟨Nat.lt_succ_self _, by rw [hL]; simp⟩
    · obtain ⟨a, b⟩ := h.dom _ _ e; exact ⟨Nat.lt_succ_of_lt a, by simp; omega⟩
  · rw [H.get_push] at ex
    by_cases hi : id = σ.next
    · subst hi
      simp only [if_true] at ex
      cases ex
      have : L = M := by simpa [Rho.add] using e
      subst this
      exact ho
    · simp only [hi, if_false] at ex
      have e' : ρ id = some M := by simpa [Rho.add, hi] using e
      have hb := (h.dom _ _ e').2
      refine (h.obj id M x e' ex).stable (Rho.ext_add h.fresh) (hold _ hb) ?_
      unfold Own.add
      rw [if_neg (by omega)]
  · unfold Own.add at e
    split at e
    · rename_i hb; subst hb; simp
    · have := h.own _ _ e; simp; omega
  · constructor
    · unfold Rho.add; rw [if_neg (by omega)]; exact e
    · rw [H.get_push, if_neg (by omega)]
  · rw [H.get_push, if_neg (by omega)]
  · unfold Own.add; rw [if_neg (by omega)]; exact e
  · obtain ⟨r, e⟩ := hl
    exact ⟨r, (hold b (Array.getElem?_eq_some_iff.1 e).1).trans e⟩

/-- An own object turned, in its block. -/
theorem HR.mut (h : HR C ρ own σ w) {id : Nat} {L : Loc} (hi : ρ id = some L) (ho : own L.blk = some id) (o : O) {w' : World}
    (hb : ∀ b, b ≠ L.blk → w'.heap[b]? = w.heap[b]?) (hs : w'.heap.size = w.heap.size) (h1 : w'.os = w.os) (h2 : w'.tape = w.tape) (h3 : w'.output = w.output)
    (hO : OR C ρ own w' id L o) (hk : isLp w L.blk → isLp w' L.blk) : HR C ρ own (σ.put id o) w' ∧ Fr ρ own σ w ρ own (σ.put id o) w' := by
  refine ⟨⟨fun i M e => ⟨(h.dom i M e).1, by rw [hs]; exact (h.dom i M e).2⟩, fun i M x e ex => ?_, fun b i e => by rw [hs]; exact h.own b i e⟩,
    ⟨.refl ρ, Nat.le_refl _, fun i e _ => ⟨e, ?_⟩, ⟨[id], rfl, fun i _ hn => ?_⟩, fun b _ e => ⟨e, hb b ?_⟩, by omega, h1, h2, h3, fun b hl => ?_⟩⟩
  · rw [H.get_put] at ex
    by_cases e0 : i = id
    · subst e0
      simp only [if_true] at ex
      cases ex
      rw [hi] at e; cases e
      exact hO
    · simp only [e0, if_false] at ex
      have hx := h.obj i M x e ex
      have hne : M.blk = L.blk → OR C ρ own w' i M x := by
        intro eb
        -- an object in the same block is dead
        cases x with
        | dead => trivial
        | cells c z lo hi ro =>
          have := hx.1
          rw [eb, ho] at this
          cases ro with
          | true => simp at this
          | false => simp at this; exact absurd this.symm e0
        | map es => have := hx.1; rw [eb, ho] at this; cases this; exact absurd rfl e0
        | loop r => have := hx.1; rw [eb, ho] at this; cases this; exact absurd rfl e0
        | defs => have := hx.1; rw [eb, ho] at this; cases this; exact absurd rfl e0
        | shut => have := hx.1; rw [eb, ho] at this; cases this; exact absurd rfl e0
      by_cases eb : M.blk = L.blk
      · exact hne eb
      · exact hx.stable (.refl ρ) (hb _ eb) rfl
  · rw [H.get_put]
    split
    · rename_i e0; subst e0; rw [hi] at e; cases e
    · rfl
  · rw [H.get_put]
    split
    · rename_i e0; subst e0; simp at hn
    · rfl
  · intro eb; subst eb; rw [ho] at e; cases e
  · by_cases eb : b = L.blk
    · subst eb; exact hk hl
    · obtain ⟨r, e⟩ := hl
      exact ⟨r, (hb b eb).trans e⟩

theorem HR.sameHeap (h : HR C ρ own σ w) {w' : World} (e : w'.heap = w.heap) : HR C ρ own σ w' := by
  refine ⟨fun id L a => by rw [e]; exact h.dom id L a, fun id L o a b => ?_, fun b id a => by rw [e]; exact h.own b id a⟩
  exact (h.obj id L o a b).stable (.refl ρ) (by rw [e]) rfl
theorem Fr.sameHeap {w' : World} (e : w'.heap = w.heap) (h1 : w'.os = w.os) (h2 : w'.tape = w.tape) (h3 : w'.output = w.output) : Fr ρ own σ w ρ own σ w' :=
  ⟨.refl ρ, Nat.le_refl _, fun _ h _ => ⟨h, rfl⟩, ⟨[], rfl, fun _ _ _ => rfl⟩, fun b _ h => ⟨h, by rw [e]⟩, by rw [e]; exact Nat.le_refl _, h1, h2, h3, fun b ⟨r, hb⟩ => ⟨r, by rw [e]; exact hb⟩⟩
theorem HR.drew (h : HR C ρ own σ w) : HR C ρ own σ w.drew := h.sameHeap rfl
theorem Fr.drew : Fr ρ own σ w ρ own σ w.drew := .sameHeap rfl rfl rfl rfl
end
end Ak
