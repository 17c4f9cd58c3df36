/- What a call that turns nothing of what was there leaves; slices.Sorted(maps.Keys(m)) as a summary. -/
import Derived.Test.YtpbifekamdpdjaaGreatDoorAkSort
namespace Ak
set_option linter.unusedVariables false
set_option linter.unusedSimpArgs false
open Go Go.RowKit
section
variable {C : Cor} {ρ : Rho} {own : Own} {σ : H} {w w' : World}

/-- Nothing of what was there has turned: what is new is let go. -/
theorem HR.below (h : HR C ρ own σ w) (hb : Below w.heap.size w w') : HR C ρ own σ w' ∧ Fr ρ own σ w ρ own σ w' := by
  refine ⟨⟨fun id L e => ⟨(h.dom id L e).1, Nat.lt_of_lt_of_le (h.dom id L e).2 hb.size⟩, fun id L o e ex => (h.obj id L o e ex).stable (.refl ρ) (hb.block _ (h.dom id L e).2) rfl, fun b id e => Nat.lt_of_lt_of_le (h.own b id e) hb.size⟩,
    ⟨.refl ρ, Nat.le_refl _, fun _ e _ => ⟨e, rfl⟩, ⟨[], rfl, fun _ _ _ => rfl⟩, fun b hlt e => ⟨e, hb.block b hlt⟩, hb.size, hb.os, hb.tape, hb.output, fun b ⟨r, e⟩ => ⟨r, ?_⟩⟩⟩
  have hlt : b < w.heap.size := (Array.getElem?_eq_some_iff.1 e).1
  exact (hb.block b hlt).trans e

/-- A new block that a call has laid is taken up as the next object. -/
theorem HR.adoptNew (h : HR C ρ own σ w) (hb : Below w.heap.size w w') {g : Nat} (hg : w.heap.size ≤ g) (hg2 : g < w'.heap.size) (o : O) (L : Loc) (hL : L.blk = g)
    (ho : OR C (ρ.add σ.next L) (own.add g σ.next) w' σ.next L o) :
    HR C (ρ.add σ.next L) (own.add g σ.next) (σ.push o) w' ∧ Fr ρ own σ w (ρ.add σ.next L) (own.add g σ.next) (σ.push o) w' := by
  obtain ⟨h1, f1⟩ := h.below hb
  have hx : Ext ρ (ρ.add σ.next L) := Rho.ext_add h.fresh
  have hown : ∀ b, b < w.heap.size → (own.add g σ.next) b = own b := fun b hlt => by
    have : b ≠ g := by omega
    simp [Own.add, this]
  refine ⟨⟨fun id M e => ?_, fun id M x e ex => ?_, fun b id e => ?_⟩, ⟨hx, Nat.le_succ _, fun id e hi => ?_, ⟨[], rfl, fun id hi _ => ?_⟩, fun b hlt e => ⟨?_, hb.block b hlt⟩, hb.size, hb.os, hb.tape, hb.output, f1.lps⟩⟩
  · unfold Rho.add at e
    split at e
    · rename_i hi; cases e; subst hi; exact ⟨Nat.lt_succ_self _, by rw [hL]; exact hg2⟩
    · obtain ⟨a, b⟩ := h1.dom _ _ e; exact ⟨Nat.lt_succ_of_lt a, b⟩
  · rw [H.get_push] at ex
    by_cases hi : id = σ.next
    · subst hi
      simp only [if_true] at ex
      cases ex
      have : M = L := by simpa [Rho.add] using e.symm
      subst this
      exact ho
    · simp only [hi, if_false] at ex
      have e2 : ρ id = some M := by simpa [Rho.add, hi] using e
      exact (h.obj id M x e2 ex).stable hx (hb.block _ (h.dom id M e2).2) (hown _ (h.dom id M e2).2)
  · unfold Own.add at e
    split at e
    · rename_i hi; subst hi; exact hg2
    · exact h1.own _ _ e
  · have hi : id ≠ σ.next := by omega
    exact ⟨by simp [Rho.add, hi, e], by rw [H.get_push]; simp [hi]⟩
  · have hi2 : id ≠ σ.next := by omega
    rw [H.get_push]; simp [hi2]
  · rw [hown b hlt]; exact e
end

/-! The summary. -/
/-- The keys: numbers that are not less than nought. -/
noncomputable def keysF (es : List (V × V)) (K : List Nat → R) : R :=
  List.rec (motive := fun _ => (List Nat → R) → R) (fun K => K [])
    (fun e _ ih K => Prod.rec (motive := fun _ => R) (fun a _ => intF a fun k n => ckB (kB k .i64) (Int.rec (motive := fun _ => R) (fun m => ckB (Nat.ble (Nat.succ m) 9223372036854775808) (ih fun l => K (m :: l))) (fun _ => none) n)) e) es K
noncomputable def insF (x : Nat) (l : List Nat) (K : List Nat → R) : R :=
  List.rec (motive := fun _ => (List Nat → R) → R) (fun K => K [x]) (fun y l ih K => selB (Nat.ble x y) (K (x :: y :: l)) (ih fun l => K (y :: l))) l K
noncomputable def sortF (l : List Nat) (K : List Nat → R) : R := List.rec (motive := fun _ => (List Nat → R) → R) (fun K => K []) (fun x _ ih K => ih fun l => insF x l K) l K
noncomputable def intsF (l : List Nat) (K : List V → R) : R := List.rec (motive := fun _ => (List V → R) → R) (fun K => K []) (fun x _ ih K => ih fun l => K (.int .i64 (.ofNat x) :: l)) l K
noncomputable def outF (σ : H) (K : V → H → R) (l : List Nat) : R :=
  List.rec (motive := fun _ => R) (K .nils σ) (fun _ _ _ => intsF l fun vs => fN (lenF vs) fun n => newF vs n (fun i σ => K (.slc i 0 1 n n false) σ) σ) l
noncomputable def oneA (l : List V) (K : V → R) : R := List.rec (motive := fun _ => R) none (fun v l _ => List.rec (motive := fun _ => R) (K v) (fun _ _ _ => none) l) l
noncomputable def nilA (l : List V) (r : R) : R := List.rec (motive := fun _ => R) r (fun _ _ _ => none) l
/-- slices.Sorted of what maps.Keys (its iterator: kf) hands back. -/
noncomputable def sortedS (kf : Nat) : Sm := fun args σ K => oneA args fun v => fnF v (fun f xs cs => ckB (Nat.beq f kf) (nilA xs (oneA cs fun p => ptrF p fun id off => ldF σ id off fun m => mapF m none fun mid => getF σ mid fun o => mapO o fun es =>
  ckB (Nat.ble (lenF es) 1000000) (keysF es fun l => sortF l (outF σ K))))) fun _ => none

theorem ckB_some {b : Bool} {r : R} {x : Unit} (h : ckB b r = some x) : b = true ∧ r = some x := by
  rw [ckB_eq] at h
  cases b with
  | true => exact ⟨rfl, h⟩
  | false => cases h
theorem keysF_some {K : List Nat → R} {r : Unit} : ∀ {es : List (V × V)}, keysF es K = some r → ∃ l : List Nat, es.map (·.1) = l.map (fun n => V.int .i64 (.ofNat n)) ∧ (∀ n ∈ l, n < 9223372036854775808) ∧ K l = some r := by
  intro es
  induction es generalizing K with
  | nil => intro h; exact ⟨[], rfl, by simp, h⟩
  | cons e es ih =>
    obtain ⟨a, b⟩ := e
    intro h
    have step : keysF ((a, b) :: es) K = intF a fun k n => ckB (kB k .i64) (Int.rec (motive := fun _ => R) (fun m => ckB (Nat.ble (Nat.succ m) 9223372036854775808) (keysF es fun l => K (m :: l))) (fun _ => none) n) := rfl
    rw [step, intF_eq] at h
    split at h
    · rename_i k n
      obtain ⟨h1, h2⟩ := ckB_some h
      rw [kB_eq] at h1
      have hk : k = .i64 := by simpa [kindB] using h1
      subst hk
      cases n with
      | negSucc m => cases h2
      | ofNat m =>
        obtain ⟨h3, h4⟩ := ckB_some h2
        obtain ⟨l, e1, e2, e3⟩ := ih h4
        refine ⟨m :: l, by simp [e1], fun n hn => ?_, e3⟩
        cases hn with
        | head => exact Nat.le_of_ble_eq_true h3
        | tail _ hn => exact e2 n hn
    · cases h
def insL (x : Nat) : List Nat → List Nat
  | [] => [x]
  | y :: l => if x ≤ y then x :: y :: l else y :: insL x l
def sortL : List Nat → List Nat
  | [] => []
  | x :: l => insL x (sortL l)
theorem insF_eq (x : Nat) (l : List Nat) (K : List Nat → R) : insF x l K = K (insL x l) := by
  induction l generalizing K with
  | nil => rfl
  | cons y l ih =>
    have step : insF x (y :: l) K = selB (Nat.ble x y) (K (x :: y :: l)) (insF x l fun l => K (y :: l)) := rfl
    rw [step, selB_eq, ih]
    simp only [insL]
    by_cases h : x ≤ y
    · rw [if_pos h, Nat.ble_eq_true_of_le h]; rfl
    · have : Nat.ble x y = false := by
        cases e : Nat.ble x y with
        | false => rfl
        | true => exact absurd (Nat.le_of_ble_eq_true e) h
      rw [if_neg h, this]; rfl
theorem sortF_eq (l : List Nat) (K : List Nat → R) : sortF l K = K (sortL l) := by
  induction l generalizing K with
  | nil => rfl
  | cons x l ih =>
    have step : sortF (x :: l) K = sortF l fun l => insF x l K := rfl
    rw [step, ih, insF_eq]; rfl
theorem intsF_eq (l : List Nat) (K : List V → R) : intsF l K = K (l.map fun n => V.int .i64 (.ofNat n)) := by
  induction l generalizing K with
  | nil => rfl
  | cons x l ih =>
    have step : intsF (x :: l) K = intsF l fun l => K (.int .i64 (.ofNat x) :: l) := rfl
    rw [step, ih]; rfl
theorem insL_perm (x : Nat) (l : List Nat) : (insL x l).Perm (x :: l) := by
  induction l with
  | nil => exact .refl _
  | cons y l ih =>
    simp only [insL]
    split
    · exact .refl _
    · exact (ih.cons y).trans (.swap x y l)
theorem sortL_perm (l : List Nat) : (sortL l).Perm l := by
  induction l with
  | nil => exact .refl _
  | cons x l ih => exact (insL_perm x _).trans (ih.cons x)
theorem insL_sorted (x : Nat) (l : List Nat) (h : l.Pairwise (· ≤ ·)) : (insL x l).Pairwise (· ≤ ·) := by
  induction l with
  | nil => simp [insL]
  | cons y l ih =>
    obtain ⟨h1, h2⟩ := List.pairwise_cons.1 h
    simp only [insL]
    split
    · rename_i hxy
      exact List.pairwise_cons.2 ⟨fun z hz => by
        cases hz with
        | head => exact hxy
        | tail _ hz => exact Nat.le_trans hxy (h1 z hz), h⟩
    · rename_i hxy
      refine List.pairwise_cons.2 ⟨fun z hz => ?_, ih h2⟩
      have := (insL_perm x l).mem_iff.1 hz
      cases this with
      | head => omega
      | tail _ hz => exact h1 z hz
theorem sortL_sorted (l : List Nat) : (sortL l).Pairwise (· ≤ ·) := by
  induction l with
  | nil => exact .nil
  | cons x l ih => exact insL_sorted x _ ih
theorem oneA_some {l : List V} {K : V → R} {r : Unit} (h : oneA l K = some r) : ∃ v, l = [v] ∧ K v = some r := by
  cases l with
  | nil => cases h
  | cons v l => cases l with
    | nil => exact ⟨v, rfl, h⟩
    | cons _ _ => cases h
theorem nilA_some {l : List V} {x : R} {r : Unit} (h : nilA l x = some r) : l = [] ∧ x = some r := by
  cases l with
  | nil => exact ⟨rfl, h⟩
  | cons _ _ => cases h
theorem perm_insert {H : Type} (x : Lit × DataW H) (l : List (Lit × DataW H)) : (DataW.insert x l).Perm (x :: l) := by
  induction l with
  | nil => exact .refl _
  | cons y l ih =>
    simp only [DataW.insert]
    split
    · exact .refl _
    · exact (ih.cons y).trans (.swap x y l)
theorem perm_inserts {H : Type} (l : List (Lit × DataW H)) : (l.foldr DataW.insert []).Perm l := by
  induction l with
  | nil => exact .refl _
  | cons x l ih => exact (perm_insert x _).trans (ih.cons x)

open Go.Maps Go.Sort Go.Shelf Go.Proofs in
theorem sorted_ok {P : Program} {TI : TypeId → Option Ti} {gl : List Nat} {ρs ρk : Ren} (L6 : SlLaysZI.n6 P ρs) (L10 : SlLaysZI.n10 P ρk) (hso : ∀ m, AnyZI.SortsIn P ρs Fence.wide m)
    (e9 : ∀ args w, (callFunc (ρs.f 9) args).run P w = .ok (.enter (ρs.f 9) args) w) (eg : ∀ args w, (callFunc (ρk.f 10) args).run P w = .ok (.enter (ρk.f 10) args) w)
    (args : List V) (σ : H) (K : V → H → R) (r : Unit) (h : sortedS (ρk.f 10) args σ K = some r) : CallOk P TI gl (.fn (ρs.f 6)) args σ K r := by
  intro ρ own w args' ha hr hg
  unfold sortedS at h
  obtain ⟨v, rfl, h0⟩ := oneA_some h
  clear h
  have h := h0
  clear h0
  obtain ⟨v', ws, e1, rv, hws⟩ := ha.cons_inv
  obtain rfl := hws.nil_inv
  obtain rfl : args' = #[v'] := by cases args'; simp_all
  rw [fnF_eq] at h
  split at h <;> first | (cases h; done) | skip
  rename_i f xs cs
  obtain ⟨hf, hA⟩ := ckB_some h
  clear h
  obtain rfl := Nat.eq_of_beq_eq_true hf
  obtain ⟨hxs, hB⟩ := nilA_some hA
  clear hA
  subst hxs
  obtain ⟨p, hcs, hC⟩ := oneA_some hB
  clear hB
  subst hcs
  obtain ⟨xs', cap', rfl, hx, hc⟩ := rel_fn_inv rv
  obtain rfl : xs' = #[] := by have := hx.nil_inv; cases xs'; simp_all
  obtain ⟨p', ws, e2, rp, hws⟩ := hc.cons_inv
  obtain rfl := hws.nil_inv
  obtain rfl : cap' = #[p'] := by cases cap'; simp_all
  rw [ptrF_eq] at hC
  split at hC <;> first | (cases hC; done) | skip
  rename_i id off
  obtain ⟨L, hL, hlo, rfl⟩ := rel_ptr_inv rp
  rw [ldF_eq] at hC
  obtain ⟨mv, mv', hm, hcell, rm, _⟩ := ldK_ok hC hr hL
  clear hC
  rw [mapF_eq] at hm
  split at hm <;> first | (cases hm; done) | skip
  rename_i mid
  rw [getF_eq] at hm
  split at hm <;> first | (cases hm; done) | skip
  rename_i o ho
  rw [mapO_eq] at hm
  split at hm <;> first | (cases hm; done) | skip
  rename_i es
  obtain ⟨hlen0, hm1⟩ := ckB_some hm
  clear hm
  rw [lenF_eq] at hlen0
  have hlen := Nat.le_of_ble_eq_true hlen0
  obtain ⟨l, he1, he2, hm⟩ := keysF_some hm1
  clear hm1
  rw [sortF_eq] at hm
  obtain ⟨M, hM, rfl⟩ := rel_map_inv rm
  obtain ⟨_, es', clock, hb, hE, hS⟩ := hr.obj _ _ _ hM ho
  have hsz : es'.size = es.length := by have := hE.1.1; simpa using this.symm
  have hkeys : es'.toList.map (·.key) = l.map fun n => Value.int .i64 (.ofNat n) := by
    apply List.ext_getElem?
    intro i
    have h1 := hE.1
    rw [he1] at h1
    cases hl : l[i]? with
    | none =>
      have : (l.map fun n => V.int .i64 (.ofNat n)).length = (es'.toList.map (·.key)).length := h1.1
      have hi := List.getElem?_eq_none_iff.1 hl
      rw [List.getElem?_eq_none (by simp at this; simp; omega), List.getElem?_eq_none (by simp; exact hi)]
    | some n =>
      obtain ⟨v', e', hv⟩ := h1.get (i := i) (v := .int .i64 (.ofNat n)) (by simp [hl])
      rw [e', rel_int_inv hv]; simp [hl]
  have hk26 := L10.t26
  have hwf : ∀ n : Nat, n < 9223372036854775808 → (Lit.int .i64 (.ofNat n)).wf = true := fun n hn => by
    simp [Lit.wf, IntKind.min, IntKind.max, IntKind.signed, IntKind.bits]; omega
  have hko : ∀ x ∈ es'.toList, ∃ n ∈ l, x.key = .int .i64 (.ofNat n) ∧ keyOf P (ρk.t 26) x.key = some (.int .i64 (.ofNat n)) := fun x hx => by
    have : x.key ∈ es'.toList.map (·.key) := List.mem_map_of_mem hx
    rw [hkeys] at this
    obtain ⟨n, hn, e⟩ := List.mem_map.1 this
    exact ⟨n, hn, e.symm, by rw [← e]; exact keyOf_int_mk hk26 (hwf n (he2 n hn))⟩
  have hown : w.ownsMap (H := Unit) P (ρk.t 26) (fun _ => some (.nil, [])) M.blk es'.size (.map ((es'.toList.map (WideElems.rg P (ρk.t 26) (fun _ => some ((DataW.nil : DataW Unit), [])))).foldr DataW.insert [])) :=
    ⟨es', clock, hb, ⟨by rw [hsz]; exact Nat.le_trans hlen (by decide), hS, fun x hx => by
      obtain ⟨n, _, _, e⟩ := hko x hx
      exact ⟨_, by simp only [WideElems.rd, e]; rfl⟩⟩, Nat.le_refl _, rfl⟩
  have hik : (intKeys (DataW.map ((es'.toList.map (WideElems.rg P (ρk.t 26) (fun _ => some ((DataW.nil : DataW Unit), [])))).foldr DataW.insert []))).Perm (l.map Int.ofNat) := by
    refine ((perm_inserts _).map _).trans ?_
    have : (es'.toList.map (WideElems.rg P (ρk.t 26) (fun _ => some ((DataW.nil : DataW Unit), [])))).map (fun p => Go.intOf p.1) = l.map Int.ofNat := by
      have e3 : (es'.toList.map (WideElems.rg P (ρk.t 26) (fun _ => some ((DataW.nil : DataW Unit), [])))).map (fun p => Go.intOf p.1) = (es'.toList.map (·.key)).map fun v => match v with | .int _ n => n | _ => 0 := by
        rw [List.map_map, List.map_map]
        apply List.map_congr_left
        intro x hx
        obtain ⟨n, _, e4, e5⟩ := hko x hx
        rw [e4] at e5
        simp only [Function.comp, WideElems.rg, WideElems.rd, e4, e5]
        rfl
      rw [e3, hkeys, List.map_map]
      rfl
    rw [this]
  have hbl : L.blk < w.heap.size := (hr.dom _ _ hL).2
  have hseq := akKeys_gives L10 Fence.wide 2 trivial rfl (by omega) L.blk (L.base + (off - L.lo)) M.blk es'.size _ w hbl hcell hown
  have hmx : Maps.size (DataW.map ((es'.toList.map (WideElems.rg P (ρk.t 26) (fun _ => some ((DataW.nil : DataW Unit), [])))).foldr DataW.insert [])) ≤ 1000000 := by
    show List.length _ ≤ _
    rw [(perm_inserts _).length_eq]
    simp; omega
  have cS := AnyZI.sorted_in L6 Fence.wide 5 trivial trivial trivial trivial rfl (by omega) (hso _) e9 (ρk.f 10) #[.pointer (some (L.at off))] trivial eg _ _ (Nat.le_trans hmx (by decide)) (Nat.le_trans (Nat.mul_le_mul_right 8 hmx) (by decide)) w hseq
  obtain ⟨nm, hnm, hfn⟩ := L6.f6
  refine .inl ⟨_, hfn, ?_, by simp [SlBodyZ.n6], fun m => callsIn_wide.2 ((callsIn_wide.1 cS).mono ?_)⟩
  · intro e; simp only at e; rw [e] at hnm; exact absurd hnm (by decide)
  · rintro e w' ⟨v', ss, rfl, hS2, hrow, hnil, hbel⟩
    refine ⟨v', rfl, ?_⟩
    have hss : ss.mergeSort leI = (sortL l).map Int.ofNat := by
      have p1 : ss.Perm (l.map Int.ofNat) := hS2.trans hik
      have p2 : ((sortL l).map Int.ofNat).Perm (l.map Int.ofNat) := (sortL_perm l).map _
      rw [mergeSort_of_perm_i (p1.trans p2.symm)]
      refine List.mergeSort_of_pairwise ?_
      rw [List.pairwise_map]
      exact (sortL_sorted l).imp fun h => by simpa using h
    have hlen2 : ss.length = (sortL l).length := by
      have := congrArg List.length hss
      simpa using this
    cases hsl : sortL l with
    | nil =>
      rw [hsl] at hm hlen2
      have hm : K .nils σ = some r := hm
      have : ss = [] := List.eq_nil_of_length_eq_zero hlen2
      obtain rfl := hnil.2 this
      obtain ⟨q1, q2⟩ := hr.below hbel
      exact ⟨_, _, _, _, hm, .nils, q1, q2⟩
    | cons y l2 =>
      rw [hsl] at hm
      have hm : (intsF (y :: l2) fun vs => fN (lenF vs) fun n => newF vs n (fun i σ => K (.slc i 0 1 n n false) σ) σ) = some r := hm
      rw [intsF_eq, fN_eq, newF_eq, lenF_eq] at hm
      rw [← hsl] at hm
      have hn : ((sortL l).map fun n => V.int .i64 (.ofNat n)).length = ss.length := by simp [hlen2]
      rw [hn] at hm
      obtain ⟨hr1, hr2⟩ := hrow
      rcases hr2 with ⟨rfl, h0⟩ | ⟨g, cap, cur, rfl, hbase, hgb, k1, k2, k3, k4⟩
      · rw [hlen2, hsl] at h0; cases h0
      · have hg2 : g < w'.heap.size := (Array.getElem?_eq_some_iff.1 hgb).1
        obtain ⟨q1, q2⟩ := hr.adoptNew hbel hbase hg2 (.cells (tof ((sortL l).map fun n => V.int .i64 (.ofNat n))) [] 0 ss.length false) ⟨g, 0, 0, cap⟩ rfl
          ⟨by simp [Own.add], Nat.le_refl _, by simpa using k1, cur, _, _, hgb, by simp; omega, fun _ j _ => by simp [World.frozen?, hgb], fun o2 _ ho2 => by
            have ho3 : o2 < (sortL l).length := by omega
            refine ⟨.int .i64 (.ofNat ((sortL l)[o2])), ?_, ?_⟩
            · have k5 := k4
              rw [hss, Nat.mul_one] at k5
              have : (cur.toList.take ss.length)[o2]? = (((sortL l).map Int.ofNat).map encZ)[o2]? := by rw [k5]
              rw [List.getElem?_take_of_lt ho2] at this
              simp only [Nat.zero_add, Nat.sub_zero]
              rw [← Array.getElem?_toList, this]
              simp [ho3]
            · rw [cget_tof (v := .int .i64 (.ofNat ((sortL l)[o2]))) [] (by simp [ho3])]
              exact .int _ _⟩
        refine ⟨_, _, _, _, hm, ?_, q1, q2⟩
        exact .slc σ.next 0 1 ss.length ss.length false ⟨g, 0, 0, cap⟩ ⟨g, 0, none⟩ cap (by simp [Rho.add]) (Nat.le_refl _) k1 k1 (by simp) (by simp) (fun _ => by simp [Loc.at])
end Ak
