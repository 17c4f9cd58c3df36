/- The evaluator in its quick form: the heap, the operations. -/
import Derived.Test.YtpbifekamdpdjaaGreatDoorAkFast
namespace Ak
set_option linter.unusedVariables false
set_option linter.unusedSimpArgs false
open Go

/-! The heap. -/
noncomputable def cellsO (o : O) (K : T V → List V → Nat → Nat → Bool → R) : R :=
  O.rec (motive := fun _ => (T V → List V → Nat → Nat → Bool → R) → R) (fun c z lo hi ro K => K c z lo hi ro) (fun _ _ => none) (fun _ _ => none) (fun _ => none) (fun _ => none) (fun _ => none) o K
theorem cellsO_eq (o : O) (K : T V → List V → Nat → Nat → Bool → R) : cellsO o K = (match o with | .cells c z lo hi ro => K c z lo hi ro | _ => none) := by cases o <;> rfl
noncomputable def mapO (o : O) (K : List (V × V) → R) : R :=
  O.rec (motive := fun _ => (List (V × V) → R) → R) (fun _ _ _ _ _ _ => none) (fun es K => K es) (fun _ _ => none) (fun _ => none) (fun _ => none) (fun _ => none) o K
theorem mapO_eq (o : O) (K : List (V × V) → R) : mapO o K = (match o with | .map es => K es | _ => none) := by cases o <;> rfl
noncomputable def loopO (o : O) (K : Lr → R) : R :=
  O.rec (motive := fun _ => (Lr → R) → R) (fun _ _ _ _ _ _ => none) (fun _ _ => none) (fun l K => K l) (fun _ => none) (fun _ => none) (fun _ => none) o K
theorem loopO_eq (o : O) (K : Lr → R) : loopO o K = (match o with | .loop l => K l | _ => none) := by cases o <;> rfl
noncomputable def someF {β : Type} (o : Option β) (K : β → R) : R := Option.rec (motive := fun _ => R) none (fun v => K v) o
theorem someF_eq {β : Type} (o : Option β) (K : β → R) : someF o K = (match o with | some v => K v | none => none) := by cases o <;> rfl
noncomputable def getF (σ : H) (id : Nat) (K : O → R) : R := H.rec (motive := fun _ => R) (fun _ obs _ => gtK (pathOf id) obs none K) σ
theorem getF_eq (σ : H) (id : Nat) (K : O → R) : getF σ id K = (match σ.get id with | some o => K o | none => none) := by
  cases σ
  show gtK (pathOf id) _ none K = _
  rw [gtK_eq]
  simp only [H.get]
  split <;> rename_i h <;> rw [h]
noncomputable def putF (σ : H) (id : Nat) (o : O) (K : H → R) : R :=
  H.rec (motive := fun _ => R) (fun nx obs log => stT (pathOf id) obs o fun obs => K ⟨nx, obs, id :: log⟩) σ
theorem putF_eq (σ : H) (id : Nat) (o : O) (K : H → R) : putF σ id o K = K (σ.put id o) := by
  cases σ
  show stT _ _ _ _ = _
  rw [stT_eq]
  rfl
noncomputable def pushF (σ : H) (o : O) (K : Nat → H → R) : R :=
  H.rec (motive := fun _ => R) (fun nx obs log => stT (pathOf nx) obs o fun obs => fN (Nat.succ nx) fun n => K nx ⟨n, obs, log⟩) σ
theorem pushF_eq (σ : H) (o : O) (K : Nat → H → R) : pushF σ o K = K σ.next (σ.push o) := by
  cases σ
  show stT _ _ _ _ = _
  rw [stT_eq, fN_eq]
  rfl
noncomputable def nthU (l : List V) (i : Nat) (K : V → R) : R :=
  List.rec (motive := fun _ => Nat → (V → R) → R) (fun _ K => K .undef) (fun v _ ih i K => Nat.rec (motive := fun _ => R) (K v) (fun k _ => ih k K) i) l i K
theorem nthU_eq (l : List V) (i : Nat) (K : V → R) : nthU l i K = K (l.getD i .undef) := by
  induction l generalizing i with
  | nil => cases i <;> rfl
  | cons v l ih => cases i with
    | zero => rfl
    | succ i => exact ih i
noncomputable def cgetF (c : T V) (z : List V) (i : Nat) (K : V → R) : R :=
  gtK (pathOf i) c (nthU z (Nat.mod i (lenF z)) K) K
theorem cgetF_eq (c : T V) (z : List V) (i : Nat) (K : V → R) : cgetF c z i K = K (cget c z i) := by
  unfold cgetF cget
  rw [gtK_eq]
  cases c.get i with
  | some v => rfl
  | none => simp only [nthU_eq, lenF_eq]; rfl
noncomputable def inB (lo off hi : Nat) : Bool := andB (Nat.ble lo off) (Nat.ble (Nat.succ off) hi)
theorem inB_eq (lo off hi : Nat) : inB lo off hi = (leB lo off && Nat.blt off hi) := by unfold inB; rw [andB_eq]; rfl
noncomputable def ldF (σ : H) (id off : Nat) (K : V → R) : R := getF σ id fun o => cellsO o fun c z lo hi _ => ckB (inB lo off hi) (cgetF c z off K)
theorem ldF_eq (σ : H) (id off : Nat) (K : V → R) : ldF σ id off K = ldK σ id off K := by
  unfold ldF ldK
  rw [getF_eq]
  cases σ.get id with
  | none => rfl
  | some o =>
    simp only [cellsO_eq]
    cases o <;> try rfl
    simp only [ckB_eq, inB_eq, cgetF_eq]
noncomputable def ldnF (σ : H) (id n off : Nat) (K : List V → R) : R :=
  Nat.rec (motive := fun _ => Nat → (List V → R) → R) (fun _ K => K []) (fun _ ih off K => ldF σ id off fun v => fN (Nat.succ off) fun off => ih off fun vs => K (v :: vs)) n off K
theorem ldnF_eq (σ : H) (id n off : Nat) (K : List V → R) : ldnF σ id n off K = ldnK σ id off n K := by
  induction n generalizing off K with
  | zero => rfl
  | succ n ih =>
    show ldF σ id off _ = _
    rw [ldF_eq]
    simp only [ldnK]
    congr 1
    funext v
    rw [fN_eq]
    exact ih _ _
noncomputable def roF (ro : Bool) (r : R) : R := Bool.rec (motive := fun _ => R) r none ro
noncomputable def st1F (σ : H) (id off : Nat) (v : V) (K : H → R) : R :=
  getF σ id fun o => cellsO o fun c z lo hi ro => roF ro (ckB (inB lo off hi) (ckB (oneF v) (stT (pathOf off) c v fun c => putF σ id (.cells c z lo hi false) K)))
theorem st1F_eq (σ : H) (id off : Nat) (v : V) (K : H → R) : st1F σ id off v K = st1K σ id off v K := by
  unfold st1F st1K
  rw [getF_eq]
  cases σ.get id with
  | none => rfl
  | some o =>
    simp only [cellsO_eq]
    cases o <;> try rfl
    rename_i c z lo hi ro
    cases ro with
    | true => rfl
    | false =>
      show ckB _ _ = _
      rw [ckB_eq, ckB_eq, stT_eq, putF_eq, inB_eq, oneF_one]
      simp only
      cases (leB lo off && Nat.blt off hi) <;> cases v.one <;> rfl
noncomputable def stnF (σ : H) (id off : Nat) (l : List V) (K : H → R) : R :=
  List.rec (motive := fun _ => H → Nat → (H → R) → R) (fun σ _ K => K σ) (fun v _ ih σ off K => st1F σ id off v fun σ => fN (Nat.succ off) fun off => ih σ off K) l σ off K
theorem stnF_eq (σ : H) (id off : Nat) (l : List V) (K : H → R) : stnF σ id off l K = stnK σ id off l K := by
  induction l generalizing σ off with
  | nil => rfl
  | cons v l ih =>
    show st1F σ id off v _ = _
    rw [st1F_eq]
    simp only [stnK]
    congr 1
    funext σ
    rw [fN_eq]
    exact ih _ _
noncomputable def natF (v : V) (K : Nat → R) : R := intF v fun _ n => Int.rec (motive := fun _ => (Nat → R) → R) (fun m K => K m) (fun _ _ => none) n K
theorem natF_eq (v : V) (K : Nat → R) : natF v K = natK v K := by
  unfold natF natK
  rw [intF_eq]
  cases v <;> try rfl
  rename_i k n
  cases n with
  | ofNat m => rfl
  | negSucc m => rfl
noncomputable def srcF (σ : H) (sz : Nat) (v : V) (K : List V → Nat → R) : R := slcF v (K [] 0) fun id off _ len _ _ => ldnF σ id (Nat.mul len sz) off fun cs => K cs len
theorem srcF_eq (σ : H) (sz : Nat) (v : V) (K : List V → Nat → R) : srcF σ sz v K = srcK σ sz v K := by
  unfold srcF srcK
  rw [slcF_eq]
  cases v <;> try rfl
  exact ldnF_eq _ _ _ _ _
noncomputable def maxN (a b : Nat) : Nat := Bool.rec (motive := fun _ => Nat) a b (Nat.ble a b)
theorem maxN_eq (a b : Nat) : maxN a b = max a b := by
  unfold maxN
  cases h : Nat.ble a b with
  | true => have := Nat.le_of_ble_eq_true h; simp only; omega
  | false => have : ¬ a ≤ b := fun h2 => by rw [Nat.ble_eq_true_of_le h2] at h; cases h
             simp only; omega
noncomputable def selB (b : Bool) (x y : R) : R := Bool.rec (motive := fun _ => R) y x b
theorem selB_eq (b : Bool) (x y : R) : selB b x y = bif b then x else y := by cases b <;> rfl
/-- append, in a cap that is at hand. -/
noncomputable def appIn (σ : H) (sz : Nat) (new : List V) (n id off len mn : Nat) (ex : Bool) (c : T V) (z : List V) (lo hi : Nat) (K : V → H → R) : R :=
  tofP new (Nat.add off (Nat.mul len sz)) c fun c => fN (maxN hi (Nat.add off (Nat.mul (Nat.add len n) sz))) fun hi => putF σ id (.cells c z lo hi false) fun σ => fN (Nat.add len n) fun m => K (.slc id off sz m mn ex) σ
noncomputable def appNew (σ : H) (sz : Nat) (new : List V) (n id off len : Nat) (ex : Bool) (c : T V) (z : List V) (K : V → H → R) : R :=
  tofP new (Nat.add off (Nat.mul len sz)) c fun c => fN (Nat.add off (Nat.mul (Nat.add len n) sz)) fun hi => fN (Nat.add len n) fun m =>
    pushF σ (.cells c z off hi false) fun i σ => selB ex (K (.slc i off sz m m false) σ) (putF σ id .dead fun σ => K (.slc i off sz m m false) σ)
noncomputable def appF (σ : H) (sz bytes : Nat) (s : V) (new : List V) (n : Nat) (K : V → H → R) : R :=
  ckB (allOneF new) (slcF s
    (selB (Nat.beq n 0) (K .nils σ) (ckB (Nat.ble (Nat.mul n bytes) 140737488355328) (tofP new 0 .lf fun c => fN (Nat.mul n sz) fun hi => pushF σ (.cells c [] 0 hi false) fun i σ => K (.slc i 0 sz n n false) σ)))
    fun id off s len mn ex => getF σ id fun o => cellsO o fun c z lo hi ro => ckB (Nat.ble lo off) (ckB (Nat.ble (Nat.add off (Nat.mul len sz)) hi) (ckB (Nat.beq s sz)
      (selB (Nat.ble (Nat.add len n) mn) (roF ro (appIn σ sz new n id off len mn ex c z lo hi K))
        (ckB (Nat.ble (Nat.mul (Nat.add len n) bytes) 140737488355328) (selB ex (appNew σ sz new n id off len true c z K) (roF ro (appNew σ sz new n id off len false c z K))))))))
theorem appIn_eq (σ : H) (sz : Nat) (new : List V) (n id off len mn : Nat) (ex : Bool) (c : T V) (z : List V) (lo hi : Nat) (K : V → H → R) :
    appIn σ sz new n id off len mn ex c z lo hi K = K (.slc id off sz (len + n) mn ex) (σ.put id (.cells (setAll new (off + len * sz) c) z lo (max hi (off + (len + n) * sz)) false)) := by
  unfold appIn
  rw [tofP_eq, fN_eq, putF_eq, fN_eq, maxN_eq, ← setAll_tofF]
  rfl
theorem appNew_eq (σ : H) (sz : Nat) (new : List V) (n id off len : Nat) (ex : Bool) (c : T V) (z : List V) (K : V → H → R) :
    appNew σ sz new n id off len ex c z K = bif ex then K (.slc σ.next off sz (len + n) (len + n) false) (σ.push (.cells (setAll new (off + len * sz) c) z off (off + (len + n) * sz) false))
      else K (.slc σ.next off sz (len + n) (len + n) false) ((σ.push (.cells (setAll new (off + len * sz) c) z off (off + (len + n) * sz) false)).put id .dead) := by
  unfold appNew
  rw [tofP_eq, fN_eq, fN_eq, pushF_eq, selB_eq, putF_eq, ← setAll_tofF]
  rfl
theorem appF_eq (σ : H) (sz bytes : Nat) (s : V) (new : List V) (n : Nat) (K : V → H → R) : appF σ sz bytes s new n K = appK σ sz bytes s new n K := by
  unfold appF appK
  rw [ckB_eq, allOneF_eq]
  cases allOne new with
  | false => rfl
  | true =>
    simp only [cond_true, Bool.not_true, cond_false]
    rw [slcF_eq]
    cases s <;> try rfl
    · simp only
      rw [selB_eq, ckB_eq, tofP_tof, fN_eq, pushF_eq]
      rfl
    · rename_i id off s len mn ex
      simp only
      rw [getF_eq]
      cases σ.get id with
      | none => rfl
      | some o =>
        simp only [cellsO_eq]
        cases o <;> try rfl
        rename_i c z lo hi ro
        simp only [ckB_eq, selB_eq, appIn_eq, appNew_eq, roF]
        show _ = bif leB lo off && leB (off + len * sz) hi && Nat.beq s sz then _ else none
        have e1 : Nat.ble lo off = leB lo off := rfl
        have e2 : Nat.ble (Nat.add off (Nat.mul len sz)) hi = leB (off + len * sz) hi := rfl
        have e3 : Nat.ble (Nat.add len n) mn = leB (len + n) mn := rfl
        have e4 : Nat.ble (Nat.mul (Nat.add len n) bytes) 140737488355328 = leB ((len + n) * bytes) 140737488355328 := rfl
        rw [e1, e2, e3, e4]
        cases leB lo off <;> cases leB (off + len * sz) hi <;> cases Nat.beq s sz <;> try rfl
        cases leB (len + n) mn <;> cases leB ((len + n) * bytes) 140737488355328 <;> cases ex <;> cases ro <;> rfl

/-! Comparisons of other kinds. -/
noncomputable def eq1F (cls : Nat) (x y : V) (K : Bool → R) : R :=
  Nat.rec (motive := fun _ => R) (boolF x fun a => boolF y fun b => K (Bool.rec (motive := fun _ => Bool) (notB b) b a))
    (fun _ _ => Bool.rec (motive := fun _ => R)
      (Bool.rec (motive := fun _ => R)
        (Bool.rec (motive := fun _ => R) none (Bool.rec (motive := fun _ => R) none (K false) (Nat.beq (nlF y) (Nat.mul 10 cls))) (Nat.beq (nlF x) (Nat.succ (Nat.mul 10 cls))))
        (Bool.rec (motive := fun _ => R) (Bool.rec (motive := fun _ => R) none (K false) (Nat.beq (nlF y) (Nat.succ (Nat.mul 10 cls)))) (K true) (Nat.beq (nlF y) (Nat.mul 10 cls)))
        (Nat.beq (nlF x) (Nat.mul 10 cls))) none (Nat.ble 5 cls)) cls
theorem eq1F_eq (cls : Nat) (x y : V) (K : Bool → R) : eq1F cls x y K = (match eq1 cls x y with | some b => K b | none => none) := by
  match cls with
  | 0 =>
    show boolF x _ = _
    rw [boolF_eq]
    cases x <;> try rfl
    simp only
    rw [boolF_eq]
    cases y <;> try rfl
    rename_i a b
    cases a <;> cases b <;> rfl
  | 1 => cases x <;> cases y <;> rfl
  | 2 => cases x <;> cases y <;> rfl
  | 3 => cases x <;> cases y <;> rfl
  | 4 => cases x <;> cases y <;> rfl
  | n + 5 =>
    have e : Nat.ble 5 (n + 5) = true := Nat.ble_eq_true_of_le (by omega)
    have e2 : eq1F (n + 5) x y K = none := by unfold eq1F; simp only [e]
    have e3 : eq1 (n + 5) x y = none := by unfold eq1; split <;> first | rfl | (rename_i h; exact absurd h (by omega))
    rw [e2, e3]
noncomputable def eqkF (c : Nat) (x y : V) (K : Bool → R) : R :=
  Nat.rec (motive := fun _ => R) (intF x fun k a => intF y fun l b => ckB (kB k l) (natsF a b (fB (decide (a = b)) K) fun m n => fB (Nat.beq m n) K))
    (fun c _ => Nat.rec (motive := fun _ => R) (strF x fun a => strF y fun b => fB (strEqF a b) K)
      (fun c _ => Nat.rec (motive := fun _ => R) (boolF x fun a => boolF y fun b => K (Bool.rec (motive := fun _ => Bool) (notB b) b a)) (fun _ _ => none) c) c) c
theorem eqkF_eq (c : Nat) (x y : V) (K : Bool → R) : eqkF c x y K = (match eqk c x y with | some b => K b | none => none) := by
  match c with
  | 0 =>
    show intF x _ = _
    rw [intF_eq]
    cases x <;> try rfl
    simp only
    rw [intF_eq]
    cases y <;> try rfl
    rename_i k a l b
    simp only [ckB_eq, kB_eq, eqk]
    cases kindB k l with
    | false => rfl
    | true =>
      refine natsF_eq _ _ _ _ _ (fB_eq _ _) fun m n h1 h2 => ?_
      subst h1 h2
      refine (fB_eq _ _).trans ?_
      show K _ = K _
      congr 1
      cases h : Nat.beq m n with
      | true => have := Nat.eq_of_beq_eq_true h; subst this; simp
      | false => have : m ≠ n := Nat.ne_of_beq_eq_false h; simp; omega
  | 1 =>
    show strF x _ = _
    rw [strF_eq]
    cases x <;> try rfl
    simp only
    rw [strF_eq]
    cases y <;> try rfl
    simp only [fB_eq, strEqF_eq, eqk]
  | 2 =>
    show boolF x _ = _
    rw [boolF_eq]
    cases x <;> try rfl
    simp only
    rw [boolF_eq]
    cases y <;> try rfl
    rename_i a b
    cases a <;> cases b <;> rfl
  | n + 3 => cases x <;> cases y <;> rfl
/-- All of some cells. (The evaluator asks all cells: so does this one.) -/
noncomputable def eqlsF (ks : List Nat) (xs ys : List V) (K : Bool → R) : R :=
  List.rec (motive := fun _ => List V → List V → (Bool → R) → R)
    (fun xs ys K => List.rec (motive := fun _ => R) (List.rec (motive := fun _ => R) (K true) (fun _ _ _ => none) ys) (fun _ _ _ => none) xs)
    (fun c _ ih xs ys K => List.rec (motive := fun _ => R) none (fun x xs _ => List.rec (motive := fun _ => R) none (fun y ys _ => eqkF c x y fun a => ih xs ys fun b => K (andB a b)) ys) xs) ks xs ys K
theorem eqlsF_eq (ks : List Nat) (xs ys : List V) (K : Bool → R) : eqlsF ks xs ys K = (match eqls ks xs ys with | some b => K b | none => none) := by
  induction ks generalizing xs ys K with
  | nil => cases xs <;> cases ys <;> rfl
  | cons c ks ih =>
    cases xs with
    | nil => rfl
    | cons x xs =>
      cases ys with
      | nil => rfl
      | cons y ys =>
        show eqkF c x y _ = _
        rw [eqkF_eq]
        simp only [eqls]
        cases eqk c x y with
        | none => rfl
        | some a =>
          refine (ih xs ys _).trans ?_
          cases eqls ks xs ys with
          | none => rfl
          | some b => simp only [andB_eq]
noncomputable def neB (b neg : Bool) : Bool := Bool.rec (motive := fun _ => Bool) neg (notB neg) b
theorem neB_eq (b neg : Bool) : neB b neg = (b != neg) := by cases b <;> cases neg <;> rfl

/-! Maps. -/
noncomputable def findF (kk : Nat) (k : V) (es : List (V × V)) (K0 : R) (K : V → R) : R :=
  List.rec (motive := fun _ => R) K0 (fun e _ ih => eqkF kk k e.1 fun t => selB t (K e.2) ih) es
theorem findF_eq (kk : Nat) (k : V) (es : List (V × V)) (K : Option V → R) : findF kk k es (K none) (fun v => K (some v)) = findK kk k es K := by
  induction es with
  | nil => rfl
  | cons e es ih =>
    obtain ⟨a, b⟩ := e
    show eqkF kk k a _ = _
    rw [eqkF_eq]
    simp only [findK]
    cases eqk kk k a with
    | none => rfl
    | some t => cases t with | true => rfl | false => exact ih
noncomputable def setKF (kk : Nat) (k v : V) (es : List (V × V)) (K : List (V × V) → R) : R :=
  List.rec (motive := fun _ => (List (V × V) → R) → R) (fun K => K [(k, v)]) (fun e es ih K => Prod.rec (motive := fun _ => R) (fun a b => eqkF kk k a fun t => selB t (K ((k, v) :: es)) (ih fun es => K ((a, b) :: es))) e) es K
theorem setKF_eq (kk : Nat) (k v : V) (es : List (V × V)) (K : List (V × V) → R) : setKF kk k v es K = setKey kk k v es K := by
  induction es generalizing K with
  | nil => rfl
  | cons e es ih =>
    obtain ⟨a, b⟩ := e
    show eqkF kk k a _ = _
    rw [eqkF_eq]
    simp only [setKey]
    cases eqk kk k a with
    | none => rfl
    | some t => cases t with | true => rfl | false => exact ih _
noncomputable def delKF (kk : Nat) (k : V) (es : List (V × V)) (K : List (V × V) → R) : R :=
  List.rec (motive := fun _ => (List (V × V) → R) → R) (fun K => K []) (fun e es ih K => Prod.rec (motive := fun _ => R) (fun a b => eqkF kk k a fun t => selB t (K es) (ih fun es => K ((a, b) :: es))) e) es K
theorem delKF_eq (kk : Nat) (k : V) (es : List (V × V)) (K : List (V × V) → R) : delKF kk k es K = delKey kk k es K := by
  induction es generalizing K with
  | nil => rfl
  | cons e es ih =>
    obtain ⟨a, b⟩ := e
    show eqkF kk k a _ = _
    rw [eqkF_eq]
    simp only [delKey]
    cases eqk kk k a with
    | none => rfl
    | some t => cases t with | true => rfl | false => exact ih _

/-! What is filled in. -/
noncomputable def fillP (cs : List V) (off : Nat) (vs : List V) (K : List V → R) : R :=
  List.rec (motive := fun _ => Nat → List V → (List V → R) → R) (fun _ vs K => List.rec (motive := fun _ => R) (K []) (fun _ _ _ => none) vs)
    (fun c cs ih off vs K => List.rec (motive := fun _ => R) (K (c :: cs)) (fun v l _ => Nat.rec (motive := fun _ => R) (ih 0 l fun r => K (v :: r)) (fun k _ => ih k (v :: l) fun r => K (c :: r)) off) vs) cs off vs K
theorem fillP_eq (cs : List V) (off : Nat) (vs : List V) (K : List V → R) : fillP cs off vs K = (match fillF cs off vs with | some cs => K cs | none => none) := by
  induction cs generalizing off vs K with
  | nil => cases vs <;> cases off <;> rfl
  | cons c cs ih =>
    cases vs with
    | nil => cases off <;> rfl
    | cons v l =>
      cases off with
      | zero =>
        refine (ih 0 l _).trans ?_
        simp only [fillF]
        cases fillF cs 0 l <;> rfl
      | succ k =>
        refine (ih k (v :: l) _).trans ?_
        simp only [fillF]
        cases fillF cs k (v :: l) <;> rfl
noncomputable def buildP (tm : T V) (ps : List (Nat × Nat × X)) (cs : List V) (K : List V → R) : R :=
  List.rec (motive := fun _ => List V → (List V → R) → R) (fun cs K => K cs)
    (fun p _ ih cs K => Prod.rec (motive := fun _ => R) (fun off q => Prod.rec (motive := fun _ => R) (fun n x => evF x tm fun v => cellsF v v fun c =>
      ckB (Nat.beq (lenF c) n) (ckB (Nat.ble (Nat.add off n) (lenF cs)) (ckB (allOneF c) (fillP cs off c fun cs => ih cs K)))) q) p) ps cs K
theorem buildP_eq (tm : T V) (ps : List (Nat × Nat × X)) (cs : List V) (K : List V → R) : buildP tm ps cs K = (match buildL (ev tm) cs ps with | some cs => K cs | none => none) := by
  induction ps generalizing cs with
  | nil => rfl
  | cons p ps ih =>
    obtain ⟨off, n, x⟩ := p
    have step : buildP tm ((off, n, x) :: ps) cs K = evF x tm fun v => cellsF v v fun c =>
      ckB (Nat.beq (lenF c) n) (ckB (Nat.ble (Nat.add off n) (lenF cs)) (ckB (allOneF c) (fillP cs off c fun cs => buildP tm ps cs K))) := rfl
    rw [step, evF_eq, cellsF_cells]
    simp only [ckB_eq, lenF_eq, allOneF_eq, fillP_eq, buildL]
    have e2 : Nat.ble (Nat.add off n) cs.length = leB (off + n) cs.length := rfl
    rw [e2]
    cases Nat.beq (ev tm x).cells.length n <;> cases leB (off + n) cs.length <;> cases allOne (ev tm x).cells <;> try rfl
    simp only [cond_true, Bool.and_self]
    cases fillF cs off (ev tm x).cells with
    | none => rfl
    | some cs => exact ih cs
noncomputable def zcellsF (z : List V) (n : Nat) (K : List V → R) : R := Nat.rec (motive := fun _ => (List V → R) → R) (fun K => K []) (fun _ ih K => ih fun r => catF z r K) n K
theorem zcellsF_eq (z : List V) (n : Nat) (K : List V → R) : zcellsF z n K = K (zcells z n) := by
  induction n generalizing K with
  | zero => rfl
  | succ n ih => refine (ih _).trans ?_; rw [catF_eq]; rfl
noncomputable def evsF (xs : List X) (tm : T V) (K : List V → R) : R :=
  List.rec (motive := fun _ => (List V → R) → R) (fun K => K []) (fun x _ ih K => evF x tm fun v => ih fun vs => K (v :: vs)) xs K
theorem evsF_eq (xs : List X) (tm : T V) (K : List V → R) : evsF xs tm K = K (xs.map (ev tm)) := by
  induction xs generalizing K with
  | nil => rfl
  | cons x xs ih => show evF x tm _ = _; rw [evF_eq]; exact ih _
end Ak
