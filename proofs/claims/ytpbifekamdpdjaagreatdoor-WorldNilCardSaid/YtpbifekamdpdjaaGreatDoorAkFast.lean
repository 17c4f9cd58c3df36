/- The evaluator once more, in a form that the kernel runs quickly: recursors on closed cases, all numbers and trees made plain
   before they are handed on. Each piece is equal to that of AkCore. -/
import Derived.Test.YtpbifekamdpdjaaGreatDoorAkCore
namespace Ak
set_option linter.unusedVariables false
set_option linter.unusedSimpArgs false
open Go
abbrev R := Option Unit
abbrev Cal := Tg → List V → H → (V → H → R) → R

/-! Made plain. -/
noncomputable def fN (n : Nat) (K : Nat → R) : R := Nat.rec (motive := fun _ => R) (K 0) (fun k _ => K k) (Nat.succ n)
theorem fN_eq (n : Nat) (K : Nat → R) : fN n K = K n := rfl
noncomputable def fI (i : Int) (K : Int → R) : R := Int.rec (motive := fun _ => R) (fun n => fN n fun n => K (.ofNat n)) (fun n => fN n fun n => K (.negSucc n)) i
theorem fI_eq (i : Int) (K : Int → R) : fI i K = K i := by cases i <;> rfl
noncomputable def fB (b : Bool) (K : Bool → R) : R := Bool.rec (motive := fun _ => R) (K false) (K true) b
theorem fB_eq (b : Bool) (K : Bool → R) : fB b K = K b := by cases b <;> rfl
/-- yes: b; none else. -/
noncomputable def ckB (b : Bool) (r : R) : R := Bool.rec (motive := fun _ => R) none r b
theorem ckB_eq (b : Bool) (r : R) : ckB b r = bif b then r else none := by cases b <;> rfl

/-! Tries by paths. -/
inductive Pa where
  | e
  | a (p : Pa)
  | b (p : Pa)
noncomputable def pathF (f : Nat) : Nat → Pa :=
  Nat.rec (motive := fun _ => Nat → Pa) (fun _ => .e)
    (fun _ ih n => Nat.rec (motive := fun _ => Pa) .e (fun k _ => Bool.rec (motive := fun _ => Pa) (.b (ih (Nat.div k 2))) (.a (ih (Nat.div k 2))) (Nat.beq (Nat.mod k 2) 0)) n) f
noncomputable def pathOf (n : Nat) : Pa := pathF (Nat.succ n) n
noncomputable def gtT {β : Type} (t : T β) (p : Pa) : Option β :=
  Pa.rec (motive := fun _ => T β → Option β) (fun t => T.rec (motive := fun _ => Option β) none (fun _ v _ _ _ => v) t)
    (fun _ ih t => T.rec (motive := fun _ => Option β) none (fun l _ _ _ _ => ih l) t)
    (fun _ ih t => T.rec (motive := fun _ => Option β) none (fun _ _ r _ _ => ih r) t) p t
noncomputable def stT {β : Type} (p : Pa) (t : T β) (a : β) (K : T β → R) : R :=
  Pa.rec (motive := fun _ => T β → β → (T β → R) → R)
    (fun t a K => T.rec (motive := fun _ => R) (K (.nd .lf (some a) .lf)) (fun l _ r _ _ => K (.nd l (some a) r)) t)
    (fun _ ih t a K => T.rec (motive := fun _ => R) (ih .lf a fun l => K (.nd l none .lf)) (fun l v r _ _ => ih l a fun l => K (.nd l v r)) t)
    (fun _ ih t a K => T.rec (motive := fun _ => R) (ih .lf a fun r => K (.nd .lf none r)) (fun l v r _ _ => ih r a fun r => K (.nd l v r)) t) p t a K

theorem gtT_lf {β : Type} (p : Pa) : gtT (.lf : T β) p = none := by cases p <;> rfl
theorem pathF_zero (f : Nat) : pathF (f + 1) 0 = .e := rfl
theorem pathF_succ (f k : Nat) : pathF (f + 1) (k + 1) = if k % 2 = 0 then .a (pathF f (k / 2)) else .b (pathF f (k / 2)) := by
  show (Bool.rec (motive := fun _ => Pa) (.b (pathF f (k / 2))) (.a (pathF f (k / 2))) (Nat.beq (k % 2) 0)) = _
  by_cases h : k % 2 = 0
  · have : Nat.beq (k % 2) 0 = true := by rw [h]; rfl
    rw [this, if_pos h]
  · have : Nat.beq (k % 2) 0 = false := by
      cases e : Nat.beq (k % 2) 0 with
      | false => rfl
      | true => exact absurd (Nat.eq_of_beq_eq_true e) h
    rw [this, if_neg h]
theorem gtT_path {β : Type} : ∀ (f : Nat) (t : T β) (n : Nat), n < f → gtT t (pathF f n) = t.get n := by
  intro f
  induction f with
  | zero => intro t n h; omega
  | succ f ih =>
    intro t n h
    cases t with
    | lf => rw [gtT_lf, T.get_lf]
    | nd l v r =>
      cases n with
      | zero => rfl
      | succ k =>
        have hk : k / 2 < f := by omega
        rw [pathF_succ]
        rcases Nat.mod_two_eq_zero_or_one k with hp | hp
        · rw [if_pos hp]
          have := ih l (k / 2) hk
          simp only [T.get, hp]
          exact this
        · rw [if_neg (by omega)]
          have := ih r (k / 2) hk
          simp only [T.get, hp]
          exact this
theorem gtT_eq {β : Type} (t : T β) (n : Nat) : gtT t (pathOf n) = t.get n := gtT_path _ _ _ (Nat.lt_succ_self n)
theorem stT_path {β : Type} : ∀ (f : Nat) (t : T β) (n : Nat) (a : β) (K : T β → R), n < f → stT (pathF f n) t a K = K (T.setF f t n a) := by
  intro f
  induction f with
  | zero => intro t n a K h; omega
  | succ f ih =>
    intro t n a K h
    cases n with
    | zero => cases t <;> rfl
    | succ k =>
      have hk : k / 2 < f := by omega
      rw [pathF_succ]
      rcases Nat.mod_two_eq_zero_or_one k with hp | hp
      · rw [if_pos hp]
        cases t with
        | lf =>
          have := ih .lf (k / 2) a (fun l => K (.nd l none .lf)) hk
          simp only [T.setF, hp]
          exact this
        | nd l v r =>
          have := ih l (k / 2) a (fun l => K (.nd l v r)) hk
          simp only [T.setF, hp]
          exact this
      · rw [if_neg (by omega)]
        cases t with
        | lf =>
          have := ih .lf (k / 2) a (fun r => K (.nd .lf none r)) hk
          simp only [T.setF, hp]
          exact this
        | nd l v r =>
          have := ih r (k / 2) a (fun r => K (.nd l v r)) hk
          simp only [T.setF, hp]
          exact this
theorem stT_eq {β : Type} (t : T β) (n : Nat) (a : β) (K : T β → R) : stT (pathOf n) t a K = K (t.set n a) := stT_path _ _ _ _ _ (Nat.lt_succ_self n)

/-- What lies at a path is handed on. -/
noncomputable def gtK {β : Type} (p : Pa) (t : T β) (K0 : R) (K : β → R) : R :=
  Pa.rec (motive := fun _ => T β → R → (β → R) → R) (fun t K0 K => T.rec (motive := fun _ => R) K0 (fun _ v _ _ _ => Option.rec (motive := fun _ => R) K0 (fun a => K a) v) t)
    (fun _ ih t K0 K => T.rec (motive := fun _ => R) K0 (fun l _ _ _ _ => ih l K0 K) t)
    (fun _ ih t K0 K => T.rec (motive := fun _ => R) K0 (fun _ _ r _ _ => ih r K0 K) t) p t K0 K
theorem gtK_gtT {β : Type} (p : Pa) (t : T β) (K0 : R) (K : β → R) : gtK p t K0 K = (match gtT t p with | some a => K a | none => K0) := by
  induction p generalizing t with
  | e =>
    cases t with
    | lf => rfl
    | nd l v r => show Option.rec (motive := fun _ => R) K0 (fun a => K a) v = (match v with | some a => K a | none => K0); cases v <;> rfl
  | a p ih => cases t with
    | lf => rfl
    | nd l v r => exact ih l
  | b p ih => cases t with
    | lf => rfl
    | nd l v r => exact ih r
theorem gtK_eq {β : Type} (n : Nat) (t : T β) (K0 : R) (K : β → R) : gtK (pathOf n) t K0 K = (match t.get n with | some a => K a | none => K0) := by
  rw [gtK_gtT, gtT_eq]

/-! Values. -/
noncomputable def evF (x : X) (tm : T V) (K : V → R) : R :=
  X.rec (motive := fun _ => T V → (V → R) → R) (fun i tm K => gtK (pathOf i) tm (K .undef) K) (fun v _ K => K v) x tm K
theorem evF_eq (x : X) (tm : T V) (K : V → R) : evF x tm K = K (ev tm x) := by
  cases x with
  | t i =>
    show gtK (pathOf i) tm (K .undef) K = _
    rw [gtK_eq]
    simp only [ev]
    cases tm.get i <;> rfl
  | c v => rfl
noncomputable def kidx (k : IntKind) : Nat := IntKind.rec (motive := fun _ => Nat) 0 1 2 3 4 5 6 7 k
noncomputable def kB (k l : IntKind) : Bool := Nat.beq (kidx k) (kidx l)
theorem kB_eq (k l : IntKind) : kB k l = kindB k l := by cases k <;> cases l <;> rfl

/-! Views of values. -/
noncomputable def intF (v : V) (K : IntKind → Int → R) : R :=
  V.rec (motive_1 := fun _ => (IntKind → Int → R) → R) (motive_2 := fun _ => Unit) (fun _ => none) (fun _ _ => none) (fun x0 x1 K => K x0 x1) (fun _ _ => none) (fun _ => none) (fun _ _ _ => none) (fun _ => none) (fun _ _ _ _ _ _ _ => none) (fun _ => none) (fun _ _ => none) (fun _ _ _ _ _ _ => none) (fun _ _ => none) (fun _ => none) (fun _ _ _ _ => none) (fun _ => none) (fun _ _ _ => none) (fun _ _ _ => none) () (fun _ _ _ _ => ()) v K
theorem intF_eq (v : V) (K : IntKind → Int → R) : intF v K = (match v with | .int x0 x1 => K x0 x1 | _ => none) := by cases v <;> rfl
noncomputable def boolF (v : V) (K : Bool → R) : R :=
  V.rec (motive_1 := fun _ => (Bool → R) → R) (motive_2 := fun _ => Unit) (fun _ => none) (fun x0 K => K x0) (fun _ _ _ => none) (fun _ _ => none) (fun _ => none) (fun _ _ _ => none) (fun _ => none) (fun _ _ _ _ _ _ _ => none) (fun _ => none) (fun _ _ => none) (fun _ _ _ _ _ _ => none) (fun _ _ => none) (fun _ => none) (fun _ _ _ _ => none) (fun _ => none) (fun _ _ _ => none) (fun _ _ _ => none) () (fun _ _ _ _ => ()) v K
theorem boolF_eq (v : V) (K : Bool → R) : boolF v K = (match v with | .bool x0 => K x0 | _ => none) := by cases v <;> rfl
noncomputable def strF (v : V) (K : List Nat → R) : R :=
  V.rec (motive_1 := fun _ => (List Nat → R) → R) (motive_2 := fun _ => Unit) (fun _ => none) (fun _ _ => none) (fun _ _ _ => none) (fun x0 K => K x0) (fun _ => none) (fun _ _ _ => none) (fun _ => none) (fun _ _ _ _ _ _ _ => none) (fun _ => none) (fun _ _ => none) (fun _ _ _ _ _ _ => none) (fun _ _ => none) (fun _ => none) (fun _ _ _ _ => none) (fun _ => none) (fun _ _ _ => none) (fun _ _ _ => none) () (fun _ _ _ _ => ()) v K
theorem strF_eq (v : V) (K : List Nat → R) : strF v K = (match v with | .str x0 => K x0 | _ => none) := by cases v <;> rfl
noncomputable def ptrF (v : V) (K : Nat → Nat → R) : R :=
  V.rec (motive_1 := fun _ => (Nat → Nat → R) → R) (motive_2 := fun _ => Unit) (fun _ => none) (fun _ _ => none) (fun _ _ _ => none) (fun _ _ => none) (fun _ => none) (fun x0 x1 K => K x0 x1) (fun _ => none) (fun _ _ _ _ _ _ _ => none) (fun _ => none) (fun _ _ => none) (fun _ _ _ _ _ _ => none) (fun _ _ => none) (fun _ => none) (fun _ _ _ _ => none) (fun _ => none) (fun _ _ _ => none) (fun _ _ _ => none) () (fun _ _ _ _ => ()) v K
theorem ptrF_eq (v : V) (K : Nat → Nat → R) : ptrF v K = (match v with | .ptr x0 x1 => K x0 x1 | _ => none) := by cases v <;> rfl
noncomputable def slcF (v : V) (K0 : R) (K : Nat → Nat → Nat → Nat → Nat → Bool → R) : R :=
  V.rec (motive_1 := fun _ => (R) → (Nat → Nat → Nat → Nat → Nat → Bool → R) → R) (motive_2 := fun _ => Unit) (fun _ _ => none) (fun _ _ _ => none) (fun _ _ _ _ => none) (fun _ _ _ => none) (fun _ _ => none) (fun _ _ _ _ => none) (fun K0 _ => K0) (fun x0 x1 x2 x3 x4 x5 _ K => K x0 x1 x2 x3 x4 x5) (fun _ _ => none) (fun _ _ _ => none) (fun _ _ _ _ _ _ _ => none) (fun _ _ _ => none) (fun _ _ => none) (fun _ _ _ _ _ => none) (fun _ _ => none) (fun _ _ _ _ => none) (fun _ _ _ _ => none) () (fun _ _ _ _ => ()) v K0 K
theorem slcF_eq (v : V) (K0 : R) (K : Nat → Nat → Nat → Nat → Nat → Bool → R) : slcF v K0 K = (match v with | .nils => K0 | .slc x0 x1 x2 x3 x4 x5 => K x0 x1 x2 x3 x4 x5 | _ => none) := by cases v <;> rfl
noncomputable def mapF (v : V) (K0 : R) (K : Nat → R) : R :=
  V.rec (motive_1 := fun _ => (R) → (Nat → R) → R) (motive_2 := fun _ => Unit) (fun _ _ => none) (fun _ _ _ => none) (fun _ _ _ _ => none) (fun _ _ _ => none) (fun _ _ => none) (fun _ _ _ _ => none) (fun _ _ => none) (fun _ _ _ _ _ _ _ _ => none) (fun K0 _ => K0) (fun x0 _ K => K x0) (fun _ _ _ _ _ _ _ => none) (fun _ _ _ => none) (fun _ _ => none) (fun _ _ _ _ _ => none) (fun _ _ => none) (fun _ _ _ _ => none) (fun _ _ _ _ => none) () (fun _ _ _ _ => ()) v K0 K
theorem mapF_eq (v : V) (K0 : R) (K : Nat → R) : mapF v K0 K = (match v with | .nilm => K0 | .map x0 => K x0 | _ => none) := by cases v <;> rfl
noncomputable def aggF (v : V) (K : List V → R) : R :=
  V.rec (motive_1 := fun _ => (List V → R) → R) (motive_2 := fun _ => Unit) (fun _ => none) (fun _ _ => none) (fun _ _ _ => none) (fun _ _ => none) (fun _ => none) (fun _ _ _ => none) (fun _ => none) (fun _ _ _ _ _ _ _ => none) (fun _ => none) (fun _ _ => none) (fun _ _ _ _ _ _ => none) (fun _ _ => none) (fun _ => none) (fun _ _ _ _ => none) (fun _ => none) (fun x0 _ K => K x0) (fun _ _ _ => none) () (fun _ _ _ _ => ()) v K
theorem aggF_eq (v : V) (K : List V → R) : aggF v K = (match v with | .agg x0 => K x0 | _ => none) := by cases v <;> rfl
noncomputable def tupV (v : V) (K : List V → R) : R :=
  V.rec (motive_1 := fun _ => (List V → R) → R) (motive_2 := fun _ => Unit) (fun _ => none) (fun _ _ => none) (fun _ _ _ => none) (fun _ _ => none) (fun _ => none) (fun _ _ _ => none) (fun _ => none) (fun _ _ _ _ _ _ _ => none) (fun _ => none) (fun _ _ => none) (fun _ _ _ _ _ _ => none) (fun _ _ => none) (fun _ => none) (fun _ _ _ _ => none) (fun _ => none) (fun _ _ _ => none) (fun x0 _ K => K x0) () (fun _ _ _ _ => ()) v K
theorem tupV_eq (v : V) (K : List V → R) : tupV v K = (match v with | .tup x0 => K x0 | _ => none) := by cases v <;> rfl
noncomputable def fnF (v : V) (K : FuncId → List V → List V → R) (Y : Nat → R) : R :=
  V.rec (motive_1 := fun _ => (FuncId → List V → List V → R) → (Nat → R) → R) (motive_2 := fun _ => Unit) (fun _ _ => none) (fun _ _ _ => none) (fun _ _ _ _ => none) (fun _ _ _ => none) (fun _ _ => none) (fun _ _ _ _ => none) (fun _ _ => none) (fun _ _ _ _ _ _ _ _ => none) (fun _ _ => none) (fun _ _ _ => none) (fun x0 x1 x2 _ _ K _ => K x0 x1 x2) (fun x0 _ Y => Y x0) (fun _ _ => none) (fun _ _ _ _ _ => none) (fun _ _ => none) (fun _ _ _ _ => none) (fun _ _ _ _ => none) () (fun _ _ _ _ => ()) v K Y
theorem fnF_eq (v : V) (K : FuncId → List V → List V → R) (Y : Nat → R) : fnF v K Y = (match v with | .fn x0 x1 x2 => K x0 x1 x2 | .yld x0 => Y x0 | _ => none) := by cases v <;> rfl
noncomputable def nilcF (v : V) (r : R) : R :=
  V.rec (motive_1 := fun _ => (R) → R) (motive_2 := fun _ => Unit) (fun _ => none) (fun _ _ => none) (fun _ _ _ => none) (fun _ _ => none) (fun _ => none) (fun _ _ r => r) (fun _ => none) (fun _ _ _ _ _ _ _ => none) (fun _ => none) (fun _ _ => none) (fun _ _ _ _ _ r => r) (fun _ r => r) (fun _ => none) (fun _ _ _ r => r) (fun _ => none) (fun _ _ _ => none) (fun _ _ _ => none) () (fun _ _ _ _ => ()) v r
theorem nilcF_eq (v : V) (r : R) : nilcF v r = (match v with | .ptr x0 x1 => r | .fn x0 x1 x2 => r | .yld x0 => r | .ifc x0 x1 => r | _ => none) := by cases v <;> rfl
noncomputable def biF (v : V) (y : V) (fi : IntKind → Int → Int → R) (fs : List Nat → List Nat → R) : R :=
  V.rec (motive_1 := fun _ => (V) → (IntKind → Int → Int → R) → (List Nat → List Nat → R) → R) (motive_2 := fun _ => Unit) (fun _ _ _ => none) (fun _ _ _ _ => none) (fun x0 x1 y fi _ => intF y fun l b => ckB (kB x0 l) (fi x0 x1 b)) (fun x0 y _ fs => strF y fun b => fs x0 b) (fun _ _ _ => none) (fun _ _ _ _ _ => none) (fun _ _ _ => none) (fun _ _ _ _ _ _ _ _ _ => none) (fun _ _ _ => none) (fun _ _ _ _ => none) (fun _ _ _ _ _ _ _ _ => none) (fun _ _ _ _ => none) (fun _ _ _ => none) (fun _ _ _ _ _ _ => none) (fun _ _ _ => none) (fun _ _ _ _ _ => none) (fun _ _ _ _ _ => none) () (fun _ _ _ _ => ()) v y fi fs
theorem biF_eq (v : V) (y : V) (fi : IntKind → Int → Int → R) (fs : List Nat → List Nat → R) : biF v y fi fs = (match v with | .int x0 x1 => intF y fun l b => ckB (kB x0 l) (fi x0 x1 b) | .str x0 => strF y fun b => fs x0 b | _ => none) := by cases v <;> rfl
noncomputable def gdvF (v : V) (K : Bool → R) (r : R) : R :=
  V.rec (motive_1 := fun _ => (Bool → R) → (R) → R) (motive_2 := fun _ => Unit) (fun _ _ => none) (fun x0 K _ => K x0) (fun _ _ _ _ => none) (fun _ _ _ => none) (fun _ _ => none) (fun _ _ _ _ => none) (fun _ _ => none) (fun _ _ _ _ _ _ _ _ => none) (fun _ _ => none) (fun _ _ _ => none) (fun _ _ _ _ _ _ _ => none) (fun _ _ _ => none) (fun _ _ => none) (fun _ _ _ _ _ => none) (fun _ _ => none) (fun _ _ _ _ => none) (fun x0 _ _ r => List.rec (motive := fun _ => R) r (fun _ _ _ => none) x0) () (fun _ _ _ _ => ()) v K r
theorem gdvF_eq (v : V) (K : Bool → R) (r : R) : gdvF v K r = (match v with | .bool x0 => K x0 | .tup x0 => List.rec (motive := fun _ => R) r (fun _ _ _ => none) x0 | _ => none) := by cases v <;> rfl
noncomputable def oneF (v : V) : Bool :=
  V.rec (motive_1 := fun _ => Bool) (motive_2 := fun _ => Unit) (false) (fun _ => true) (fun _ _ => true) (fun _ => true) (true) (fun _ _ => true) (true) (fun _ _ _ _ _ _ => true) (true) (fun _ => true) (fun _ _ _ _ _ => true) (fun _ => true) (true) (fun _ _ _ => true) (true) (fun _ _ => false) (fun _ _ => false) () (fun _ _ _ _ => ()) v
theorem oneF_eq (v : V) : oneF v = (match v with | .agg x0 => false | .tup x0 => false | .undef => false | _ => true) := by cases v <;> rfl
noncomputable def cellsF (v : V) (u : V) (K : List V → R) : R :=
  V.rec (motive_1 := fun _ => (V) → (List V → R) → R) (motive_2 := fun _ => Unit) (fun u K => K [u]) (fun _ u K => K [u]) (fun _ _ u K => K [u]) (fun _ u K => K [u]) (fun u K => K [u]) (fun _ _ u K => K [u]) (fun u K => K [u]) (fun _ _ _ _ _ _ u K => K [u]) (fun u K => K [u]) (fun _ u K => K [u]) (fun _ _ _ _ _ u K => K [u]) (fun _ u K => K [u]) (fun u K => K [u]) (fun _ _ _ u K => K [u]) (fun u K => K [u]) (fun x0 _ _ K => K x0) (fun _ _ u K => K [u]) () (fun _ _ _ _ => ()) v u K
theorem cellsF_eq (v : V) (u : V) (K : List V → R) : cellsF v u K = (match v with | .agg x0 => K x0 | _ => K [u]) := by cases v <;> rfl
noncomputable def nlF (v : V) : Nat :=
  V.rec (motive_1 := fun _ => Nat) (motive_2 := fun _ => Unit) (0) (fun _ => 0) (fun _ _ => 0) (fun _ => 0) (10) (fun _ _ => 11) (20) (fun _ _ _ _ _ _ => 21) (30) (fun _ => 31) (fun _ _ _ _ _ => 41) (fun _ => 0) (40) (fun _ _ _ => 0) (0) (fun _ _ => 0) (fun _ _ => 0) () (fun _ _ _ _ => ()) v
theorem nlF_eq (v : V) : nlF v = (match v with | .nil => 10 | .ptr x0 x1 => 11 | .nils => 20 | .slc x0 x1 x2 x3 x4 x5 => 21 | .nilm => 30 | .map x0 => 31 | .nilf => 40 | .fn x0 x1 x2 => 41 | _ => 0) := by cases v <;> rfl
noncomputable def rdF (v : V) (K : List Nat → R) : R :=
  V.rec (motive_1 := fun _ => (List Nat → R) → R) (motive_2 := fun _ => Unit) (fun K => K []) (fun _ K => K []) (fun _ _ K => K []) (fun _ K => K []) (fun K => K []) (fun x0 _ K => K [x0]) (fun K => K []) (fun x0 _ _ _ _ _ K => K [x0]) (fun K => K []) (fun x0 K => K [x0]) (fun _ _ _ _ _ K => K []) (fun _ K => K []) (fun K => K []) (fun _ _ _ K => K []) (fun K => K []) (fun _ _ K => K []) (fun _ _ K => K []) () (fun _ _ _ _ => ()) v K
theorem rdF_eq (v : V) (K : List Nat → R) : rdF v K = (match v with | .ptr x0 x1 => K [x0] | .slc x0 x1 x2 x3 x4 x5 => K [x0] | .map x0 => K [x0] | _ => K []) := by cases v <;> rfl
theorem oneF_one (v : V) : oneF v = v.one := by cases v <;> rfl
theorem cellsF_cells (v : V) (K : List V → R) : cellsF v v K = K v.cells := by cases v <;> rfl

/-! Numbers. -/
noncomputable def limP (k : IntKind) : Nat := IntKind.rec (motive := fun _ => Nat) 128 32768 2147483648 9223372036854775808 256 65536 4294967296 18446744073709551616 k
noncomputable def sgnP (k : IntKind) : Bool := IntKind.rec (motive := fun _ => Bool) true true true true false false false false k
theorem wrap_lt (k : IntKind) (s : Nat) (h : s < limP k) : wrapF k (.ofNat s) = .ofNat s := by
  cases k <;> simp only [limP] at h <;> simp [wrapF, IntKind.wrap, IntKind.bits, IntKind.signed] <;> omega
theorem wrap_uns (k : IntKind) (s : Nat) (h : sgnP k = false) : wrapF k (.ofNat s) = .ofNat (s % limP k) := by
  cases k <;> first | (cases h; done) | (simp [wrapF, IntKind.wrap, IntKind.bits, IntKind.signed, limP])
/-- A number that is not less than nought, wrapped. -/
noncomputable def slowW (k : IntKind) (s : Nat) (K : Int → R) : R :=
  Bool.rec (motive := fun _ => R) (fN (Nat.mod s (limP k)) fun s => K (.ofNat s)) (fI (wrapF k (.ofNat s)) K) (sgnP k)
theorem slowW_eq (k : IntKind) (s : Nat) (K : Int → R) : slowW k s K = K (wrapF k (.ofNat s)) := by
  unfold slowW
  cases h : sgnP k with
  | true => show fI _ K = _; rw [fI_eq]
  | false => rw [wrap_uns k s h]; rfl
noncomputable def wrapN (k : IntKind) (s : Nat) (K : Int → R) : R := fN s fun s => Bool.rec (motive := fun _ => R) (slowW k s K) (K (.ofNat s)) (Nat.ble (Nat.succ s) (limP k))
theorem wrapN_eq (k : IntKind) (s : Nat) (K : Int → R) : wrapN k s K = K (wrapF k (.ofNat s)) := by
  unfold wrapN
  rw [fN_eq]
  cases h : Nat.ble (Nat.succ s) (limP k) with
  | true => rw [wrap_lt k s (Nat.le_of_ble_eq_true h)]
  | false => exact slowW_eq k s K
/-- Two numbers that are not less than nought; others (K0). -/
noncomputable def natsF (a b : Int) (K0 : R) (K : Nat → Nat → R) : R :=
  Int.rec (motive := fun _ => Int → R → (Nat → Nat → R) → R) (fun m b K0 K => Int.rec (motive := fun _ => Nat → R → (Nat → Nat → R) → R) (fun n m _ K => K m n) (fun _ _ K0 _ => K0) b m K0 K) (fun _ _ K0 _ => K0) a b K0 K
theorem natsF_eq (a b : Int) (K0 : R) (K : Nat → Nat → R) (r : R) (h0 : K0 = r) (hK : ∀ m n : Nat, a = .ofNat m → b = .ofNat n → K m n = r) : natsF a b K0 K = r := by
  cases a with
  | ofNat m => cases b with
    | ofNat n => exact hK m n rfl rfl
    | negSucc n => exact h0
  | negSucc m => exact h0
noncomputable def intK (k : IntKind) (K : V → R) (n : Int) : R := K (.int k n)
noncomputable def slowI (k : IntKind) (n : Int) (K : V → R) : R := fI n fun n => K (.int k n)
theorem slowI_eq (k : IntKind) (n : Int) (K : V → R) : slowI k n K = K (.int k n) := fI_eq _ _
noncomputable def slowB (b : Bool) (K : V → R) : R := fB b fun b => K (.bool b)
noncomputable def addF (k : IntKind) (a b : Int) (K : V → R) : R := natsF a b (slowI k (wrapF k (a + b)) K) fun m n => wrapN k (Nat.add m n) (intK k K)
theorem addF_eq (k : IntKind) (a b : Int) (K : V → R) : addF k a b K = K (.int k (wrapF k (a + b))) :=
  natsF_eq _ _ _ _ _ (fI_eq _ _) fun m n h1 h2 => by subst h1 h2; exact wrapN_eq _ _ _
noncomputable def subF (k : IntKind) (a b : Int) (K : V → R) : R :=
  natsF a b (slowI k (wrapF k (a - b)) K) fun m n => Bool.rec (motive := fun _ => R) (slowI k (wrapF k (a - b)) K) (wrapN k (Nat.sub m n) (intK k K)) (Nat.ble n m)
theorem subF_eq (k : IntKind) (a b : Int) (K : V → R) : subF k a b K = K (.int k (wrapF k (a - b))) :=
  natsF_eq _ _ _ _ _ (fI_eq _ _) fun m n h1 h2 => by
    subst h1 h2
    cases h : Nat.ble n m with
    | false => exact fI_eq _ _
    | true =>
      have hle := Nat.le_of_ble_eq_true h
      have e : (Int.ofNat m - Int.ofNat n) = Int.ofNat (Nat.sub m n) := (Int.ofNat_sub hle).symm
      rw [e]
      exact wrapN_eq _ _ _
noncomputable def mulF (k : IntKind) (a b : Int) (K : V → R) : R := natsF a b (slowI k (wrapF k (a * b)) K) fun m n => wrapN k (Nat.mul m n) (intK k K)
theorem mulF_eq (k : IntKind) (a b : Int) (K : V → R) : mulF k a b K = K (.int k (wrapF k (a * b))) :=
  natsF_eq _ _ _ _ _ (fI_eq _ _) fun m n h1 h2 => by subst h1 h2; exact wrapN_eq _ _ _
noncomputable def quoF (k : IntKind) (a b : Int) (K : V → R) : R :=
  natsF a b (bif decide (b = 0) then none else slowI k (wrapF k (a.tdiv b)) K) fun m n => Bool.rec (motive := fun _ => R) (wrapN k (Nat.div m n) (intK k K)) none (Nat.beq n 0)
theorem quoF_eq (k : IntKind) (a b : Int) (K : V → R) : quoF k a b K = (bif decide (b = 0) then none else K (.int k (wrapF k (a.tdiv b)))) :=
  natsF_eq _ _ _ _ _ (by cases decide (b = 0) with | true => rfl | false => exact slowI_eq _ _ _) fun m n h1 h2 => by
    subst h1 h2
    cases n with
    | zero => rfl
    | succ n => exact wrapN_eq k (m / (n + 1)) (intK k K)
noncomputable def remF (k : IntKind) (a b : Int) (K : V → R) : R :=
  natsF a b (bif decide (b = 0) then none else slowI k (a.tmod b) K) fun m n => Bool.rec (motive := fun _ => R) (fN (Nat.mod m n) fun s => K (.int k (.ofNat s))) none (Nat.beq n 0)
theorem remF_eq (k : IntKind) (a b : Int) (K : V → R) : remF k a b K = (bif decide (b = 0) then none else K (.int k (a.tmod b))) :=
  natsF_eq _ _ _ _ _ (by cases decide (b = 0) with | true => rfl | false => exact slowI_eq _ _ _) fun m n h1 h2 => by
    subst h1 h2
    cases n with
    | zero => rfl
    | succ n => rfl
/-- Bits of two numbers, both small. -/
noncomputable def bitF (op : BinOp) (f : Nat → Nat → Nat) (k : IntKind) (a b : Int) (K : V → R) : R :=
  natsF a b (slowI k (bitsF op k a b) K) fun m n => Bool.rec (motive := fun _ => R) (slowI k (bitsF op k a b) K)
    (Bool.rec (motive := fun _ => R) (slowI k (bitsF op k a b) K) (fN (f m n) fun s => K (.int k (.ofNat s))) (Nat.ble (Nat.succ n) (limP k))) (Nat.ble (Nat.succ m) (limP k))
theorem limP_bits (k : IntKind) : limP k ≤ 2 ^ k.bits := by cases k <;> decide
theorem limP_pow (k : IntKind) : ∃ j, limP k = 2 ^ j := by
  cases k
  · exact ⟨7, by decide⟩
  · exact ⟨15, by decide⟩
  · exact ⟨31, by decide⟩
  · exact ⟨63, by decide⟩
  · exact ⟨8, by decide⟩
  · exact ⟨16, by decide⟩
  · exact ⟨32, by decide⟩
  · exact ⟨64, by decide⟩
theorem ofInt_small (k : IntKind) (m : Nat) (h : m < limP k) : (BitVec.ofInt k.bits (.ofNat m)).toNat = m := by
  have := limP_bits k
  simp [BitVec.toNat_ofInt, Int.ofNat_eq_natCast]
  exact Nat.mod_eq_of_lt (Nat.lt_of_lt_of_le h this)
theorem bitF_and (k : IntKind) (a b : Int) (K : V → R) : bitF .and Nat.land k a b K = K (.int k (bitsF .and k a b)) :=
  natsF_eq _ _ _ _ _ (fI_eq _ _) fun m n h1 h2 => by
    subst h1 h2
    cases hm : Nat.ble (Nat.succ m) (limP k) with
    | false => exact fI_eq _ _
    | true => cases hn : Nat.ble (Nat.succ n) (limP k) with
      | false => exact fI_eq _ _
      | true =>
        have hm := Nat.le_of_ble_eq_true hm
        have hn := Nat.le_of_ble_eq_true hn
        have e : bitsF .and k (.ofNat m) (.ofNat n) = .ofNat (Nat.land m n) := by
          simp only [bitsF, BitVec.toNat_and, ofInt_small k m hm, ofInt_small k n hn]
          exact wrap_lt k _ (Nat.lt_of_le_of_lt Nat.and_le_left hm)
        rw [e]
        exact fN_eq _ _
theorem bitF_or (k : IntKind) (a b : Int) (K : V → R) : bitF .or Nat.lor k a b K = K (.int k (bitsF .or k a b)) :=
  natsF_eq _ _ _ _ _ (fI_eq _ _) fun m n h1 h2 => by
    subst h1 h2
    cases hm : Nat.ble (Nat.succ m) (limP k) with
    | false => exact fI_eq _ _
    | true => cases hn : Nat.ble (Nat.succ n) (limP k) with
      | false => exact fI_eq _ _
      | true =>
        have hm := Nat.le_of_ble_eq_true hm
        have hn := Nat.le_of_ble_eq_true hn
        have e : bitsF .or k (.ofNat m) (.ofNat n) = .ofNat (Nat.lor m n) := by
          simp only [bitsF, BitVec.toNat_or, ofInt_small k m hm, ofInt_small k n hn]
          refine wrap_lt k _ ?_
          obtain ⟨j, hj⟩ := limP_pow k
          rw [hj] at hm hn ⊢
          exact Nat.or_lt_two_pow hm hn
        rw [e]
        exact fN_eq _ _
theorem bitF_xor (k : IntKind) (a b : Int) (K : V → R) : bitF .xor Nat.xor k a b K = K (.int k (bitsF .xor k a b)) :=
  natsF_eq _ _ _ _ _ (fI_eq _ _) fun m n h1 h2 => by
    subst h1 h2
    cases hm : Nat.ble (Nat.succ m) (limP k) with
    | false => exact fI_eq _ _
    | true => cases hn : Nat.ble (Nat.succ n) (limP k) with
      | false => exact fI_eq _ _
      | true =>
        have hm := Nat.le_of_ble_eq_true hm
        have hn := Nat.le_of_ble_eq_true hn
        have e : bitsF .xor k (.ofNat m) (.ofNat n) = .ofNat (Nat.xor m n) := by
          simp only [bitsF, BitVec.toNat_xor, ofInt_small k m hm, ofInt_small k n hn]
          refine wrap_lt k _ ?_
          obtain ⟨j, hj⟩ := limP_pow k
          rw [hj] at hm hn ⊢
          exact Nat.xor_lt_two_pow hm hn
        rw [e]
        exact fN_eq _ _
noncomputable def andnF (k : IntKind) (a b : Int) (K : V → R) : R := slowI k (bitsF .andNot k a b) K
noncomputable def minbF (n : Nat) (k : IntKind) : Nat := Bool.rec (motive := fun _ => Nat) k.bits n (Nat.ble n k.bits)
theorem minbF_eq (n : Nat) (k : IntKind) : minbF n k = min n k.bits := by
  unfold minbF
  cases h : Nat.ble n k.bits with
  | true => have := Nat.le_of_ble_eq_true h; simp only; omega
  | false => have : ¬ n ≤ k.bits := fun h2 => by rw [Nat.ble_eq_true_of_le h2] at h; cases h
             simp only; omega
noncomputable def shlF (k : IntKind) (a b : Int) (K : V → R) : R :=
  natsF a b (bif decide (b < 0) then none else slowI k (wrapF k (a * 2 ^ (min b.toNat k.bits))) K) fun m n => wrapN k (Nat.mul m (Nat.pow 2 (minbF n k))) (intK k K)
theorem shlF_eq (k : IntKind) (a b : Int) (K : V → R) : shlF k a b K = (bif decide (b < 0) then none else K (.int k (wrapF k (a * 2 ^ (min b.toNat k.bits))))) :=
  natsF_eq _ _ _ _ _ (by cases decide (b < 0) with | true => rfl | false => exact slowI_eq _ _ _) fun m n h1 h2 => by
    subst h1 h2
    rw [minbF_eq]
    refine (wrapN_eq _ _ _).trans ?_
    have e : decide (Int.ofNat n < 0) = false := by simp [Int.ofNat_eq_natCast]
    rw [e]
    show K (.int k _) = K (.int k _)
    congr 2
noncomputable def shrF (k : IntKind) (a b : Int) (K : V → R) : R :=
  natsF a b (bif decide (b < 0) then none else slowI k (a.fdiv (2 ^ (min b.toNat k.bits))) K) fun m n => fN (Nat.div m (Nat.pow 2 (minbF n k))) fun s => K (.int k (.ofNat s))
theorem shrF_eq (k : IntKind) (a b : Int) (K : V → R) : shrF k a b K = (bif decide (b < 0) then none else K (.int k (a.fdiv (2 ^ (min b.toNat k.bits))))) :=
  natsF_eq _ _ _ _ _ (by cases decide (b < 0) with | true => rfl | false => exact slowI_eq _ _ _) fun m n h1 h2 => by
    subst h1 h2
    rw [minbF_eq, fN_eq]
    have e : decide (Int.ofNat n < 0) = false := by simp [Int.ofNat_eq_natCast]
    rw [e]
    have e2 : (Int.ofNat m).fdiv (2 ^ (min (Int.ofNat n).toNat k.bits)) = Int.ofNat (Nat.div m (Nat.pow 2 (min n k.bits))) := by
      rw [Int.fdiv_eq_ediv_of_nonneg _ (by exact Int.pow_nonneg (by decide))]
      simp [Int.ofNat_eq_natCast]
      rfl
    rw [e2]
    rfl
noncomputable def eqlF (neg : Bool) (a b : Int) (K : V → R) : R :=
  natsF a b (slowB (decide (a = b) != neg) K) fun m n => Bool.rec (motive := fun _ => R) (fB neg fun q => K (.bool q)) (fB neg fun q => Bool.rec (motive := fun _ => R) (K (.bool true)) (K (.bool false)) q) (Nat.beq m n)
theorem eqlF_eq (neg : Bool) (a b : Int) (K : V → R) : eqlF neg a b K = K (.bool (decide (a = b) != neg)) :=
  natsF_eq _ _ _ _ _ (fB_eq _ _) fun m n h1 h2 => by
    subst h1 h2
    cases h : Nat.beq m n with
    | true =>
      have := Nat.eq_of_beq_eq_true h
      subst this
      simp
      cases neg <;> rfl
    | false =>
      have : m ≠ n := Nat.ne_of_beq_eq_false h
      have e : decide (Int.ofNat m = Int.ofNat n) = false := by simp [Int.ofNat_eq_natCast]; omega
      rw [e]
      cases neg <;> rfl
noncomputable def lssF (a b : Int) (K : V → R) : R := natsF a b (slowB (decide (a < b)) K) fun m n => slowB (Nat.ble (Nat.succ m) n) K
theorem lssF_eq (a b : Int) (K : V → R) : lssF a b K = K (.bool (decide (a < b))) :=
  natsF_eq _ _ _ _ _ (fB_eq _ _) fun m n h1 h2 => by
    subst h1 h2
    refine (fB_eq _ _).trans ?_
    congr 2
    cases h : Nat.ble (Nat.succ m) n with
    | true => have := Nat.le_of_ble_eq_true h; simp [Int.ofNat_eq_natCast]; omega
    | false => have : ¬ Nat.succ m ≤ n := fun h2 => by rw [Nat.ble_eq_true_of_le h2] at h; cases h
               simp [Int.ofNat_eq_natCast]; omega
noncomputable def leqF (a b : Int) (K : V → R) : R := natsF a b (slowB (decide (a ≤ b)) K) fun m n => slowB (Nat.ble m n) K
theorem leqF_eq (a b : Int) (K : V → R) : leqF a b K = K (.bool (decide (a ≤ b))) :=
  natsF_eq _ _ _ _ _ (fB_eq _ _) fun m n h1 h2 => by
    subst h1 h2
    refine (fB_eq _ _).trans ?_
    congr 2
    cases h : Nat.ble m n with
    | true => have := Nat.le_of_ble_eq_true h; simp [Int.ofNat_eq_natCast]; omega
    | false => have : ¬ m ≤ n := fun h2 => by rw [Nat.ble_eq_true_of_le h2] at h; cases h
               simp [Int.ofNat_eq_natCast]; omega

/-! Lists. -/
noncomputable def fL {β : Type} (l : List β) (K : List β → R) : R := List.rec (motive := fun _ => (List β → R) → R) (fun K => K []) (fun v _ ih K => ih fun l => K (v :: l)) l K
theorem fL_eq {β : Type} (l : List β) (K : List β → R) : fL l K = K l := by
  induction l generalizing K with
  | nil => rfl
  | cons v l ih => exact ih _
noncomputable def lenF {β : Type} (l : List β) : Nat := List.rec (motive := fun _ => Nat) 0 (fun _ _ ih => Nat.succ ih) l
theorem lenF_eq {β : Type} (l : List β) : lenF l = l.length := by
  induction l with
  | nil => rfl
  | cons v l ih => exact congrArg Nat.succ ih
noncomputable def nthF {β : Type} (l : List β) (i : Nat) (K : β → R) : R :=
  List.rec (motive := fun _ => Nat → (β → R) → R) (fun _ _ => none) (fun v _ ih i K => Nat.rec (motive := fun _ => R) (K v) (fun k _ => ih k K) i) l i K
theorem nthF_eq {β : Type} (l : List β) (i : Nat) (K : β → R) : nthF l i K = (match l[i]? with | some v => K v | none => none) := by
  induction l generalizing i with
  | nil => rfl
  | cons v l ih => cases i with
    | zero => rfl
    | succ i => exact ih i
noncomputable def dropF {β : Type} (l : List β) (i : Nat) : List β := List.rec (motive := fun _ => Nat → List β) (fun _ => []) (fun v l ih i => Nat.rec (motive := fun _ => List β) (v :: l) (fun k _ => ih k) i) l i
theorem dropF_eq {β : Type} (l : List β) (i : Nat) : dropF l i = l.drop i := by
  induction l generalizing i with
  | nil => cases i <;> rfl
  | cons v l ih => cases i with
    | zero => rfl
    | succ i => exact ih i
noncomputable def takeF {β : Type} (l : List β) (n : Nat) (K : List β → R) : R :=
  List.rec (motive := fun _ => Nat → (List β → R) → R) (fun _ K => K []) (fun v _ ih n K => Nat.rec (motive := fun _ => R) (K []) (fun k _ => ih k fun l => K (v :: l)) n) l n K
theorem takeF_eq {β : Type} (l : List β) (n : Nat) (K : List β → R) : takeF l n K = K (l.take n) := by
  induction l generalizing n K with
  | nil => cases n <;> rfl
  | cons v l ih => cases n with
    | zero => rfl
    | succ n => exact ih n _
noncomputable def catF {β : Type} (a b : List β) (K : List β → R) : R := List.rec (motive := fun _ => (List β → R) → R) (fun K => K b) (fun v _ ih K => ih fun l => K (v :: l)) a K
theorem catF_eq {β : Type} (a b : List β) (K : List β → R) : catF a b K = K (a ++ b) := by
  induction a generalizing K with
  | nil => rfl
  | cons v l ih => exact ih _
noncomputable def andB (a b : Bool) : Bool := Bool.rec (motive := fun _ => Bool) false b a
theorem andB_eq (a b : Bool) : andB a b = (a && b) := by cases a <;> rfl
noncomputable def orB (a b : Bool) : Bool := Bool.rec (motive := fun _ => Bool) b true a
theorem orB_eq (a b : Bool) : orB a b = (a || b) := by cases a <;> rfl
noncomputable def notB (a : Bool) : Bool := Bool.rec (motive := fun _ => Bool) true false a
theorem notB_eq (a : Bool) : notB a = !a := by cases a <;> rfl
noncomputable def allOneF (l : List V) : Bool := List.rec (motive := fun _ => Bool) true (fun v _ ih => andB (oneF v) ih) l
theorem allOneF_eq (l : List V) : allOneF l = allOne l := by
  induction l with
  | nil => rfl
  | cons v l ih => show andB (oneF v) (allOneF l) = _; rw [andB_eq, oneF_one, ih]; rfl
noncomputable def tofP (l : List V) (i : Nat) (t : T V) (K : T V → R) : R :=
  List.rec (motive := fun _ => Nat → T V → (T V → R) → R) (fun _ t K => K t) (fun v _ ih i t K => stT (pathOf i) t v fun t => fN (Nat.succ i) fun i => ih i t K) l i t K
theorem tofP_eq (l : List V) (i : Nat) (t : T V) (K : T V → R) : tofP l i t K = K (tofF l i t) := by
  induction l generalizing i t with
  | nil => rfl
  | cons v l ih => show stT _ _ _ _ = _; rw [stT_eq, fN_eq]; exact ih _ _
theorem tofP_tof (l : List V) (K : T V → R) : tofP l 0 .lf K = K (tof l) := tofP_eq l 0 .lf K
theorem setAll_tofF (l : List V) (i : Nat) (t : T V) : setAll l i t = tofF l i t := by
  induction l generalizing i t with
  | nil => rfl
  | cons v l ih => exact ih _ _
noncomputable def strEqF (a b : List Nat) : Bool := List.rec (motive := fun _ => List Nat → Bool) (fun b => List.rec (motive := fun _ => Bool) true (fun _ _ _ => false) b) (fun x _ ih b => List.rec (motive := fun _ => Bool) false (fun y l _ => andB (Nat.beq x y) (ih l)) b) a b
theorem strEqF_eq (a b : List Nat) : strEqF a b = strEq a b := by
  induction a generalizing b with
  | nil => cases b <;> rfl
  | cons x a ih => cases b with
    | nil => rfl
    | cons y b => show andB (Nat.beq x y) (strEqF a b) = _; rw [andB_eq, ih]; rfl
noncomputable def strLtF (a b : List Nat) : Bool := List.rec (motive := fun _ => List Nat → Bool) (fun b => List.rec (motive := fun _ => Bool) false (fun _ _ _ => true) b) (fun x _ ih b => List.rec (motive := fun _ => Bool) false (fun y l _ => orB (Nat.ble (Nat.succ x) y) (andB (Nat.beq x y) (ih l))) b) a b
theorem strLtF_eq (a b : List Nat) : strLtF a b = strLt a b := by
  induction a generalizing b with
  | nil => cases b <;> rfl
  | cons x a ih => cases b with
    | nil => rfl
    | cons y b => show orB (Nat.ble (Nat.succ x) y) (andB (Nat.beq x y) (strLtF a b)) = _; rw [orB_eq, andB_eq, ih]; rfl
noncomputable def sAddF (a b : List Nat) (K : V → R) : R := ckB (Nat.ble (Nat.add (lenF a) (lenF b)) 9223372036854775807) (catF a b fun s => K (.str s))
theorem sAddF_eq (a b : List Nat) (K : V → R) : sAddF a b K = binS .add a b K := by
  unfold sAddF
  rw [ckB_eq, catF_eq, lenF_eq, lenF_eq]
  simp only [binS]
  congr 1
  cases h : Nat.ble (Nat.add a.length b.length) 9223372036854775807 with
  | true => have := Nat.le_of_ble_eq_true h; exact (decide_eq_true this).symm
  | false => exact (decide_eq_false fun h2 => by have : Nat.ble (Nat.add a.length b.length) 9223372036854775807 = true := Nat.ble_eq_true_of_le h2
                                                 rw [this] at h; cases h).symm

/-- Binary operations. -/
noncomputable def binF (op : BinOp) (x y : V) (K : V → R) : R :=
  BinOp.rec (motive := fun _ => V → V → (V → R) → R)
    (add := fun x y K => biF x y (fun k a b => addF k a b K) fun a b => sAddF a b K)
    (sub := fun x y K => biF x y (fun k a b => subF k a b K) fun _ _ => none)
    (mul := fun x y K => biF x y (fun k a b => mulF k a b K) fun _ _ => none)
    (quo := fun x y K => biF x y (fun k a b => quoF k a b K) fun _ _ => none)
    (rem := fun x y K => biF x y (fun k a b => remF k a b K) fun _ _ => none)
    (and := fun x y K => biF x y (fun k a b => bitF .and Nat.land k a b K) fun _ _ => none)
    (or := fun x y K => biF x y (fun k a b => bitF .or Nat.lor k a b K) fun _ _ => none)
    (xor := fun x y K => biF x y (fun k a b => bitF .xor Nat.xor k a b K) fun _ _ => none)
    (shl := fun x y K => intF x fun k a => intF y fun _ b => shlF k a b K)
    (shr := fun x y K => intF x fun k a => intF y fun _ b => shrF k a b K)
    (andNot := fun x y K => biF x y (fun k a b => andnF k a b K) fun _ _ => none)
    (eql := fun x y K => biF x y (fun _ a b => eqlF false a b K) fun a b => slowB (strEqF a b) K)
    (neq := fun x y K => biF x y (fun _ a b => eqlF true a b K) fun a b => slowB (notB (strEqF a b)) K)
    (lss := fun x y K => biF x y (fun _ a b => lssF a b K) fun a b => slowB (strLtF a b) K)
    (leq := fun x y K => biF x y (fun _ a b => leqF a b K) fun a b => slowB (orB (strLtF a b) (strEqF a b)) K)
    (gtr := fun x y K => biF x y (fun _ a b => lssF b a K) fun a b => slowB (notB (orB (strLtF a b) (strEqF a b))) K)
    (geq := fun x y K => biF x y (fun _ a b => leqF b a K) fun a b => slowB (notB (strLtF a b)) K)
    op x y K
theorem biF_of (op : BinOp) (x y : V) (K : V → R) (fi : IntKind → Int → Int → R) (fs : List Nat → List Nat → R) (h1 : op ≠ .shl) (h2 : op ≠ .shr)
    (hi : ∀ k a b, fi k a b = binI op k a b K) (hs : ∀ a b, fs a b = binS op a b K) : biF x y fi fs = binK op x y K := by
  rw [biF_eq]
  cases x <;> try (unfold binK; first | rfl | (cases op <;> first | rfl | (cases y <;> rfl)))
  · rename_i k a
    simp only
    rw [intF_eq]
    cases y <;> try (unfold binK; cases op <;> first | rfl | exact absurd rfl h1 | exact absurd rfl h2)
    rename_i l b
    simp only [ckB_eq, kB_eq, hi]
    unfold binK
    cases op <;> first | rfl | exact absurd rfl h1 | exact absurd rfl h2
  · rename_i a
    simp only
    rw [strF_eq]
    cases y <;> try (unfold binK; cases op <;> rfl)
    rename_i b
    simp only [hs]
    unfold binK
    cases op <;> rfl
theorem binF_eq (op : BinOp) (x y : V) (K : V → R) : binF op x y K = binK op x y K := by
  cases op
  case shl =>
    show intF x _ = _
    rw [intF_eq]
    cases x <;> try (cases y <;> rfl)
    simp only
    rw [intF_eq]
    cases y <;> first | rfl | exact shlF_eq _ _ _ _
  case shr =>
    show intF x _ = _
    rw [intF_eq]
    cases x <;> try (cases y <;> rfl)
    simp only
    rw [intF_eq]
    cases y <;> first | rfl | exact shrF_eq _ _ _ _
  case add => exact biF_of _ _ _ _ _ _ (by decide) (by decide) (fun k a b => addF_eq _ _ _ _) fun a b => sAddF_eq _ _ _
  case sub => exact biF_of _ _ _ _ _ _ (by decide) (by decide) (fun k a b => subF_eq _ _ _ _) fun a b => rfl
  case mul => exact biF_of _ _ _ _ _ _ (by decide) (by decide) (fun k a b => mulF_eq _ _ _ _) fun a b => rfl
  case quo => exact biF_of _ _ _ _ _ _ (by decide) (by decide) (fun k a b => quoF_eq _ _ _ _) fun a b => rfl
  case rem => exact biF_of _ _ _ _ _ _ (by decide) (by decide) (fun k a b => remF_eq _ _ _ _) fun a b => rfl
  case and => exact biF_of _ _ _ _ _ _ (by decide) (by decide) (fun k a b => bitF_and _ _ _ _) fun a b => rfl
  case or => exact biF_of _ _ _ _ _ _ (by decide) (by decide) (fun k a b => bitF_or _ _ _ _) fun a b => rfl
  case xor => exact biF_of _ _ _ _ _ _ (by decide) (by decide) (fun k a b => bitF_xor _ _ _ _) fun a b => rfl
  case andNot => exact biF_of _ _ _ _ _ _ (by decide) (by decide) (fun k a b => slowI_eq _ _ _) fun a b => rfl
  case eql => exact biF_of _ _ _ _ _ _ (by decide) (by decide) (fun k a b => by rw [eqlF_eq]; simp [binI]) fun a b => by rw [slowB, fB_eq, strEqF_eq]; rfl
  case neq => exact biF_of _ _ _ _ _ _ (by decide) (by decide) (fun k a b => by rw [eqlF_eq]; simp [binI]) fun a b => by rw [slowB, fB_eq, strEqF_eq, notB_eq]; rfl
  case lss => exact biF_of _ _ _ _ _ _ (by decide) (by decide) (fun k a b => lssF_eq _ _ _) fun a b => by rw [slowB, fB_eq, strLtF_eq]; rfl
  case leq => exact biF_of _ _ _ _ _ _ (by decide) (by decide) (fun k a b => leqF_eq _ _ _) fun a b => by rw [slowB, fB_eq, strLtF_eq, strEqF_eq, orB_eq]; rfl
  case gtr => exact biF_of _ _ _ _ _ _ (by decide) (by decide) (fun k a b => lssF_eq _ _ _) fun a b => by rw [slowB, fB_eq, strLtF_eq, strEqF_eq, orB_eq, notB_eq]; rfl
  case geq => exact biF_of _ _ _ _ _ _ (by decide) (by decide) (fun k a b => leqF_eq _ _ _) fun a b => by rw [slowB, fB_eq, strLtF_eq, notB_eq]; rfl
end Ak

