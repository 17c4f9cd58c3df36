/- The abstract evaluator: abstract values, an abstract heap whose addresses are numbers of objects, a small resolved form of the
   model's code, and an evaluator in continuation form. Nothing here speaks of the machine. -/
import Derived.RangeFuncLeaves
import Derived.OrdersIn
namespace Ak
open Go

/-! Tries. -/
inductive T (α : Type) where
  | lf
  | nd (l : T α) (v : Option α) (r : T α)

namespace T
variable {α : Type}
def get : T α → Nat → Option α
  | .lf, _ => none
  | .nd l v r, n => match n with
    | 0 => v
    | k + 1 => match k % 2 with
      | 0 => get l (k / 2)
      | _ => get r (k / 2)
def setF : Nat → T α → Nat → α → T α
  | 0, t, _, _ => t
  | f + 1, .lf, n, a => match n with
    | 0 => .nd .lf (some a) .lf
    | k + 1 => match k % 2 with
      | 0 => .nd (setF f .lf (k / 2) a) none .lf
      | _ => .nd .lf none (setF f .lf (k / 2) a)
  | f + 1, .nd l v r, n, a => match n with
    | 0 => .nd l (some a) r
    | k + 1 => match k % 2 with
      | 0 => .nd (setF f l (k / 2) a) v r
      | _ => .nd l v (setF f r (k / 2) a)
def set (t : T α) (n : Nat) (a : α) : T α := setF (n + 1) t n a

theorem get_lf (n : Nat) : (T.lf : T α).get n = none := by cases n <;> rfl

theorem get_setF : ∀ (f : Nat) (t : T α) (n m : Nat) (a : α), n < f → (setF f t n a).get m = if m = n then some a else t.get m := by
  intro f
  induction f with
  | zero => intro t n m a h; omega
  | succ f ih =>
    intro t n m a h
    have key : ∀ (l r : T α) (v : Option α), (match n with
        | 0 => T.nd l (some a) r
        | k + 1 => match k % 2 with
          | 0 => T.nd (setF f l (k / 2) a) v r
          | _ => T.nd l v (setF f r (k / 2) a)).get m = if m = n then some a else (T.nd l v r).get m := by
      intro l r v
      cases n with
      | zero =>
        cases m with
        | zero => simp [get]
        | succ j => simp [get]
      | succ k =>
        have hk : k / 2 < f := by omega
        rcases Nat.mod_two_eq_zero_or_one k with hp | hp
        · simp only [hp]
          cases m with
          | zero => simp [get]
          | succ j =>
            rcases Nat.mod_two_eq_zero_or_one j with hj | hj
            · simp only [get, hj, ih _ _ _ _ hk]
              by_cases e : j = k
              · simp [e]
              · have : ¬ j / 2 = k / 2 := by omega
                simp [e, this]
            · simp only [get, hj]
              rw [if_neg (by omega)]
        · simp only [hp]
          cases m with
          | zero => simp [get]
          | succ j =>
            rcases Nat.mod_two_eq_zero_or_one j with hj | hj
            · simp only [get, hj]
              rw [if_neg (by omega)]
            · simp only [get, hj, ih _ _ _ _ hk]
              by_cases e : j = k
              · simp [e]
              · have : ¬ j / 2 = k / 2 := by omega
                simp [e, this]
    cases t with
    | lf =>
      have := key .lf .lf none
      have e : (T.nd (.lf : T α) none .lf).get m = (T.lf : T α).get m := by
        cases m with
        | zero => rfl
        | succ j => simp only [get]; split <;> simp
      rw [e] at this
      simp only [setF]
      exact this
    | nd l v r =>
      have := key l r v
      simp only [setF]
      exact this

theorem get_set (t : T α) (n m : Nat) (a : α) : (t.set n a).get m = if m = n then some a else t.get m := get_setF _ _ _ _ _ (by omega)
theorem get_set_same (t : T α) (n : Nat) (a : α) : (t.set n a).get n = some a := by simp [get_set]
theorem get_set_ne (t : T α) {n m : Nat} (a : α) (h : m ≠ n) : (t.set n a).get m = t.get m := by simp [get_set, h]
end T

/-! Values. -/
inductive V where
  | undef
  | bool (b : Bool)
  | int (k : IntKind) (n : Int)
  | str (s : List Nat)
  | nil
  | ptr (id off : Nat)
  | nils
  | slc (id off sz len mn : Nat) (ex : Bool)
  | nilm
  | map (id : Nat)
  | fn (f : FuncId) (xs cap : List V)
  | yld (id : Nat)
  | nilf
  | ifc (t : TypeId) (v : V)
  | nili
  | agg (cs : List V)
  | tup (cs : List V)
instance : Inhabited V := ⟨.undef⟩

def V.cells : V → List V
  | .agg cs => cs
  | v => [v]

/-- May this value lie in one cell? -/
def V.one : V → Bool
  | .agg _ | .tup _ | .undef => false
  | _ => true

inductive X where
  | t (i : Nat)
  | c (v : V)

/-- Operations, their types resolved. -/
inductive Ap where
  | mv (x : X)
  | pick (c a b : X)
  | alloc (zs : List V)
  | box (x : X)
  | build (zs : List V) (ps : List (Nat × Nat × X))
  | bsl (zs : List V) (len : Nat) (ps : List (Nat × X))
  | ld1 (a : X)
  | ldn (n : Nat) (a : X)
  | st (n : Nat) (a v : X)
  | nilc (x : X)
  | bin (op : BinOp) (x y : X)
  | eqn (cls : Nat) (neg : Bool) (x y : X)
  | eqa (ks : List Nat) (neg : Bool) (x y : X)
  | not (x : X)
  | neg (x : X)
  | cvi (k : IntKind) (x : X)
  | cvs (x : X)
  | s2b (x : X)
  | b2s (x : X)
  | mkI (t : TypeId) (x : X)
  | mkF (f : FuncId) (xs cap : List X)
  | mkM
  | mkMh (x : X)
  | mkS (zs : List V) (bytes : Nat) (len cap : X)
  | slS (x : X) (lo hi : Option X)
  | slL (sz : Nat) (x : X) (lo hi : Option X)
  | sl3 (sz : Nat) (x : X) (lo hi : Option X) (mx : X)
  | slA (n sz : Nat) (x : X) (lo hi : Option X)
  | fa (off : Nat) (x : X)
  | fld1 (off : Nat) (x : X)
  | fldn (off n : Nat) (x : X)
  | iaA (len sz : Nat) (x i : X)
  | iaS (sz : Nat) (x i : X)
  | ixA1 (len sz : Nat) (x i : X)
  | ixAn (len sz n : Nat) (x i : X)
  | ixS (x i : X)
  | lkp (kk : Nat) (zero : V) (ok : Bool) (m k : X)
  | mup (kk : Nat) (m k v : X)
  | del (kk : Nat) (m k : X)
  | ext (x : X) (i : Nat)
  | lenS (x : X)
  | lenL (x : X)
  | lenC (n : Nat)
  | cap (x : X)
  | mn (x : X) (xs : List X)
  | mx (x : X) (xs : List X)
  | app (sz bytes : Nat) (s x : X)
  | appS (s x : X)
  | appZ (zs : List V) (bytes : Nat) (s x : X)
  | cpy (sz : Nat) (d s : X)
  | cpyS (d s : X)
  | clrM (x : X)
  | clrS (zs : List V) (x : X)
  | s2a (n : Nat) (x : X)
  | call (f : FuncId) (args : List X)
  | calv (x : X) (args : List X)
  | bad

structure Ao where
  dst : Option Nat
  op : Ap
  g : Option (Nat × Bool)

/-- Code. `drw`: operations in an early order, each with the numbers (in that order) of the effectful ones that stand in no order to it. -/
inductive A where
  | skip
  | reg (ops : List Ao)
  | drw (ops : List (Ao × Bool × List Nat))
  | seq (a b : A)
  | cond (c : X) (a b : A)
  | blk (id : Nat) (a : A)
  | loop (a : A)
  | rng (f : X) (ps : List Nat) (asn body : A)
  | exit (id : Nat)
  | ret
  | sum (k : Nat) (a : A)
  | bad

inductive Ex where
  | normal
  | exit (id : Nat)
  | ret

def Ex.inBlk (id : Nat) : Ex → Ex
  | .exit j => bif Nat.beq j id then .normal else .exit j
  | e => e

/-- The states of a range over a function. -/
inductive Ls where
  | ready | busy | done | exhausted

structure Lr where
  st : Ls
  pend : Option Ex
  tm : T V
  ps : List Nat
  asn : A
  body : A

inductive O where
  | cells (c : T V) (z : List V) (lo hi : Nat) (ro : Bool)
  | map (es : List (V × V))
  | loop (l : Lr)
  | defs
  | shut
  | dead

structure H where
  next : Nat
  obs : T O
  log : List Nat

namespace H
def get (σ : H) (id : Nat) : Option O := σ.obs.get id
def push (σ : H) (o : O) : H := { σ with next := σ.next + 1, obs := σ.obs.set σ.next o }
def put (σ : H) (id : Nat) (o : O) : H := { σ with obs := σ.obs.set id o, log := id :: σ.log }
end H

def tofF : List V → Nat → T V → T V
  | [], _, t => t
  | v :: vs, i, t => tofF vs (i + 1) (t.set i v)
def tof (l : List V) : T V := tofF l 0 .lf

/-- The cell at a place: what was set, else the noughts' pattern. -/
def cget (c : T V) (z : List V) (i : Nat) : V :=
  match c.get i with
  | some v => v
  | none => z.getD (i % z.length) .undef

def ev (tm : T V) : X → V
  | .t i => match tm.get i with | some v => v | none => .undef
  | .c v => v

def cv (tm : T V) (dst : Option Nat) (v : V) : T V :=
  match dst with
  | some d => tm.set d v
  | none => tm

def leB (a b : Nat) : Bool := Nat.ble a b

section eval
variable {α : Type}

/-- Cells of an object, from a place on. -/
def ldK (σ : H) (id off : Nat) (K : V → Option α) : Option α :=
  match σ.get id with
  | some (.cells c z lo hi _) => bif leB lo off && Nat.blt off hi then K (cget c z off) else none
  | _ => none
def ldnK (σ : H) (id : Nat) : Nat → Nat → (List V → Option α) → Option α
  | _, 0, K => K []
  | off, n + 1, K => ldK σ id off fun v => ldnK σ id (off + 1) n fun vs => K (v :: vs)
def st1K (σ : H) (id off : Nat) (v : V) (K : H → Option α) : Option α :=
  match σ.get id with
  | some (.cells c z lo hi false) => bif leB lo off && Nat.blt off hi && v.one then K (σ.put id (.cells (c.set off v) z lo hi false)) else none
  | _ => none
def stnK (σ : H) (id : Nat) : Nat → List V → (H → Option α) → Option α
  | _, [], K => K σ
  | off, v :: vs, K => st1K σ id off v fun σ => stnK σ id (off + 1) vs K

def natK (v : V) (K : Nat → Option α) : Option α :=
  match v with
  | .int _ n => bif decide (0 ≤ n) then K n.toNat else none
  | _ => none

def wrapF (k : IntKind) (n : Int) : Int := k.wrap n

def bitsF (op : BinOp) (k : IntKind) (a b : Int) : Int :=
  let x := BitVec.ofInt k.bits a
  let y := BitVec.ofInt k.bits b
  match op with
  | .and => k.wrap (x &&& y).toNat
  | .or => k.wrap (x ||| y).toNat
  | .xor => k.wrap (x ^^^ y).toNat
  | _ => k.wrap (x &&& ~~~y).toNat

def strLt : List Nat → List Nat → Bool
  | _, [] => false
  | [], _ :: _ => true
  | a :: x, b :: y => Nat.blt a b || (Nat.beq a b && strLt x y)
def strEq : List Nat → List Nat → Bool
  | [], [] => true
  | a :: x, b :: y => Nat.beq a b && strEq x y
  | _, _ => false

def binI (op : BinOp) (k : IntKind) (a b : Int) (K : V → Option α) : Option α :=
  match op with
  | .add => K (.int k (wrapF k (a + b)))
  | .sub => K (.int k (wrapF k (a - b)))
  | .mul => K (.int k (wrapF k (a * b)))
  | .quo => bif decide (b = 0) then none else K (.int k (wrapF k (a.tdiv b)))
  | .rem => bif decide (b = 0) then none else K (.int k (a.tmod b))
  | .and | .or | .xor | .andNot => K (.int k (bitsF op k a b))
  | .eql => K (.bool (decide (a = b)))
  | .neq => K (.bool (!decide (a = b)))
  | .lss => K (.bool (decide (a < b)))
  | .leq => K (.bool (decide (a ≤ b)))
  | .gtr => K (.bool (decide (b < a)))
  | .geq => K (.bool (decide (b ≤ a)))
  | _ => none
def binS (op : BinOp) (a b : List Nat) (K : V → Option α) : Option α :=
  match op with
  | .add => bif decide (a.length + b.length ≤ 9223372036854775807) then K (.str (a ++ b)) else none
  | .eql => K (.bool (strEq a b))
  | .neq => K (.bool (!strEq a b))
  | .lss => K (.bool (strLt a b))
  | .leq => K (.bool (strLt a b || strEq a b))
  | .gtr => K (.bool (!(strLt a b || strEq a b)))
  | .geq => K (.bool (!strLt a b))
  | _ => none
def kindB (k l : IntKind) : Bool := decide (k = l)
def binK (op : BinOp) (x y : V) (K : V → Option α) : Option α :=
  match op, x, y with
  | .shl, .int k a, .int _ b => bif decide (b < 0) then none else K (.int k (wrapF k (a * 2 ^ (min b.toNat k.bits))))
  | .shr, .int k a, .int _ b => bif decide (b < 0) then none else K (.int k (a.fdiv (2 ^ (min b.toNat k.bits))))
  | op, .int k a, .int l b => bif kindB k l then binI op k a b K else none
  | op, .str a, .str b => binS op a b K
  | _, _, _ => none

/-- `==` of one cell's values, by the type's kind: 0 bool, 1 pointer, 2 slice, 3 map, 4 function. -/
def eq1 : Nat → V → V → Option Bool
  | 0, .bool a, .bool b => some (a == b)
  | 1, .nil, .nil => some true
  | 1, .nil, .ptr _ _ | 1, .ptr _ _, .nil => some false
  | 2, .nils, .nils => some true
  | 2, .nils, .slc _ _ _ _ _ _ | 2, .slc _ _ _ _ _ _, .nils => some false
  | 3, .nilm, .nilm => some true
  | 3, .nilm, .map _ | 3, .map _, .nilm => some false
  | 4, .nilf, .nilf => some true
  | 4, .nilf, .fn _ _ _ | 4, .fn _ _ _, .nilf => some false
  | _, _, _ => none
/-- Plain data alone: 0 numbers, 1 texts, 2 bools. -/
def eqk : Nat → V → V → Option Bool
  | 0, .int k a, .int l b => bif kindB k l then some (decide (a = b)) else none
  | 1, .str a, .str b => some (strEq a b)
  | 2, .bool a, .bool b => some (a == b)
  | _, _, _ => none
def eqls : List Nat → List V → List V → Option Bool
  | [], [], [] => some true
  | c :: cs, x :: xs, y :: ys => match eqk c x y, eqls cs xs ys with
    | some a, some b => some (a && b)
    | _, _ => none
  | _, _, _ => none

def findK (kk : Nat) (k : V) : List (V × V) → (Option V → Option α) → Option α
  | [], K => K none
  | (a, b) :: es, K => match eqk kk k a with
    | some t => bif t then K (some b) else findK kk k es K
    | none => none
def setKey (kk : Nat) (k v : V) : List (V × V) → (List (V × V) → Option α) → Option α
  | [], K => K [(k, v)]
  | (a, b) :: es, K => match eqk kk k a with
    | some t => bif t then K ((k, v) :: es) else setKey kk k v es fun es => K ((a, b) :: es)
    | none => none
def delKey (kk : Nat) (k : V) : List (V × V) → (List (V × V) → Option α) → Option α
  | [], K => K []
  | (a, b) :: es, K => match eqk kk k a with
    | some t => bif t then K es else delKey kk k es fun es => K ((a, b) :: es)
    | none => none

def allOne : List V → Bool
  | [] => true
  | v :: vs => v.one && allOne vs

def fillF : List V → Nat → List V → Option (List V)
  | cs, _, [] => some cs
  | [], _, _ :: _ => none
  | _ :: cs, 0, v :: vs => (fillF cs 0 vs).map (v :: ·)
  | c :: cs, off + 1, vs => (fillF cs off vs).map (c :: ·)

def zcells (z : List V) : Nat → List V
  | 0 => []
  | n + 1 => z ++ zcells z n

/-- The cells that are handed to append or copy. -/
def srcK (σ : H) (sz : Nat) (v : V) (K : List V → Nat → Option α) : Option α :=
  match v with
  | .slc id off _ len _ _ => ldnK σ id off (len * sz) fun cs => K cs len
  | .nils => K [] 0
  | _ => none

def setAll : List V → Nat → T V → T V
  | [], _, c => c
  | v :: vs, i, c => setAll vs (i + 1) (c.set i v)

/-- append, the cells to be appended at hand. -/
def appK (σ : H) (sz bytes : Nat) (s : V) (new : List V) (n : Nat) (K : V → H → Option α) : Option α :=
  bif !allOne new then none else
  match s with
  | .nils =>
    bif Nat.beq n 0 then K .nils σ else
    bif leB (n * bytes) 140737488355328 then K (.slc σ.next 0 sz n n false) (σ.push (.cells (tof new) [] 0 (n * sz) false)) else none
  | .slc id off s len mn ex =>
    match σ.get id with
    | some (.cells c z lo hi ro) =>
      bif leB lo off && leB (off + len * sz) hi && Nat.beq s sz then
        bif leB (len + n) mn then
          bif ro then none else
          K (.slc id off sz (len + n) mn ex) (σ.put id (.cells (setAll new (off + len * sz) c) z lo (max hi (off + (len + n) * sz)) false))
        else bif leB ((len + n) * bytes) 140737488355328 then
          bif ex then K (.slc σ.next off sz (len + n) (len + n) false) (σ.push (.cells (setAll new (off + len * sz) c) z off (off + (len + n) * sz) false))
          else bif ro then none else
          K (.slc σ.next off sz (len + n) (len + n) false) ((σ.push (.cells (setAll new (off + len * sz) c) z off (off + (len + n) * sz) false)).put id .dead)
        else none
      else none
    | _ => none
  | _ => none

def bytesOf : List Nat → List V
  | [] => []
  | b :: bs => .int .u8 (Int.ofNat b) :: bytesOf bs
def strOf : List V → Option (List Nat)
  | [] => some []
  | .int .u8 n :: vs => match strOf vs with | some bs => some (n.toNat % 256 :: bs) | none => none
  | _ => none

def minI : Int → List V → IntKind → Option Int
  | a, [], _ => some a
  | a, .int l b :: vs, k => bif kindB k l then minI (bif decide (b < a) then b else a) vs k else none
  | _, _, _ => none
def maxI : Int → List V → IntKind → Option Int
  | a, [], _ => some a
  | a, .int l b :: vs, k => bif kindB k l then maxI (bif decide (a < b) then b else a) vs k else none
  | _, _, _ => none

def optK (d : Nat) (e : X → V) (x : Option X) (K : Nat → Option α) : Option α :=
  match x with
  | some x => natK (e x) K
  | none => K d

def buildL (e : X → V) : List V → List (Nat × Nat × X) → Option (List V)
  | cs, [] => some cs
  | cs, (off, n, x) :: ps => bif Nat.beq (e x).cells.length n && leB (off + n) cs.length && allOne (e x).cells then
      match fillF cs off (e x).cells with
      | some cs => buildL e cs ps
      | none => none
    else none

/-- What a call may lead to. -/
inductive Tg where
  | fn (f : FuncId)
  | yld (l : Nat)
  | rf (f : FuncId)

structure Hd (α : Type) where
  call : Tg → List V → H → (V → H → Option α) → Option α
  sum : Nat → T V → H → (Ex → T V → H → Option α) → Option (Option α)
  fuel : Nat

variable (hd : Hd α)

def calvK (x : V) (args : List V) (σ : H) (K : V → H → Option α) : Option α :=
  match x with
  | .fn f xs cap => hd.call (.fn f) (xs ++ args ++ cap) σ K
  | .yld l => hd.call (.yld l) args σ K
  | _ => none

def opK (o : Ap) (e : X → V) (σ : H) (K : V → H → Option α) : Option α :=
  match o with
  | .mv x => K (e x) σ
  | .pick c a b => match e c with
    | .bool t => match e a, e b with
      | .bool p, .bool q => K (.bool (bif t then p else q)) σ
      | x, y => bif t then K x σ else K y σ
    | _ => none
  | .alloc zs => bif allOne zs then K (.ptr σ.next 0) (σ.push (.cells (tof zs) [] 0 zs.length false)) else none
  | .box x => bif allOne (e x).cells then K (.ptr σ.next 0) (σ.push (.cells (tof (e x).cells) [] 0 (e x).cells.length false)) else none
  | .build zs ps => match buildL e zs ps with
    | some cs => K (.agg cs) σ
    | none => none
  | .bsl zs len ps => match buildL e (zcells zs len) (ps.map fun (i, x) => (i * zs.length, zs.length, x)) with
    | some cs => bif allOne cs then K (.slc σ.next 0 zs.length len len true) (σ.push (.cells (tof cs) [] 0 (len * zs.length) false)) else none
    | none => none
  | .ld1 a => match e a with
    | .ptr id off => ldK σ id off fun v => K v σ
    | _ => none
  | .ldn n a => match e a with
    | .ptr id off => ldnK σ id off n fun cs => K (.agg cs) σ
    | _ => none
  | .st n a v => match e a with
    | .ptr id off => bif Nat.beq (e v).cells.length n then stnK σ id off (e v).cells fun σ => K .undef σ else none
    | _ => none
  | .nilc x => match e x with
    | .ptr id off => K (.ptr id off) σ
    | .fn f xs cap => K (.fn f xs cap) σ
    | .yld l => K (.yld l) σ
    | .ifc t v => K (.ifc t v) σ
    | _ => none
  | .bin op x y => binK op (e x) (e y) fun v => K v σ
  | .eqn cls neg x y => match eq1 cls (e x) (e y) with
    | some b => K (.bool (b != neg)) σ
    | none => none
  | .eqa ks neg x y => match e x, e y with
    | .agg a, .agg b => match eqls ks a b with
      | some t => K (.bool (t != neg)) σ
      | none => none
    | _, _ => none
  | .not x => match e x with
    | .bool b => K (.bool !b) σ
    | _ => none
  | .neg x => match e x with
    | .int k n => K (.int k (wrapF k (0 - n))) σ
    | _ => none
  | .cvi k x => match e x with
    | .int _ n => K (.int k (wrapF k n)) σ
    | _ => none
  | .cvs x => match e x with
    | .str s => K (.str s) σ
    | _ => none
  | .s2b x => match e x with
    | .str s => K (.slc σ.next 0 1 s.length s.length false) (σ.push (.cells (tof (bytesOf s)) [] 0 s.length false))
    | _ => none
  | .b2s x => srcK σ 1 (e x) fun cs _ => match strOf cs with
    | some s => K (.str s) σ
    | none => none
  | .mkI t x => K (.ifc t (e x)) σ
  | .mkF f xs cap => K (.fn f (xs.map e) (cap.map e)) σ
  | .mkM => K (.map σ.next) (σ.push (.map []))
  | .mkMh x => match e x with
    | .int _ _ => K (.map σ.next) (σ.push (.map []))
    | _ => none
  | .mkS zs bytes l c => natK (e l) fun n => natK (e c) fun m =>
    bif leB n m && leB (m * bytes) 140737488355328 && allOne zs && Nat.blt 0 zs.length then K (.slc σ.next 0 zs.length n m true) (σ.push (.cells .lf zs 0 (m * zs.length) false)) else none
  | .slS x lo hi => match e x with
    | .str s => optK s.length e hi fun h => optK 0 e lo fun l =>
      bif leB l h && leB h s.length then K (.str ((s.take h).drop l)) σ else none
    | _ => none
  | .slL sz x lo hi => match e x with
    | .slc id off s len mn ex => optK len e hi fun h => optK 0 e lo fun l =>
      bif leB l h && leB h mn && Nat.beq s sz then K (.slc id (off + l * sz) sz (h - l) (mn - l) ex) σ else none
    | .nils => optK 0 e hi fun h => optK 0 e lo fun l => bif Nat.beq l 0 && Nat.beq h 0 then K .nils σ else none
    | _ => none
  | .sl3 sz x lo hi mx => match e x with
    | .slc id off s len mn _ => natK (e mx) fun m => optK len e hi fun h => optK 0 e lo fun l =>
      bif leB l h && leB h m && leB m mn && Nat.beq s sz then K (.slc id (off + l * sz) sz (h - l) (m - l) true) σ else none
    | _ => none
  | .slA n sz x lo hi => match e x with
    | .ptr id off => match σ.get id with
      | some (.cells _ _ a b _) => optK n e hi fun h => optK 0 e lo fun l =>
        bif leB l h && leB h n && leB a off && leB (off + n * sz) b then K (.slc id (off + l * sz) sz (h - l) (n - l) true) σ else none
      | _ => none
    | _ => none
  | .fa off x => match e x with
    | .ptr id o => K (.ptr id (o + off)) σ
    | _ => none
  | .fld1 off x => match e x with
    | .agg cs => match cs[off]? with
      | some v => K v σ
      | none => none
    | _ => none
  | .fldn off n x => match e x with
    | .agg cs => bif leB (off + n) cs.length then K (.agg ((cs.drop off).take n)) σ else none
    | _ => none
  | .iaA len sz x i => match e x with
    | .ptr id off => natK (e i) fun n => bif Nat.blt n len then K (.ptr id (off + n * sz)) σ else none
    | _ => none
  | .iaS sz x i => match e x with
    | .slc id off _ len _ _ => natK (e i) fun n => bif Nat.blt n len then K (.ptr id (off + n * sz)) σ else none
    | _ => none
  | .ixA1 len sz x i => match e x with
    | .agg cs => natK (e i) fun n => bif Nat.blt n len then
        match cs[n * sz]? with
        | some v => K v σ
        | none => none
      else none
    | _ => none
  | .ixAn len sz n x i => match e x with
    | .agg cs => natK (e i) fun j => bif Nat.blt j len && leB (j * sz + n) cs.length then K (.agg ((cs.drop (j * sz)).take n)) σ else none
    | _ => none
  | .ixS x i => match e x with
    | .str s => natK (e i) fun n => bif Nat.blt n s.length then K (.int .u8 (Int.ofNat (s.getD n 0))) σ else none
    | _ => none
  | .lkp kk zero ok m k => match e m with
    | .nilm => K (bif ok then .tup [zero, .bool false] else zero) σ
    | .map id => match σ.get id with
      | some (.map es) => findK kk (e k) es fun r => match r with
        | some v => K (bif ok then .tup [v, .bool true] else v) σ
        | none => K (bif ok then .tup [zero, .bool false] else zero) σ
      | _ => none
    | _ => none
  | .mup kk m k v => match e m with
    | .map id => match σ.get id with
      | some (.map es) => setKey kk (e k) (e v) es fun es => K .undef (σ.put id (.map es))
      | _ => none
    | _ => none
  | .del kk m k => match e m with
    | .map id => match σ.get id with
      | some (.map es) => delKey kk (e k) es fun es => K .undef (σ.put id (.map es))
      | _ => none
    | _ => none
  | .ext x i => match e x with
    | .tup cs => match cs[i]? with
      | some v => K v σ
      | none => none
    | _ => none
  | .lenS x => match e x with
    | .str s => K (.int .i64 (Int.ofNat s.length)) σ
    | _ => none
  | .lenL x => match e x with
    | .slc _ _ _ n _ _ => K (.int .i64 (Int.ofNat n)) σ
    | .nils => K (.int .i64 0) σ
    | _ => none
  | .lenC n => K (.int .i64 (Int.ofNat n)) σ
  | .cap x => match e x with
    | .slc _ _ _ _ mn ex => bif ex then K (.int .i64 (Int.ofNat mn)) σ else none
    | .nils => K (.int .i64 0) σ
    | _ => none
  | .mn x xs => match e x with
    | .int k a => match minI a (xs.map e) k with
      | some n => K (.int k n) σ
      | none => none
    | _ => none
  | .mx x xs => match e x with
    | .int k a => match maxI a (xs.map e) k with
      | some n => K (.int k n) σ
      | none => none
    | _ => none
  | .app sz bytes s x => srcK σ sz (e x) fun new n => appK σ sz bytes (e s) new n K
  | .appS s x => match e x with
    | .str b => appK σ 1 1 (e s) (bytesOf b) b.length K
    | _ => none
  | .appZ zs bytes s x => natK (e x) fun n => bif leB (n * bytes) 140737488355328 then appK σ zs.length bytes (e s) (zcells zs n) n K else none
  | .cpy sz d s => srcK σ sz (e s) fun cs n => match e d with
    | .nils => K (.int .i64 0) σ
    | .slc id off _ len _ _ => stnK σ id off (cs.take (min n len * sz)) fun σ => K (.int .i64 (Int.ofNat (min n len))) σ
    | _ => none
  | .cpyS d s => match e s, e d with
    | .str b, .slc id off _ len _ _ => stnK σ id off (bytesOf (b.take (min b.length len))) fun σ => K (.int .i64 (Int.ofNat (min b.length len))) σ
    | _, _ => none
  | .clrM x => match e x with
    | .nilm => K .undef σ
    | .map id => match σ.get id with
      | some (.map _) => K .undef (σ.put id (.map []))
      | _ => none
    | _ => none
  | .clrS zs x => match e x with
    | .nils => K .undef σ
    | .slc id off _ len _ _ => stnK σ id off (zcells zs len) fun σ => K .undef σ
    | _ => none
  | .s2a n x => match e x with
    | .slc id off _ len _ _ => bif leB n len && Nat.blt 0 n then K (.ptr id off) σ else none
    | _ => none
  | .call f args => hd.call (.fn f) (args.map e) σ K
  | .calv x args => calvK hd (e x) (args.map e) σ K
  | .bad => none

/-- Is an operation wanted? Its guard, once asked, is written into the temporaries. -/
def gdK (g : Option (Nat × Bool)) (tm : T V) (yes no : T V → Option α) : Option α :=
  match g with
  | none => yes tm
  | some (j, b) => match tm.get j with
    | some (.bool t) => bif t then (match b with | true => yes (tm.set j (.bool true)) | false => no (tm.set j (.bool true)))
        else (match b with | true => no (tm.set j (.bool false)) | false => yes (tm.set j (.bool false)))
    | some (.tup []) => no tm
    | _ => none

def opsK : List Ao → T V → H → (T V → H → Option α) → Option α
  | [], tm, σ, K => K tm σ
  | o :: os, tm, σ, K => gdK o.g tm
      (fun tm => opK hd o.op (ev tm) σ fun v σ => opsK os (cv tm o.dst v) σ K)
      (fun tm => opsK os (cv tm o.dst (.tup [])) σ K)

def notIn : List Nat → Nat → Bool
  | [], _ => true
  | a :: l, n => !(Nat.beq a n) && notIn l n
def allNotIn (log : List Nat) : List Nat → Bool
  | [] => true
  | a :: l => notIn log a && allNotIn log l

/-- What an operation reads of the heap: the objects' numbers. -/
def rdOf (v : V) : List Nat :=
  match v with
  | .ptr id _ => [id]
  | .slc id _ _ _ _ _ => [id]
  | .map id => [id]
  | _ => []
def reads (o : Ap) (e : X → V) : List Nat :=
  match o with
  | .ld1 a => rdOf (e a)
  | .ldn _ a => rdOf (e a)
  | .lkp _ _ _ m _ => rdOf (e m)
  | .b2s x => rdOf (e x)
  | .slA _ _ x _ _ => rdOf (e x)
  | _ => []

def isIn : List Nat → Nat → Bool
  | [], _ => false
  | a :: l, n => Nat.beq a n || isIn l n
def allLt : List Nat → Nat → Bool
  | [], _ => true
  | a :: l, n => Nat.blt a n && allLt l n
def okLds (pos : Nat) (log : List Nat) : List (List Nat × List Nat) → Bool
  | [] => true
  | (ids, un) :: l => (!isIn un pos || allNotIn log ids) && okLds pos log l

/-- A region that draws its order: the operations in an early order; what an effectful one writes is held against what was read
    ahead of it by those that stand in no order to it. -/
def drwK : List (Ao × Bool × List Nat) → Nat → List (List Nat × List Nat) → T V → H → (T V → H → Option α) → Option α
  | [], _, _, tm, σ, K => K tm σ
  | (o, ef, un) :: os, pos, lds, tm, σ, K => gdK o.g tm
      (fun tm => bif ef
        then opK hd o.op (ev tm) { σ with log := [] } fun v σ' =>
          bif okLds pos σ'.log lds then drwK os (pos + 1) lds (cv tm o.dst v) { σ' with log := σ'.log ++ σ.log } K else none
        else bif allLt (reads o.op (ev tm)) σ.next then opK hd o.op (ev tm) σ fun v σ' => drwK os (pos + 1) ((reads o.op (ev tm), un) :: lds) (cv tm o.dst v) σ' K else none)
      (fun tm => drwK os (pos + 1) lds (cv tm o.dst (.tup [])) σ K)

def loopK (body : T V → H → (Ex → T V → H → Option α) → Option α) : Nat → T V → H → (Ex → T V → H → Option α) → Option α
  | 0, _, _, _ => none
  | n + 1, tm, σ, K => body tm σ fun e tm σ => match e with
    | .normal => loopK body n tm σ K
    | e => K e tm σ

/-- A range over a function: the loop's record is laid, the function is called with its yield, the record is shut. -/
def rngK (f : V) (ps : List Nat) (asn body : A) (tm : T V) (σ : H) (K : Ex → T V → H → Option α) : Option α :=
  match f with
  | .fn fid xs cap => hd.call (.rf fid) (xs ++ [.yld σ.next] ++ cap) (σ.push (.loop { st := .ready, pend := none, tm := tm, ps := ps, asn := asn, body := body })) fun _ σ' =>
    match σ'.get σ.next with
    | some (.loop r) => match r.st with
      | .busy => none
      | _ => match r.pend with
        | none => K .normal tm (σ'.put σ.next (.loop { r with st := .exhausted }))
        | some e => K e tm (σ'.put σ.next (.loop { r with st := .exhausted }))
    | _ => none
  | _ => none

def codeK : A → T V → H → (Ex → T V → H → Option α) → Option α
  | .skip, tm, σ, K => K .normal tm σ
  | .reg ops, tm, σ, K => opsK hd ops tm σ (K .normal)
  | .drw ops, tm, σ, K => drwK hd ops 0 [] tm σ (K .normal)
  | .seq a b, tm, σ, K => codeK a tm σ fun e tm σ => match e with
    | .normal => codeK b tm σ K
    | e => K e tm σ
  | .cond c a b, tm, σ, K => match ev tm c with
    | .bool t => bif t then codeK a tm σ K else codeK b tm σ K
    | _ => none
  | .blk id a, tm, σ, K => codeK a tm σ fun e tm σ => K (e.inBlk id) tm σ
  | .loop a, tm, σ, K => loopK (codeK a) hd.fuel tm σ K
  | .rng f ps asn body, tm, σ, K => rngK hd (ev tm f) ps asn body tm σ K
  | .exit id, tm, σ, K => K (.exit id) tm σ
  | .ret, tm, σ, K => K .ret tm σ
  | .sum k a, tm, σ, K => match hd.sum k tm σ K with
    | some r => r
    | none => codeK a tm σ K
  | .bad, _, _, _ => none

inductive Rv where
  | t (i : Nat)
  | c1 (i : Nat)
  | cn (i n : Nat)
structure Af where
  code : A
  nt : Nat
  res : List Rv

def resK (tm : T V) (σ : H) : List Rv → (List V → Option α) → Option α
  | [], K => K []
  | .t i :: rs, K => resK tm σ rs fun vs => K (ev tm (.t i) :: vs)
  | .c1 i :: rs, K => match ev tm (.t i) with
    | .ptr id off => ldK σ id off fun v => resK tm σ rs fun vs => K (v :: vs)
    | _ => none
  | .cn i n :: rs, K => match ev tm (.t i) with
    | .ptr id off => ldnK σ id off n fun cs => resK tm σ rs fun vs => K (.agg cs :: vs)
    | _ => none
def tupF : List V → V
  | [v] => v
  | vs => .tup vs

def bodyK (f : Af) (args : List V) (σ : H) (K : V → H → Option α) : Option α :=
  bif leB args.length f.nt then codeK hd f.code (tof args) σ fun e tm σ => match e with
    | .exit _ => none
    | _ => resK tm σ f.res fun vs => K (tupF vs) σ
  else none

def setPs : List Nat → List V → T V → Option (T V)
  | [], [], tm => some tm
  | p :: ps, v :: vs, tm => setPs ps vs (tm.set p v)
  | _, _, _ => none

/-- A round of a range over a function. -/
def roundK (l : Nat) (args : List V) (σ : H) (K : V → H → Option α) : Option α :=
  match σ.get l with
  | some (.loop r) => match setPs r.ps args r.tm with
    | none => none
    | some tm => codeK hd r.asn tm σ fun e tm σ => match e with
      | .normal => match σ.get l with
        | some (.loop r2) => match r2.st with
          | .ready => codeK hd r.body tm (σ.put l (.loop { r2 with st := .busy })) fun e _ σ => match σ.get l with
            | some (.loop r) => match e with
              | .normal => K (.bool true) (σ.put l (.loop { r with st := .ready, pend := none }))
              | e => K (.bool false) (σ.put l (.loop { r with st := .done, pend := some e }))
            | _ => none
          | _ => none
        | _ => none
      | _ => none
  | _ => none
end eval

/-- The evaluator: F: the functions' codes; S: summaries, asked first. -/
def callN {α : Type} (F : Nat → Option Af) (S : Nat → Option (List V → H → (V → H → Option α) → Option α))
    (sum : Nat → T V → H → (Ex → T V → H → Option α) → Option (Option α)) (lf : Nat) : Nat → Tg → List V → H → (V → H → Option α) → Option α
  | 0, _, _, _, _ => none
  | n + 1, .fn f, args, σ, K => match S f with
    | some G => G args σ K
    | none => match F f with
      | some a => bodyK { call := callN F S sum lf n, sum := sum, fuel := lf } a args σ K
      | none => none
  | n + 1, .rf f, args, σ, K => match F f with
    | some a => bodyK { call := callN F S sum lf n, sum := sum, fuel := lf } a args σ K
    | none => none
  | n + 1, .yld l, args, σ, K => roundK { call := callN F S sum lf n, sum := sum, fuel := lf } l args σ K
end Ak
