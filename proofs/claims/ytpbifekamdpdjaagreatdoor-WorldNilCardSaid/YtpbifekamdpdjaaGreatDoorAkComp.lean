/- The model's code as the abstract evaluator's: types resolved by a table. -/
import Derived.Test.YtpbifekamdpdjaaGreatDoorAkCore
namespace Ak
open Go

/-- What is known of a type: its shape, its cells, its bytes, its noughts. -/
structure Ti where
  d : TypeDesc
  size : Nat
  bytes : Nat
  zero : Option (List V)

def bytesL (b : ByteArray) : List Nat := b.data.toList.map UInt8.toNat

def ofS : Value → Option V
  | .bool b => some (.bool b)
  | .int k n => some (.int k n)
  | .string s => some (.str (bytesL s))
  | .pointer none => some .nil
  | .slice none 0 0 => some .nils
  | .map none => some .nilm
  | .nilFunc => some .nilf
  | .nilIface => some .nili
  | _ => none
def ofSs : List Value → Option (List V)
  | [] => some []
  | v :: vs => match ofS v, ofSs vs with
    | some a, some as => some (a :: as)
    | _, _ => none
def ofV : Value → Option V
  | .agg cs => (ofSs cs.toList).map .agg
  | .tuple cs => match cs.toList with
    | [] => some .undef
    | _ => none
  | v => ofS v

section
variable (TI : TypeId → Option Ti) (gl : List Nat)

def cX : Operand → Option X
  | .tmp t => some (.t t)
  | .const v => (ofV v).map .c
  | .global g => bif isIn gl g then some (.c (.ptr g 0)) else none
  | .func f => some (.c (.fn f [] []))
def cXs : List Operand → Option (List X)
  | [] => some []
  | x :: xs => match cX gl x, cXs xs with
    | some a, some as => some (a :: as)
    | _, _ => none
def cXo : Option Operand → Option (Option X)
  | none => some none
  | some x => (cX gl x).map some

def zOf (t : TypeId) : Option (List V) := (TI t).bind (·.zero)
def zvOf (t : TypeId) : Option V := match TI t with
  | some { d := .struct _, zero := some cs, .. } => some (.agg cs)
  | some { d := .array _ _, zero := some cs, .. } => some (.agg cs)
  | some { zero := some [v], .. } => some v
  | _ => none
def isAg : TypeDesc → Bool
  | .struct _ => true
  | .array _ _ => true
  | _ => false

def fieldsAt : List Field → Option (List (Nat × Nat))
  | [] => some []
  | f :: fs => match TI f.type, fieldsAt fs with
    | some i, some r => some ((f.offset, i.size) :: r)
    | _, _ => none
def partsS (pl : List (Nat × Nat)) : List (Nat × Operand) → Option (List (Nat × Nat × X))
  | [] => some []
  | (i, x) :: ps => match pl[i]?, cX gl x, partsS pl ps with
    | some (off, n), some x, some r => some ((off, n, x) :: r)
    | _, _, _ => none
def partsA (sz : Nat) : List (Nat × Operand) → Option (List (Nat × Nat × X))
  | [] => some []
  | (i, x) :: ps => match cX gl x, partsA sz ps with
    | some x, some r => some ((i * sz, sz, x) :: r)
    | _, _ => none
def partsL : List (Nat × Operand) → Option (List (Nat × X))
  | [] => some []
  | (i, x) :: ps => match cX gl x, partsL ps with
    | some x, some r => some ((i, x) :: r)
    | _, _ => none

def repL (ks : List Nat) : Nat → List Nat
  | 0 => []
  | n + 1 => ks ++ repL ks n
/-- Fields that lie one behind the other, from a cell on: the kinds of their cells. -/
def consF (fl : TypeId → Option (List Nat)) : Nat → List Field → Option (List Nat)
  | _, [] => some []
  | at_, f :: fs => bif Nat.beq f.offset at_ && (f.name != "_") then
      match fl f.type with
      | some ks => match consF fl (at_ + ks.length) fs with
        | some r => some (ks ++ r)
        | none => none
      | none => none
    else none
/-- The kinds of the cells of a type whose '==' is that of all its cells, plain data alone. -/
def flatC : Nat → TypeId → Option (List Nat)
  | 0, _ => none
  | n + 1, t => match TI t with
    | some { d := .int _, size := 1, .. } => some [0]
    | some { d := .string, size := 1, .. } => some [1]
    | some { d := .bool, size := 1, .. } => some [2]
    | some { d := .array m e, size := sz, .. } => match flatC n e with
      | some ks => bif Nat.beq sz (m * ks.length) then some (repL ks m) else none
      | none => none
    | some { d := .struct fs, size := sz, .. } => match consF (flatC n) 0 fs.toList with
      | some ks => bif Nat.beq ks.length sz then some ks else none
      | none => none
    | _ => none
def keyOk (t : TypeId) : Option Nat := match TI t with
  | some { d := .int _, .. } => some 0
  | some { d := .string, .. } => some 1
  | _ => none

def cEq (cls : Nat) (op : BinOp) (x y : X) : Option Ap :=
  match op with
  | .eql => some (.eqn cls false x y)
  | .neq => some (.eqn cls true x y)
  | _ => none
def cEqa (ks : List Nat) (op : BinOp) (x y : X) : Option Ap :=
  match op with
  | .eql => some (.eqa ks false x y)
  | .neq => some (.eqa ks true x y)
  | _ => none
def cBin (op : BinOp) (t : TypeId) (x y : X) : Option Ap :=
  match TI t with
  | some { d := .int _, .. } => some (.bin op x y)
  | some { d := .string, .. } => some (.bin op x y)
  | some { d := .bool, .. } => cEq 0 op x y
  | some { d := .pointer _, .. } => cEq 1 op x y
  | some { d := .slice _, .. } => cEq 2 op x y
  | some { d := .map _ _, .. } => cEq 3 op x y
  | some { d := .func _ _ _, .. } => cEq 4 op x y
  | some { d := .struct _, .. } => match flatC TI 6 t with
    | some ks => cEqa ks op x y
    | none => none
  | some { d := .array _ _, .. } => match flatC TI 6 t with
    | some ks => cEqa ks op x y
    | none => none
  | _ => none

def cConv (s d : TypeId) (x : X) : Option Ap :=
  match TI s, TI d with
  | some { d := .int _, .. }, some { d := .int k, .. } => some (.cvi k x)
  | some { d := .string, .. }, some { d := .string, .. } => some (.cvs x)
  | some { d := .string, .. }, some { d := .slice e, .. } => match TI e with
    | some { d := .int .u8, size := 1, .. } => some (.s2b x)
    | _ => none
  | some { d := .slice e, .. }, some { d := .string, .. } => match TI e with
    | some { d := .int .u8, size := 1, .. } => some (.b2s x)
    | _ => none
  | _, _ => none

def cSlice (t : TypeId) (x : X) (lo hi mx : Option X) : Option Ap :=
  match TI t, mx with
  | some { d := .string, .. }, none => some (.slS x lo hi)
  | some { d := .slice e, .. }, none => (TI e).map fun i => .slL i.size x lo hi
  | some { d := .slice e, .. }, some m => match hi with
    | some _ => (TI e).map fun i => .sl3 i.size x lo hi m
    | none => none
  | some { d := .array n e, .. }, none => (TI e).map fun i => .slA n i.size x lo hi
  | _, _ => none

def cBi (b : Builtin) (ts : List TypeId) (xs : List X) : Option Ap :=
  match b, ts, xs with
  | .len, [t], [x] => match TI t with
    | some { d := .string, .. } => some (.lenS x)
    | some { d := .slice _, .. } => some (.lenL x)
    | some { d := .array n _, .. } => some (.lenC n)
    | _ => none
  | .cap, [t], [x] => match TI t with
    | some { d := .slice _, .. } => some (.cap x)
    | _ => none
  | .min, _, x :: xs => some (.mn x xs)
  | .max, _, x :: xs => some (.mx x xs)
  | .append, [s, u], [x, y] => match TI s, TI u with
    | some { d := .slice e, .. }, some { d := .slice _, .. } => match TI e with
      | some { size := sz, bytes := bs, zero := some z, .. } => bif Nat.blt 0 sz && Nat.blt 0 bs && Nat.beq z.length sz then some (.app sz bs x y) else none
      | _ => none
    | some { d := .slice e, .. }, some { d := .string, .. } => match TI e with
      | some { d := .int .u8, size := 1, bytes := 1, zero := some [_] } => some (.appS x y)
      | _ => none
    | some { d := .slice e, .. }, some { d := .int _, .. } => match TI e with
      | some { size := sz, bytes := bs, zero := some z, .. } => bif Nat.blt 0 sz && Nat.blt 0 bs && Nat.beq z.length sz then some (.appZ z bs x y) else none
      | _ => none
    | _, _ => none
  | .copy, [s, u], [x, y] => match TI s, TI u with
    | some { d := .slice e, .. }, some { d := .slice _, .. } => (TI e).map fun i => .cpy i.size x y
    | some { d := .slice e, .. }, some { d := .string, .. } => match TI e with
      | some { d := .int .u8, size := 1, .. } => some (.cpyS x y)
      | _ => none
    | _, _ => none
  | .clear, [t], [x] => match TI t with
    | some { d := .map _ _, .. } => some (.clrM x)
    | some { d := .slice e, .. } => (zOf TI e).map fun z => .clrS z x
    | _ => none
  | .delete, [t, _], [m, k] => match TI t with
    | some { d := .map kt _, .. } => (keyOk TI kt).map fun kk => .del kk m k
    | _ => none
  | _, _, _ => none

def cOp (o : Op) : Option Ap :=
  match o with
  | .move x | .assign x => (cX gl x).map .mv
  | .pick c a b => match cX gl c, cX gl a, cX gl b with
    | some c, some a, some b => some (.pick c a b)
    | _, _, _ => none
  | .alloc t => (zOf TI t).map .alloc
  | .box _ x => (cX gl x).map .box
  | .build t ps => match TI t with
    | some { d := .struct fs, zero := some z, .. } => match fieldsAt TI fs.toList with
      | some pl => (partsS gl pl ps.toList).map (.build z)
      | none => none
    | some { d := .array _ e, zero := some z, .. } => match TI e with
      | some i => (partsA gl i.size ps.toList).map (.build z)
      | none => none
    | _ => none
  | .buildSlice t len ps => match TI t with
    | some { d := .slice e, .. } => match TI e with
      | some { size := sz, zero := some z, .. } => bif Nat.beq z.length sz && Nat.blt 0 sz && leB (len * sz) 16777216 then (partsL gl ps.toList).map (.bsl z len) else none
      | _ => none
    | _ => none
  | .load t a => match TI t, cX gl a with
    | some i, some a => bif isAg i.d then some (.ldn i.size a) else some (.ld1 a)
    | _, _ => none
  | .store t a v => match TI t, cX gl a, cX gl v with
    | some i, some a, some v => some (.st i.size a v)
    | _, _, _ => none
  | .nilCheck x => (cX gl x).map .nilc
  | .binOp op t x y _ => match cX gl x, cX gl y with
    | some x, some y => cBin TI op t x y
    | _, _ => none
  | .unOp .not _ x => (cX gl x).map .not
  | .unOp .neg _ x => (cX gl x).map .neg
  | .convert s d x => (cX gl x).bind (cConv TI s d)
  | .makeInterface t x => match TI t with
    | some { d := .interface _, .. } => none
    | some _ => (cX gl x).map (.mkI t)
    | none => none
  | .makeFunc (.func f) xs cap => match cXs gl xs.toList, cXs gl cap.toList with
    | some xs, some cap => some (.mkF f xs cap)
    | _, _ => none
  | .makeMap _ none => some .mkM
  | .makeMap t (some x) => match TI t with
    | some { d := .map _ _, .. } => (cX gl x).map .mkMh
    | _ => none
  | .makeSlice t l c => match TI t with
    | some { d := .slice e, .. } => match TI e, cX gl l, cX gl c with
      | some { size := sz, bytes := bs, zero := some z, .. }, some l, some c => bif Nat.beq z.length sz && Nat.blt 0 sz && Nat.blt 0 bs then some (.mkS z bs l c) else none
      | _, _, _ => none
    | _ => none
  | .slice t x lo hi mx => match cX gl x, cXo gl lo, cXo gl hi, cXo gl mx with
    | some x, some lo, some hi, some mx => cSlice TI t x lo hi mx
    | _, _, _, _ => none
  | .fieldAddr t x f => match TI t, cX gl x with
    | some { d := .struct fs, .. }, some x => match fs[f]? with
      | some fd => match TI fd.type with
        | some i => bif Nat.blt 0 i.size then some (.fa fd.offset x) else none
        | none => none
      | none => none
    | _, _ => none
  | .field t x f => match TI t, cX gl x with
    | some { d := .struct fs, .. }, some x => match fs[f]? with
      | some fd => match TI fd.type with
        | some i => bif isAg i.d then some (.fldn fd.offset i.size x) else some (.fld1 fd.offset x)
        | none => none
      | none => none
    | _, _ => none
  | .indexAddr t x i => match TI t, cX gl x, cX gl i with
    | some { d := .array n e, .. }, some x, some i => (TI e).map fun ti => .iaA n ti.size x i
    | some { d := .slice e, .. }, some x, some i => (TI e).map fun ti => .iaS ti.size x i
    | _, _, _ => none
  | .index t x i => match TI t, cX gl x, cX gl i with
    | some { d := .array n e, .. }, some x, some i => (TI e).map fun ti => bif isAg ti.d then .ixAn n ti.size ti.size x i else .ixA1 n ti.size x i
    | some { d := .string, .. }, some x, some i => some (.ixS x i)
    | _, _, _ => none
  | .lookup t m k ok => match TI t, cX gl m, cX gl k with
    | some { d := .map kt e, .. }, some m, some k => match keyOk TI kt, zvOf TI e with
      | some kk, some z => some (.lkp kk z ok m k)
      | _, _ => none
    | _, _, _ => none
  | .mapUpdate t m k v | .insert t m k v => match TI t, cX gl m, cX gl k, cX gl v with
    | some { d := .map kt _, .. }, some m, some k, some v => (keyOk TI kt).map fun kk => .mup kk m k v
    | _, _, _, _ => none
  | .extract x i => (cX gl x).map fun x => .ext x i
  | .sliceToArrayPointer t x => match TI t with
    | some { d := .array n _, .. } => (cX gl x).map (.s2a n)
    | _ => none
  | .call { callee := .builtin b, args := as, argTypes := ts } => (cXs gl as.toList).bind fun xs => cBi TI b ts.toList xs
  | .call { callee := .value (.func f), args := as, .. } => (cXs gl as.toList).map (.call f)
  | .call { callee := .value x, args := as, .. } => match cX gl x, cXs gl as.toList with
    | some x, some xs => some (.calv x xs)
    | _, _ => none
  | _ => none

/-- An operation of a region, with its guard's temporary. -/
def cAo (nt : Nat) (ops : Array Oper) (o : Oper) : Option Ao :=
  bif (match o.dst with | some d => Nat.blt d nt | none => true) then
    match o.guard with
    | none => some { dst := o.dst, op := (cOp TI gl o.op).getD .bad, g := none }
    | some (j, b) => match (ops[j]?).bind (·.dst) with
      | some d => bif Nat.blt d nt then some { dst := o.dst, op := (cOp TI gl o.op).getD .bad, g := some (d, b) } else none
      | none => none
  else none
def cAos (nt : Nat) (ops : Array Oper) : List Oper → Option (List Ao)
  | [] => some []
  | o :: os => match cAo TI gl nt ops o, cAos nt ops os with
    | some a, some as => some (a :: as)
    | _, _ => none

/-- The operands of an operation. -/
def Ap.xs : Ap → List X
  | .mv x | .box x | .nilc x | .not x | .neg x | .cvi _ x | .cvs x | .s2b x | .b2s x | .mkI _ x | .mkMh x | .fa _ x | .fld1 _ x | .fldn _ _ x | .ext x _ | .lenS x | .lenL x | .cap x | .clrM x | .clrS _ x | .s2a _ x | .ld1 x | .ldn _ x => [x]
  | .pick c a b => [c, a, b]
  | .alloc _ | .mkM | .lenC _ | .bad => []
  | .build _ ps => ps.map (·.2.2)
  | .bsl _ _ ps => ps.map (·.2)
  | .st _ x y | .bin _ x y | .eqn _ _ x y | .eqa _ _ x y | .mkS _ _ x y | .iaA _ _ x y | .iaS _ x y | .ixA1 _ _ x y | .ixAn _ _ _ x y | .ixS x y | .lkp _ _ _ x y | .del _ x y | .app _ _ x y | .appS x y | .appZ _ _ x y | .cpy _ x y | .cpyS x y => [x, y]
  | .mkF _ xs cs => xs ++ cs
  | .slS x lo hi => x :: (lo.toList ++ hi.toList)
  | .slL _ x lo hi => x :: (lo.toList ++ hi.toList)
  | .sl3 _ x lo hi m => x :: (lo.toList ++ hi.toList ++ [m])
  | .slA _ _ x lo hi => x :: (lo.toList ++ hi.toList)
  | .mup _ m k v => [m, k, v]
  | .mn x xs => x :: xs
  | .mx x xs => x :: xs
  | .call _ as => as
  | .calv x as => x :: as
def xNames : List X → List Nat
  | [] => []
  | .t i :: xs => i :: xNames xs
  | .c _ :: xs => xNames xs

/-- Does an operation write what was there, or run code? -/
def apEff : Ap → Bool
  | .st .. | .mup .. | .del .. | .app .. | .appS .. | .appZ .. | .cpy .. | .cpyS .. | .clrM .. | .clrS .. | .call .. | .calv .. | .bad => true
  | _ => false
def aoEff (l : List Ao) (i : Nat) : Bool := match l[i]? with | some a => apEff a.op | none => false
def aoNames (a : Ao) : List Nat := xNames a.op.xs ++ (match a.g with | some (d, _) => [d] | none => [])

/-- The edges that bind. -/
def bindL (o : Oper) : List Nat := (o.after.toList.filter (Region.binds .any)).map (·.on)
/-- All that must come ahead of each operation, through others, too. -/
def befStep (acc : List (List Nat)) (o : Oper) : List (List Nat) := acc ++ [(bindL o).flatMap fun j => j :: acc.getD j []]
def befF (ops : List Oper) : List (List Nat) := ops.foldl befStep []
def nodupL : List Nat → List Nat
  | [] => []
  | a :: l => bif isIn l a then nodupL l else a :: nodupL l

def lvlOf (asl : List Ao) (bef : List Nat) : Nat := ((nodupL bef).filter fun i => aoEff asl i).length
/-- The early order. -/
def earlyF (asl : List Ao) (befs : List (List Nat)) : List Nat :=
  let n := asl.length
  let lv := befs.map (lvlOf asl)
  (List.range (n + 1)).flatMap fun k =>
    ((List.range n).filter fun i => !aoEff asl i && Nat.beq (lv.getD i 0) k) ++ ((List.range n).filter fun i => aoEff asl i && Nat.beq (lv.getD i 0) k)

def memB (l : List Nat) (n : Nat) : Bool := isIn l n

def allB {α : Type} (p : α → Bool) : List α → Bool
  | [] => true
  | a :: l => p a && allB p l

def dstOf (asl : List Ao) (i : Nat) : Option Nat := (asl[i]?).bind (·.dst)
def namesOf (asl : List Ao) (i : Nat) : List Nat := match asl[i]? with | some a => aoNames a | none => []
def neO : Option Nat → Option Nat → Bool
  | some a, some b => !(Nat.beq a b)
  | _, _ => true
/-- What is asked of a region that draws its order. -/
def drwOk (ops : List Oper) (asl : List Ao) (befs : List (List Nat)) (ord : List Nat) : Bool :=
  let n := asl.length
  -- the order holds each once
  Nat.beq ord.length n && allB (fun i => memB ord i) (List.range n) && allB (fun i => Nat.blt i n) ord &&
  allB (fun q => allB (fun p => !(Nat.blt p q) || !(Nat.beq (ord.getD p 0) (ord.getD q 0))) (List.range n)) (List.range n) &&
  -- what is bound lies behind
  allB (fun i => match ops[i]? with
    | some o => allB (fun j => Nat.blt j i) (bindL o)
    | none => false) (List.range n) &&
  -- what stands behind an effect must come behind it
  allB (fun q => allB (fun p => !(Nat.blt p q) || !(aoEff asl (ord.getD p 0)) || memB (befs.getD (ord.getD q 0) []) (ord.getD p 0)) (List.range n)) (List.range n) &&
  -- what must come ahead stands ahead
  allB (fun q => allB (fun p => Nat.blt p q || !(memB (befs.getD (ord.getD q 0) []) (ord.getD p 0))) (List.range n)) (List.range n) &&
  -- each temporary is written by one at most; who names it stands in an order to who writes it
  allB (fun i => allB (fun j => Nat.beq i j || neO (dstOf asl i) (dstOf asl j)) (List.range n)) (List.range n) &&
  allB (fun i => match dstOf asl i with
    | some a => allB (fun j => Nat.beq i j || !(memB (namesOf asl j) a) || memB (befs.getD j []) i || memB (befs.getD i []) j) (List.range n)
    | none => true) (List.range n) &&
  allB (fun i => match dstOf asl i with | some a => !(memB (namesOf asl i) a) | none => true) (List.range n)

def unOf (asl : List Ao) (befs : List (List Nat)) (ord : List Nat) (p : Nat) : List Nat :=
  (List.range ord.length).filter fun q => Nat.blt p q && aoEff asl (ord.getD q 0) && !(memB (befs.getD (ord.getD q 0) []) (ord.getD p 0))

def drwL (asl : List Ao) (befs : List (List Nat)) (ord : List Nat) : List (Ao × Bool × List Nat) :=
  (List.range ord.length).map fun p => (asl.getD (ord.getD p 0) { dst := none, op := .bad, g := none }, aoEff asl (ord.getD p 0), unOf asl befs ord p)

def cDrw (nt : Nat) (ops : Array Oper) : Option A :=
  match cAos TI gl nt ops ops.toList with
  | some asl =>
    let befs := befF ops.toList
    let ord := earlyF asl befs
    bif drwOk ops.toList asl befs ord then some (.drw (drwL asl befs ord)) else none
  | none => none

def cCode (fid : Nat) (nt : Nat) : Code → A
  | .skip => .skip
  | .region _ ops false => match cAos TI gl nt ops ops.toList with
    | some l => .reg l
    | none => .bad
  | .region _ ops true => match cDrw TI gl nt ops with
    | some a => a
    | none => .bad
  | .seq a b => .seq (cCode fid nt a) (cCode fid nt b)
  | .cond c a b => match cX gl c with
    | some c => .cond c (cCode fid nt a) (cCode fid nt b)
    | none => .bad
  | .block id a => .sum (fid * 1000 + id) (.blk id (cCode fid nt a))
  | .loop a => .loop (cCode fid nt a)
  | .rangeFunc f ps a b => match cX gl f with
    | some f => bif allB (fun p => Nat.blt p nt) ps.toList then .rng f ps.toList (cCode fid nt a) (cCode fid nt b) else .bad
    | none => .bad
  | .exit id => .exit id
  | .ret => .ret
  | .scope a => cCode fid nt a
  | .label _ => .skip
  | _ => .bad

def cRes (nt : Nat) : List ResultVar → Option (List Rv)
  | [] => some []
  | .tmp t :: rs => match cRes nt rs with
    | some r => some (.t t :: r)
    | none => none
  | .cell a t :: rs => match TI t, cRes nt rs with
    | some i, some r => some ((bif isAg i.d then .cn a i.size else .c1 a) :: r)
    | _, _ => none
def cFunc (fid : Nat) (f : Func) : Option Af :=
  match f.body with
  | some c => match cRes TI f.ntmps f.results.toList with
    | some r => some { code := cCode TI gl fid f.ntmps c, nt := f.ntmps, res := r }
    | none => none
  | none => none
end
end Ak
