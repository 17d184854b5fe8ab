/-
An evaluator of elaborated Go code over values without memory: slices that nobody writes are lists; variables in memory are numbered boxes. Definitions alone.
-/
import Derived.Orders
import Derived.KernelRfl
namespace Go.Ab
open Go

/-- One cell's value, of memory that nobody writes any more. 'nil': a slice that is known to be nil. -/
inductive PV where
  | bool (b : Bool)
  | int (k : IntKind) (n : Int)
  | str (s : ByteArray)
  | cplx (k : FloatKind) (re im : Nat)
  | sl (rows : List (List PV))
  | nil
  deriving Inhabited

/-- A slot's value. -/
inductive AV where
  | none
  | v (p : PV)
  | agg (cs : List PV)
  | own (t : Nat) (rows : List (List PV))
  | ptr (b off : Nat)
  /-- a box of a caller's -/
  | optr (b off : Nat)
  | eptr (cs : List PV)
  /-- a slice of one's own without elements, with room: the cells of an element -/
  | vac (t esz : Nat)
  /-- a slice of all of a box: the cells of an element, the elements -/
  | bsl (b n len : Nat)
  | fn (f : Fn) (first cap : List AV)
  | tup (vs : List AV)
  /-- what the slot holds where the condition holds -/
  | opt (c : Bool) (a : AV)
  deriving Inhabited

structure St where
  tmps : List AV
  toks : List (Option Nat)
  outer : List (List AV)
  heap : List (List AV)

def PV.norm : PV → PV
  | .nil => .sl []
  | p => p

def pvOf : Value → Option PV
  | .bool b => some (.bool b)
  | .int k n => some (.int k n)
  | .string s => some (.str s)
  | .complex k re im => some (.cplx k re im)
  | .slice .none 0 0 => some .nil
  | _ => .none

def pvsOf : List Value → Option (List PV)
  | [] => some []
  | v :: vs => match pvOf v, pvsOf vs with
    | some p, some ps => some (p :: ps)
    | _, _ => .none

def constOf : Value → AV
  | .agg cs => match pvsOf cs.toList with
    | some ps => .agg ps
    | .none => .none
  | v => match pvOf v with
    | some p => .v p
    | .none => .none

def evOf (tmps : List AV) : Operand → AV
  | .tmp t => tmps.getD t .none
  | .const v => constOf v
  | .func f => .fn (.func f) [] []
  | .global _ => .none

/-- A cell of a box, as a value that may lie in memory that nobody writes. -/
def AV.pv : AV → Option PV
  | .v p => some p
  | .own _ rows => some (.sl rows)
  | .vac _ _ => some (.sl [])
  | _ => .none

def AV.pvs : List AV → Option (List PV)
  | [] => some []
  | a :: l => match a.pv, AV.pvs l with
    | some p, some ps => some (p :: ps)
    | _, _ => .none

/-- The cells of a slot's value, as they go into memory that nobody writes. -/
def AV.row : AV → Option (List PV)
  | .agg cs => some (cs.map PV.norm)
  | a => match a.pv with
    | some p => some [p.norm]
    | .none => .none

/-- The cells of a slot's value, as they go into a box. -/
def AV.cells : AV → List AV
  | .agg cs => cs.map .v
  | a => [a]

/-- A slice's elements. -/
def AV.rows? : AV → Option (List (List PV))
  | .v (.sl rows) => some rows
  | .v .nil => some []
  | .own _ rows => some rows
  | .vac _ _ => some []
  | _ => .none

/-! ### scripts -/

inductive Kd where
  | d
  /-- what is asked is shown, not reckoned -/
  | ob
  /-- no overflow -/
  | nw
  /-- the row of an element -/
  | row (r : List PV)
  /-- out of a box, or into it -/
  | h
  /-- a box's cell at a place that is not known -/
  | cell (a : AV)
  /-- out of a caller's box, or into it: its cells -/
  | box (cs : List AV)
  /-- a new slice that may be appended to -/
  | keep
  /-- which way a pick goes -/
  | pk (b : Bool)
  /-- a call without boxes: which arguments may be appended to; whether results may; the results -/
  | call (cons : List Bool) (keep : Bool) (r : List AV)
  /-- a call that sees all boxes; what they are behind it -/
  | callH (r : List AV) (outer heap : List (List AV))
  /-- a call that sees all boxes and turns none -/
  | callR (r : List AV)
  /-- a call without boxes that reads slices of boxes: what these hold; the results -/
  | callB (rs : List (List (List PV))) (r : List AV)
  /-- a slice of bytes as a string: the bytes -/
  | conv (l : List UInt8)
  /-- into a caller's box at a place that is not known: its cells ahead and behind -/
  | put (cs cs' : List AV)
  /-- a caller's box's cell at a place that is not known: its cells, the cell -/
  | boxAt (cs : List AV) (c : AV)
  deriving Inhabited

inductive Gd where
  | auto | yes | no
  /-- both ways at once -/
  | spec
  deriving Inhabited

structure En where
  g : Gd := .auto
  k : Kd := .d
  deriving Inhabited

structure Cut where
  kill : List Nat := []
  weak : List Nat := []
  adopt : List Nat := []
  adoptB : List (Nat × Nat) := []
  heapLen : Nat := 0
  toks : List Nat := []
  /-- boxes that hold nothing but plain values -/
  raw : List Nat := []

inductive SC where
  | reg (es : List En)
  | br (d : Option Bool)
  | cut (c : Cut)

/-- a script that has come to its end: what can be reckoned is -/
def SC.br? : List SC → Option (Option Bool × List SC)
  | [] => some (.none, [])
  | .br d :: sc => some (d, sc)
  | _ => .none

def SC.reg? : List SC → Option (List En × List SC)
  | [] => some ([], [])
  | .reg es :: sc => some (es, sc)
  | _ => .none

structure CallO where
  cond : Prop := True
  f : FuncId
  args : List AV
  toks : List (Option Nat)
  outer : List (List AV)
  r : List AV
  outer' : List (List AV)

structure Res where
  v : AV
  toks : List (Option Nat)
  outer : List (List AV)
  heap : List (List AV)
  obls : List Prop := []
  calls : List CallO := []

/-- What an operation looks at, and turns. -/
structure Cls where
  hr : Bool := false
  hw : Bool := false
  tk : Bool := false

def clsOf : Op → Kd → Cls
  | .load .., .h | .load .., .cell _ | .load .., .box _ | .load .., .boxAt _ _ => { hr := true }
  | .alloc _, _ | .box .., _ | .makeSlice .., _ => { hr := true, hw := true }
  | .store .., _ => { hr := true, hw := true }
  | .buildSlice .., .keep => { tk := true }
  | .call { callee := .builtin .append, .. }, _ => { tk := true }
  | .call { callee := .builtin _, .. }, _ => {}
  | .call _, .call cons keep _ => { tk := keep || cons.any id }
  | .call _, .callH .. => { hr := true, hw := true }
  | .call _, .callR _ => { hr := true }
  | .call _, .callB _ _ => { hr := true }
  | _, _ => {}

/-! ### integers -/

def bitsI (op : BinOp) (k : IntKind) (x y : Int) : Option Int :=
  let a := BitVec.ofInt k.bits x
  let b := BitVec.ofInt k.bits y
  match op with
  | .and => some (k.wrap (a &&& b).toNat)
  | .or => some (k.wrap (a ||| b).toNat)
  | .xor => some (k.wrap (a ^^^ b).toNat)
  | .andNot => some (k.wrap (a &&& ~~~b).toNat)
  | _ => .none

def cmpI (op : BinOp) (x y : Int) : Option Bool :=
  match op with
  | .eql => some (x == y)
  | .neq => some (x != y)
  | .lss => some (decide (x < y))
  | .leq => some (decide (x ≤ y))
  | .gtr => some (decide (x > y))
  | .geq => some (decide (x ≥ y))
  | _ => .none

def inR (k : IntKind) (n : Int) : Prop := k.min ≤ n ∧ n ≤ k.max

def Kd.isD : Kd → Bool
  | .d => true
  | _ => false

def Kd.isNw : Kd → Bool
  | .nw => true
  | _ => false

/-- a value under a condition that is reckoned, or to be shown -/
def under {α : Type} (d : Bool) (p : Prop) [Decidable p] (a : α) : Option (α × List Prop) :=
  match d with
  | true => match decide p with
    | true => some (a, [])
    | false => .none
  | false => some (a, [p])

/-- arithmetic: the value, what is to be shown -/
def arithI (op : BinOp) (k : IntKind) (x y : Int) (kd : Kd) : Option (Int × List Prop) :=
  let put (n : Int) : Option (Int × List Prop) := match kd.isNw with
    | true => some (n, [inR k n])
    | false => some (k.wrap n, [])
  match op with
  | .add => put (x + y)
  | .sub => put (x - y)
  | .mul => put (x * y)
  | .quo => under kd.isD (y ≠ 0) (k.wrap (x.tdiv y))
  | .rem => under kd.isD (y ≠ 0) (x.tmod y)
  | .shl => under kd.isD (0 ≤ y) (k.wrap (x * 2 ^ (min y.toNat k.bits)))
  | .shr => under kd.isD (0 ≤ y) (x.fdiv (2 ^ (min y.toNat k.bits)))
  | _ => (bitsI op k x y).map fun n => (n, [])

def cmpS (op : BinOp) (x y : ByteArray) : Option Bool :=
  match op with
  | .eql => some (x.toList == y.toList)
  | .neq => some (!(x.toList == y.toList))
  | .lss => some (Op.bytesLess x.toList y.toList)
  | .leq => some (Op.bytesLess x.toList y.toList || x.toList == y.toList)
  | .gtr => some (!(Op.bytesLess x.toList y.toList || x.toList == y.toList))
  | .geq => some (!(Op.bytesLess x.toList y.toList))
  | _ => .none

section
variable (P : Program)

def isAggT (t : TypeId) : Option Bool :=
  match P.underlying t with
  | some (.struct _) | some (.array _ _) => some true
  | some _ => some false
  | .none => .none

def sizeT (t : TypeId) : Option Nat := (P.info? t).map (·.size)
def bytesT (t : TypeId) : Option Nat := (P.info? t).map (·.bytes)
def zeroT (t : TypeId) : Option AV := ((P.info? t).bind (·.zero)).map constOf

def eqFields (eq : TypeId → List PV → List PV → Option Bool) (xs ys : List PV) : List Field → Option Bool
  | [] => some true
  | f :: fs =>
    match f.name == "_" with
    | true => eqFields eq xs ys fs
    | false => match sizeT P f.type with
      | .none => .none
      | some n =>
        match eq f.type ((xs.drop f.offset).take n) ((ys.drop f.offset).take n), eqFields eq xs ys fs with
        | some a, some b => some (a && b)
        | _, _ => .none

def eqElems (eq : List PV → List PV → Option Bool) (n : Nat) (xs ys : List PV) : Nat → Nat → Option Bool
  | 0, _ => some true
  | k + 1, i => match eq ((xs.drop (i * n)).take n) ((ys.drop (i * n)).take n), eqElems eq n xs ys k (i + 1) with
    | some a, some b => some (a && b)
    | _, _ => .none

/-- Are two values of a type of scalars, and of structs and arrays of these, equal? (the cells) -/
def eqT : Nat → TypeId → List PV → List PV → Option Bool
  | 0, _, _, _ => .none
  | d + 1, t, xs, ys =>
    match P.underlying t, xs, ys with
    | some .bool, [.bool a], [.bool b] => some (a == b)
    | some (.int _), [.int k a], [.int k' b] => if k = k' then some (a == b) else .none
    | some .string, [.str a], [.str b] => some (a == b)
    | some (.struct fields), xs, ys =>
      match P.stoodInHeld t with
      | true => .none
      | false => eqFields P (eqT d) xs ys fields.toList
    | some (.array len e), xs, ys => match sizeT P e with
      | some n => eqElems (eqT d e) n xs ys len 0
      | .none => .none
    | _, _, _ => .none

def padd (n : Nat) : List (List PV) → Nat → List PV → Option (List (List PV))
  | [], _, _ => .none
  | r :: rs, 0, x => if x.length = n then some (x :: rs) else .none
  | r :: rs, i + 1, x => (padd n rs i x).map (r :: ·)

/-- 'cells' with 'x' from 'off' on. -/
def putAt {α : Type} : List α → Nat → List α → List α
  | l, _, [] => l
  | l, off, x :: xs => putAt (l.set off x) (off + 1) xs

def fillRows (n : Nat) (ρ : Operand → AV) : List (Nat × Operand) → List (List PV) → Option (List (List PV))
  | [], rows => some rows
  | (i, x) :: ps, rows => match (ρ x).row with
    | some r => match padd n rows i r with
      | some rows' => fillRows n ρ ps rows'
      | .none => .none
    | .none => .none

/-- the cells of a value that is built -/
def AV.bits : AV → Option (List PV)
  | .agg cs => some cs
  | a => match a.pv with
    | some p => some [p]
    | .none => .none

def fillCells (place : Nat → Option (Nat × Nat)) (ρ : Operand → AV) : List (Nat × Operand) → List PV → Option (List PV)
  | [], cs => some cs
  | (i, x) :: ps, cs => match place i, (ρ x).bits with
    | some (off, size), some r => if r.length = size && off + size ≤ cs.length then fillCells place ρ ps (putAt cs off r) else .none
    | _, _ => .none

def placesOf (t : TypeId) : Option (Nat → Option (Nat × Nat)) :=
  match P.underlying t with
  | some (.struct fields) => match fields.toList.all fun f => (sizeT P f.type).isSome with
    | true => some fun i => match fields[i]? with
      | some f => (sizeT P f.type).map fun n => (f.offset, n)
      | .none => .none
    | false => .none
  | some (.array _ elem) => (sizeT P elem).map fun n => fun i => some (i * n, n)
  | _ => .none

def bytesOf : List (List PV) → Option (List UInt8)
  | [] => some []
  | [.int .u8 n] :: rs => (bytesOf rs).map (UInt8.ofNat n.toNat :: ·)
  | _ => .none

/-- the value of an operation that neither sees nor turns boxes and tokens -/
def plain (o : Op) (k : Kd) (ρ : Operand → AV) : Option (AV × List Prop) :=
  match o, k with
  | .move x, _ | .assign x, _ => some (ρ x, [])
  | .pick c a b, .pk t => match ρ c with
    | .v (.bool B) => some (if t then ρ a else ρ b, [B = t])
    | _ => .none
  | .pick c a b, _ => match ρ c with
    | .v (.bool B) => match ρ a, ρ b with
      | .v (.bool x), .v (.bool y) => some (.v (.bool (bif B then x else y)), [])
      | x, y => match B with
        | true => some (x, [])
        | false => some (y, [])
    | _ => .none
  | .build t parts, _ => match zeroT P t, placesOf P t with
    | some (.agg z), some pl => (fillCells pl ρ parts.toList z).map fun cs => (.agg cs, [])
    | _, _ => .none
  | .buildSlice t len parts, .d => match P.underlying t with
    | some (.slice e) => match sizeT P e, (zeroT P e).bind AV.row with
      | some n, some z => if z.length = n && n ≠ 0 && len * n ≤ 2 ^ 24 then (fillRows n ρ parts.toList (List.replicate len z)).map fun rows => (.v (.sl rows), []) else .none
      | _, _ => .none
    | _ => .none
  | .load t a, .d => match ρ a with
    | .eptr cs => match isAggT P t, sizeT P t with
      | some true, some n => if n ≤ cs.length then some (.agg (cs.take n), []) else .none
      | some false, some 1 => match cs with
        | p :: _ => some (.v p, [])
        | [] => .none
      | _, _ => .none
    | _ => .none
  | .nilCheck x, _ => match ρ x with
    | .ptr b off => some (.ptr b off, [])
    | .optr b off => some (.optr b off, [])
    | .eptr cs => some (.eptr cs, [])
    | _ => .none
  | .binOp op t x y _, k => match ρ x, ρ y with
    | .v (.int ka a), .v (.int kb b) =>
      match op with
      | .shl | .shr => (arithI op ka a b k).map fun (n, l) => (.v (.int ka n), l)
      | _ => if ka = kb then
          match cmpI op a b with
          | some B => some (.v (.bool B), [])
          | .none => (arithI op ka a b k).map fun (n, l) => (.v (.int ka n), l)
        else .none
    | .v (.str a), .v (.str b) => (cmpS op a b).map fun B => (.v (.bool B), [])
    | .v (.bool a), .v (.bool b) => match op, P.underlying t with
      | .eql, some .bool => some (.v (.bool (a == b)), [])
      | .neq, some .bool => some (.v (.bool (!(a == b))), [])
      | _, _ => .none
    | .agg xs, .agg ys => match P.eqGuardType P.depth t, isAggT P t with
      | false, some true => match op, eqT P 20 t xs ys with
        | .eql, some B => some (.v (.bool B), [])
        | .neq, some B => some (.v (.bool (!B)), [])
        | _, _ => .none
      | _, _ => .none
    | _, _ => .none
  | .unOp op _ x, _ => match op, ρ x with
    | .not, .v (.bool b) => some (.v (.bool (!b)), [])
    | .neg, .v (.int k n) => some (.v (.int k (k.wrap (0 - n))), [])
    | .xor, .v (.int k n) => (bitsI .xor k (if k.signed then -1 else k.max) n).map fun m => (.v (.int k m), [])
    | _, _ => .none
  | .convert s d x, k => match P.underlying s, P.underlying d, ρ x with
    | some (.int _), some (.int k), .v (.int _ n) => some (.v (.int k (k.wrap n)), [])
    | some (.slice e), some .string, a => match P.underlying e, a.rows? with
      | some (.int .u8), some rows => match k with
        | .conv l => some (.v (.str ⟨l.toArray⟩), [bytesOf rows = some l])
        | _ => (bytesOf rows).map fun l => (.v (.str ⟨l.toArray⟩), [])
      | _, _ => .none
    | _, _, _ => .none
  | .makeFunc f first cap, _ => some (.fn f (first.toList.map ρ) (cap.toList.map ρ), [])
  | .fieldAddr s x f, _ => match P.underlying s with
    | some (.struct fields) => match fields[f]? with
      | some fd => match sizeT P fd.type with
        | some 0 => .none
        | some _ => match ρ x with
          | .ptr b off => some (.ptr b (off + fd.offset), [])
          | .optr b off => some (.optr b (off + fd.offset), [])
          | .eptr cs => some (.eptr (cs.drop fd.offset), [])
          | _ => .none
        | .none => .none
      | .none => .none
    | _ => .none
  | .field t x f, _ => match P.underlying t, ρ x with
    | some (.struct fields), .agg cs => match fields[f]? with
      | some fd => part cs fd.type fd.offset
      | .none => .none
    | _, _ => .none
  | .indexAddr t x ix, k => match ρ ix with
    | .v (.int _ i) => match P.underlying t, ρ x with
      | some (.array len e), .ptr b off => match sizeT P e with
        | some n => under k.isD (0 ≤ i ∧ i < len) (.ptr b (off + i.toNat * n))
        | .none => .none
      | some (.array len e), .optr b off => match sizeT P e with
        | some n => under k.isD (0 ≤ i ∧ i < len) (.optr b (off + i.toNat * n))
        | .none => .none
      | some (.array len e), .eptr cs => match sizeT P e with
        | some n => under k.isD (0 ≤ i ∧ i < len) (.eptr (cs.drop (i.toNat * n)))
        | .none => .none
      | some (.slice e), .bsl b n len => match sizeT P e with
        | some m => match decide (m = n) with
          | true => under k.isD (0 ≤ i ∧ i < len) (.ptr b (i.toNat * n))
          | false => .none
        | .none => .none
      | some (.slice e), a => match a.rows?, sizeT P e with
        | some rows, some n => match k with
          | .row r => match decide (r.length = n) with
            | true => some (.eptr r, [0 ≤ i, rows[i.toNat]? = some r])
            | false => .none
          | _ => match rows[i.toNat]? with
            | some r => match decide (r.length = n) with
              | true => under k.isD (0 ≤ i) (.eptr r)
              | false => .none
            | .none => .none
        | _, _ => .none
      | _, _ => .none
    | _ => .none
  | .index t x ix, k => match ρ ix, P.underlying t, ρ x with
    | .v (.int _ i), some (.array len e), .agg cs => match sizeT P e with
      | some n => match part cs e (i.toNat * n) with
        | some (a, _) => under k.isD (0 ≤ i ∧ i < len) a
        | .none => .none
      | .none => .none
    | _, _, _ => .none
  | .extract x i, _ => match ρ x with
    | .tup vs => (vs[i]?).map fun a => (a, [])
    | _ => .none
  | .slice t x lo hi mx, k => match mx, P.underlying t with
    | .none, some (.slice e) =>
      match (ρ x).rows?, sizeT P e with
      | some rows, some n => match bound (lo.map ρ) 0, bound (hi.map ρ) rows.length with
        | some l, some h => under k.isD (0 ≤ l ∧ l ≤ h ∧ h ≤ rows.length ∧ (l = 0 ∨ ∀ r ∈ rows, r.length = n)) (.v (.sl ((rows.take h.toNat).drop l.toNat)))
        | _, _ => .none
      | _, _ => .none
    | _, _ => .none
  | .call { callee := .builtin .len, args, argTypes }, _ => match args.toList, argTypes.toList with
    | [x], [t] => match P.underlying t, ρ x with
      | some (.slice _), .bsl _ _ len => some (.v (.int .i64 len), [])
      | some (.slice _), a => a.rows?.map fun rows => (.v (.int .i64 rows.length), [])
      | some (.array n _), _ => some (.v (.int .i64 n), [])
      | some .string, .v (.str s) => some (.v (.int .i64 s.size), [])
      | _, _ => .none
    | _, _ => .none
  | _, _ => .none
where
  part (cs : List PV) (t : TypeId) (off : Nat) : Option (AV × List Prop) :=
    match isAggT P t, sizeT P t with
    | some true, some n => if off + n ≤ cs.length then some (.agg ((cs.drop off).take n), []) else .none
    | some false, some 1 => (cs[off]?).map fun p => (.v p, [])
    | _, _ => .none
  bound (x : Option AV) (d : Nat) : Option Int :=
    match x with
    | .none => some d
    | some (.v (.int _ i)) => some i
    | _ => .none

/-- A value as a called function sees it that sees the caller's boxes, of which 'n' are its caller's. -/
def AV.lift (n : Nat) : AV → Option AV
  | .none => some .none
  | .v p => some (.v p)
  | .agg cs => some (.agg cs)
  | .ptr b off => some (.optr (n + b) off)
  | .optr b off => some (.optr b off)
  | .fn f first cap => match liftL n first, liftL n cap with
    | some a, some b => some (.fn f a b)
    | _, _ => .none
  | _ => .none
where
  liftL (n : Nat) : List AV → Option (List AV)
    | [] => some []
    | .ptr b off :: l => (liftL n l).map (.optr (n + b) off :: ·)
    | .optr b off :: l => (liftL n l).map (.optr b off :: ·)
    | .v p :: l => (liftL n l).map (.v p :: ·)
    | _ => .none

def liftBox (n : Nat) : List AV → Option (List AV)
  | [] => some []
  | a :: l => match a.lift n, liftBox n l with
    | some b, some m => some (b :: m)
    | _, _ => .none

def liftAll (n : Nat) : List (List AV) → Option (List (List AV))
  | [] => some []
  | a :: l => match liftBox n a, liftAll n l with
    | some b, some m => some (b :: m)
    | _, _ => .none

/-- An argument as a called function sees it: 'flag': the callee may append to it. 'n': some: the callee sees the boxes. -/
def passArgs (n : Option Nat) : List Bool → List AV → List (Option Nat) → List (Option Nat) → Option (List AV × List (Option Nat) × List (Option Nat) × List Prop)
  | _, [], toks, mine => some ([], toks, mine, [])
  | fl, a :: as, toks, mine =>
    let go (b : AV) (toks mine : List (Option Nat)) (l : List Prop) := (passArgs n fl.tail as toks mine).map fun (bs, t, m, q) => (b :: bs, t, m, l ++ q)
    match a with
    | .v .nil => match fl.headD false with
      | true => go (.own mine.length []) toks (mine ++ [some 0]) []
      | false => go (.v (.sl [])) toks mine []
    | .v p => go (.v p.norm) toks mine []
    | .agg cs => go (.agg (cs.map PV.norm)) toks mine []
    | .vac _ _ => go (.v (.sl [])) toks mine []
    | .own t rows =>
      match fl.headD false with
      | true => match toks[t]? with
        | some (some m) => go (.own mine.length rows) (toks.set t .none) (mine ++ [some rows.length]) [m = rows.length]
        | _ => .none
      | false => go (.v (.sl rows)) toks mine []
    | .fn f [] [] => go (.fn f [] []) toks mine []
    | a => match n with
      | some n => match a.lift n with
        | some b => go b toks mine []
        | .none => .none
      | .none => .none

/-- A call's results, as the caller has them: 'n': the caller's count of tokens; 'k': results with a token so far. -/
def takeRes (keep : Bool) (n : Nat) : List AV → Nat → Option (List AV × List (Option Nat))
  | [], _ => some ([], [])
  | a :: as, k =>
    match a with
    | .v p => (takeRes keep n as k).map fun (bs, t) => (.v p :: bs, t)
    | .agg cs => (takeRes keep n as k).map fun (bs, t) => (.agg cs :: bs, t)
    | .none => (takeRes keep n as k).map fun (bs, t) => (.none :: bs, t)
    | .own j rows =>
      if keep then if j = k then (takeRes keep n as (k + 1)).map fun (bs, t) => (.own (n + k) rows :: bs, some rows.length :: t) else .none
      else (takeRes keep n as k).map fun (bs, t) => (.v (.sl rows) :: bs, t)
    | .vac j e =>
      if keep then if j = k then (takeRes keep n as (k + 1)).map fun (bs, t) => (.vac (n + k) e :: bs, some 0 :: t) else .none
      else (takeRes keep n as k).map fun (bs, t) => (.v (.sl []) :: bs, t)
    | _ => .none

/-- Arguments of a call that reads slices of boxes. -/
def lendArgs (heap : List (List AV)) : List (List (List PV)) → List AV → Option (List AV × List Prop)
  | _, [] => some ([], [])
  | rs, a :: as =>
    match a with
    | .v p => (lendArgs heap rs as).map fun (bs, q) => (.v p.norm :: bs, q)
    | .agg cs => (lendArgs heap rs as).map fun (bs, q) => (.agg (cs.map PV.norm) :: bs, q)
    | .own _ rows => (lendArgs heap rs as).map fun (bs, q) => (.v (.sl rows) :: bs, q)
    | .bsl b n len => match rs, heap[b]? with
      | rows :: rs, some cs => (lendArgs heap rs as).map fun (bs, q) => (.v (.sl rows) :: bs, (cs = rows.flatten.map .v) :: (rows.length = len) :: (∀ r ∈ rows, r.length = n) :: q)
      | _, _ => .none
    | _ => .none

/-- A value that names no memory. -/
def AV.scal : AV → Bool
  | .v (.bool _) | .v (.int _ _) | .v (.str _) | .v (.cplx _ _ _) | .none => true
  | _ => false

def wrapRes : List AV → AV
  | [a] => a
  | l => .tup l

def callee? (f : AV) : Option (FuncId × List AV × List AV) :=
  match f with
  | .fn (.func f) first cap => some (f, first, cap)
  | _ => .none

def hasBody (f : FuncId) : Bool :=
  match P.funcs[f]? with
  | some fn => fn.body.isSome && !(fn.name == "runtime.NumGoroutine")
  | .none => false

/-- A variable's value out of a box's cells. -/
def varOf (t : TypeId) (cs : List AV) (off : Nat) : Option AV :=
  match isAggT P t, sizeT P t with
  | some true, some n => if off + n ≤ cs.length then (AV.pvs ((cs.drop off).take n)).map .agg else .none
  | some false, some 1 => cs[off]?
  | _, _ => .none

/-- A box's cells behind a store. -/
def storeIn (t : TypeId) (cs : List AV) (off : Nat) (a : AV) : Option (List AV) :=
  match a, sizeT P t with
  | .none, _ | .tup _, _ | .opt _ _, _ => .none
  | a, some n => if a.cells.length = n && off + n ≤ cs.length then some (putAt cs off a.cells) else .none
  | _, _ => .none

/-- May a caller's box hold it? -/
def AV.out : AV → Bool
  | .none | .v _ | .optr _ _ => true
  | .fn _ first cap => (first ++ cap).all fun
    | .v _ | .optr _ _ => true
    | _ => false
  | _ => false

def AV.low1 (n : Nat) : AV → List Prop
  | .optr c _ => [c < n]
  | .fn .. | .tup _ | .opt .. => [False]
  | _ => []

/-- What must hold of a caller's boxes that a value names. -/
def AV.low (n : Nat) : AV → List Prop
  | .optr c _ => [c < n]
  | .fn _ first cap => (first ++ cap).flatMap (AV.low1 n)
  | .tup _ | .opt .. => [False]
  | _ => []

/-- What must hold of a caller's boxes that boxes name. -/
def lows (n : Nat) (heap : List (List AV)) : List Prop := heap.flatMap fun cs => cs.flatMap (AV.low n)

/-- The callers' boxes that a called function leaves know nothing of ours. -/
def LowS (outer outer' : List (List AV)) : Prop := ∀ cs ∈ outer', cs ∈ outer ∨ ∀ a ∈ cs, ∀ p ∈ a.low outer.length, p

/-- one cell's value -/
def oneB : Value → Bool
  | .agg _ | .tuple _ => false
  | _ => true

/-- 'append' -/
def appendOp (e : Bool) (s : AV) (n by' : Nat) (ys : List (List PV)) (toks : List (Option Nat)) : Option (AV × List (Option Nat) × List Prop) :=
  match s with
  | .v .nil => some (.own toks.length ys, toks ++ [some ys.length], [ys.length * by' ≤ 2 ^ 47, ∀ r ∈ ys, r.length = n])
  | .own tk rows => match toks[tk]? with
    | some (some m) => some (.own tk (rows ++ ys), toks.set tk (some (rows ++ ys).length), [m = rows.length, (rows ++ ys).length * by' ≤ 2 ^ 47, ∀ r ∈ rows ++ ys, r.length = n])
    | _ => .none
  | .vac tk m => match toks[tk]?, decide (m = n) with
    | some (some k), true => match e with
      | true => some (.vac tk m, toks, [ys = []])
      | false => some (.own tk ys, toks.set tk (some ys.length), [k = 0, ys ≠ [], ys.length * by' ≤ 2 ^ 47, ∀ r ∈ ys, r.length = n])
    | _, _ => .none
  | _ => .none

def Kd.isKeep : Kd → Bool
  | .keep => true
  | _ => false

def core (o : Op) (k : Kd) (ρ : Operand → AV) (toks : List (Option Nat)) (outer heap : List (List AV)) : Option Res :=
  match o, k with
  | .alloc t, _ => match zeroT P t, sizeT P t with
    | some .none, some 1 => match (P.info? t).bind (·.zero) with
      | some v => match oneB v with
        | true => some { v := .ptr heap.length 0, toks, outer, heap := heap ++ [[.none]] }
        | false => .none
      | .none => .none
    | some .none, _ => .none
    | some z, some n => if z.cells.length = n then some { v := .ptr heap.length 0, toks, outer, heap := heap ++ [z.cells] } else .none
    | _, _ => .none
  | .box t x, _ => match ρ x, sizeT P t with
    | .none, _ | .tup _, _ | .opt _ _, _ => .none
    | a, some n => if a.cells.length = n then some { v := .ptr heap.length 0, toks, outer, heap := heap ++ [a.cells] } else .none
    | _, _ => .none
  | .store t a x, .box cs => match ρ a with
    | .optr b off => match storeIn P t cs off (ρ x) with
      | some cs' => match (ρ x).cells.all AV.out with
        | true => some { v := .none, toks, outer := outer.set b cs', heap, obls := [outer[b]? = some cs] }
        | false => .none
      | .none => .none
    | _ => .none
  | .makeSlice t l c, _ => match P.underlying t with
    | some (.slice e) => match sizeT P e, bytesT P e, (zeroT P e).bind AV.row, ρ l, ρ c with
      | some n, some by', some z, .v (.int _ m), .v (.int _ m') => match decide (z.length = n ∧ 0 < n ∧ 0 < by') with
        | true => some { v := .bsl heap.length n m.toNat, toks, outer, heap := heap ++ [(List.replicate m.toNat z).flatten.map .v], obls := [m' = m, 0 ≤ m, m * by' ≤ 2 ^ 47] }
        | false => .none
      | _, _, _, _, _ => .none
    | _ => .none
  | .store t a x, .put cs cs' => match ρ a with
    | .ptr b off => match heap[b]? with
      | some old => some { v := .none, toks, outer, heap := heap.set b cs', obls := [storeIn P t old off (ρ x) = some cs'] }
      | .none => .none
    | .optr b off => match (ρ x).cells.all AV.out with
      | true => some { v := .none, toks, outer := outer.set b cs', heap, obls := [outer[b]? = some cs, storeIn P t cs off (ρ x) = some cs'] }
      | false => .none
    | _ => .none
  | .store t a x, _ => match ρ a with
    | .ptr b off => match heap[b]? with
      | some old => match storeIn P t old off (ρ x) with
        | some cs => some { v := .none, toks, outer, heap := heap.set b cs }
        | .none => .none
      | .none => .none
    | _ => .none
  | .load t a, .h => match ρ a with
    | .ptr b off => match heap[b]? with
      | some cs => (varOf P t cs off).map fun v => { v, toks, outer, heap }
      | .none => .none
    | _ => .none
  | .load t a, .cell c => match ρ a, isAggT P t, sizeT P t with
    | .ptr b off, some false, some 1 => match heap[b]? with
      | some cs => some { v := c, toks, outer, heap, obls := [cs[off]? = some c] }
      | .none => .none
    | _, _, _ => .none
  | .load t a, .box cs => match ρ a with
    | .optr b off => (varOf P t cs off).map fun v => { v, toks, outer, heap, obls := [outer[b]? = some cs] }
    | _ => .none
  | .load t a, .boxAt cs c => match ρ a, isAggT P t, sizeT P t with
    | .optr b off, some false, some 1 => some { v := c, toks, outer, heap, obls := [outer[b]? = some cs, cs[off]? = some c] }
    | _, _, _ => .none
  | .buildSlice t len parts, .keep => match plain P (.buildSlice t len parts) .d ρ with
    | some (.v (.sl rows), l) => some { v := .own toks.length rows, toks := toks ++ [some rows.length], outer, heap, obls := l }
    | _ => .none
  | .call { callee := .builtin .append, args, argTypes }, k => match args.toList, argTypes.toList with
    | [s, x], [t, t'] => match P.underlying t, P.underlying t', (ρ x).rows? with
      | some (.slice e), some (.slice _), some ys => match sizeT P e, bytesT P e, (zeroT P e).bind AV.row with
        | some n, some by', some z => match decide (z.length = n ∧ 0 < n ∧ 0 < by') with
          | true => (appendOp k.isKeep (ρ s) n by' ys toks).map fun (v, toks, obls) => { v, toks, outer, heap, obls }
          | false => .none
        | _, _, _ => .none
      | _, _, _ => .none
    | _, _ => .none
  | .call { callee := .value f, args, .. }, .call cons keep r => match callee? (ρ f) with
    | some (g, [], []) => match hasBody P g, passArgs .none cons (args.toList.map ρ) toks [] with
      | true, some (as, toks1, mine, l) => match takeRes keep toks1.length r 0 with
        | some (rs, new) => some { v := wrapRes rs, toks := toks1 ++ new, outer, heap, obls := l, calls := [{ f := g, args := as, toks := mine, outer := [], r, outer' := [] }] }
        | .none => .none
      | _, _ => .none
    | _ => .none
  | .call { callee := .value f, args, .. }, .callB rs r => match callee? (ρ f) with
    | some (g, [], []) => match hasBody P g && r.all AV.scal, lendArgs heap rs (args.toList.map ρ) with
      | true, some (as, l) => some { v := wrapRes r, toks, outer, heap, obls := l, calls := [{ f := g, args := as, toks := [], outer := [], r, outer' := [] }] }
      | _, _ => .none
    | _ => .none
  | .call { callee := .value f, args, .. }, .callR r => match callee? (ρ f) with
    | some (g, first, cap) =>
      match hasBody P g, passArgs (some outer.length) [] (first ++ args.toList.map ρ ++ cap) toks [], liftAll outer.length heap with
      | true, some (as, _, _, l), some hp => match takeRes false 0 r 0 with
        | some (rs, _) => some { v := wrapRes rs, toks, outer, heap, obls := lows outer.length heap ++ l, calls := [{ f := g, args := as, toks := [], outer := outer ++ hp, r, outer' := outer ++ hp }] }
        | .none => .none
      | _, _, _ => .none
    | _ => .none
  | .call { callee := .value f, args, .. }, .callH r outer' heap' => match callee? (ρ f) with
    | some (g, first, cap) =>
      match hasBody P g && heap'.length == heap.length, passArgs (some outer.length) [] (first ++ args.toList.map ρ ++ cap) toks [], liftAll outer.length heap, liftAll outer.length heap' with
      | true, some (as, _, _, l), some hp, some hp' => match takeRes false 0 r 0 with
        | some (rs, _) => some { v := wrapRes rs, toks, outer := outer', heap := heap', obls := (outer'.length = outer.length) :: LowS outer outer' :: (lows outer.length heap' ++ l), calls := [{ f := g, args := as, toks := [], outer := outer ++ hp, r, outer' := outer' ++ hp' }] }
        | .none => .none
      | _, _, _, _ => .none
    | _ => .none
  | o, k => (plain P o k ρ).map fun (v, l) => { v, toks, outer, heap, obls := l }

def sem (o : Op) (k : Kd) (ρ : Operand → AV) (toks : List (Option Nat)) (outer heap : List (List AV)) : Option Res :=
  let c := clsOf o k
  match core P o k ρ (if c.tk then toks else []) (if c.hr || c.hw then outer else []) (if c.hr || c.hw then heap else []) with
  | some r => some { r with toks := if c.tk then r.toks else toks, outer := if c.hw then r.outer else outer, heap := if c.hw then r.heap else heap }
  | .none => .none

def St.put (s : St) (d : Option Tmp) (v : AV) : List AV :=
  match d with
  | some d => s.tmps.set d v
  | .none => s.tmps

structure Step where
  st : St
  obls : List Prop := []
  calls : List CallO := []

def AV.strip : AV → AV
  | .opt _ a => a
  | a => a

def AV.conds : AV → List Bool
  | .opt _ .none => []
  | .opt c _ => [c]
  | _ => []

def condP (G : Option Bool) (p : Prop) : Prop :=
  match G with
  | .none => p
  | some g => g = true → p

/-- What must hold for an operation's operands to be there. -/
def needs (tmps : List AV) (o : Op) : List Prop :=
  match o with
  | .pick c a b =>
    (evOf tmps c).conds.map (fun D => D = true) ++
    match (evOf tmps c).strip with
    | .v (.bool B) => (evOf tmps a).conds.map (fun D => B = true → D = true) ++ (evOf tmps b).conds.map (fun D => B = false → D = true)
    | _ => []
  | o => o.operands.toList.flatMap fun x => (evOf tmps x).conds.map (fun D => D = true)

def optG (G : Option Bool) (a : AV) : AV :=
  match G with
  | .none => a
  | some g => .opt g a

def doOp (o : Oper) (k : Kd) (G : Option Bool) (s : St) : Option Step :=
  match sem P o.op k (fun x => (evOf s.tmps x).strip) s.toks s.outer s.heap with
  | some r =>
    match G.isSome && ((clsOf o.op k).hw || (clsOf o.op k).tk) with
    | true => .none
    | false => some { st := { tmps := s.put o.dst (optG G r.v), toks := r.toks, outer := r.outer, heap := r.heap }, obls := (needs s.tmps o.op ++ r.obls).map (condP G), calls := match G with | .none => r.calls | some g => r.calls.map fun c => { c with cond := g = true ∧ c.cond } }
  | .none => .none

def skipOp (o : Oper) (s : St) : Step := { st := { s with tmps := s.put o.dst (.opt false .none) } }

def Step.also (x : Step) (l : List Prop) : Step := { x with obls := l ++ x.obls }

/-- Under which condition an operation's guard lets it go. -/
def guardOf (ops : List Oper) (s : St) (j : Nat) (want : Bool) : Option Bool :=
  match (ops[j]?).bind (·.dst) with
  | some t => match s.tmps.getD t .none, want with
    | .v (.bool b), true => some b
    | .v (.bool b), false => some (!b)
    | .opt c (.v (.bool b)), true => some (c && b)
    | .opt c (.v (.bool b)), false => some (c && !b)
    | .opt false .none, _ => some false
    | _, _ => .none
  | .none => .none

def op1 (ops : List Oper) (es : List En) (i : Nat) (s : St) : Option Step :=
  match ops[i]? with
  | .none => .none
  | some o =>
    let e := es.getD i {}
    match o.guard, e.g with
    | .none, .auto => doOp P o e.k .none s
    | .none, _ => .none
    | some (j, want), g => match guardOf ops s j want with
      | .none => .none
      | some G => match g with
        | .auto => match G with
          | true => doOp P o e.k .none s
          | false => some (skipOp o s)
        | .yes => (doOp P o e.k .none s).map (·.also [G = true])
        | .no => some ((skipOp o s).also [G = false])
        | .spec => doOp P o e.k (some G) s

def runOps (ops : List Oper) (es : List En) : List Nat → St → Option Step
  | [], s => some { st := s }
  | i :: l, s => match op1 P ops es i s with
    | some x => match runOps ops es l x.st with
      | some y => some { st := y.st, obls := x.obls ++ y.obls, calls := x.calls ++ y.calls }
      | .none => .none
    | .none => .none

/-! ### regions that draw their order -/

def readsOf (ops : List Oper) (o : Oper) : List Tmp :=
  (o.op.operands.toList.filterMap fun | .tmp t => some t | _ => .none) ++
  (match o.guard with
   | some (g, _) => ((ops[g]?).bind (·.dst)).toList
   | .none => [])

def apartB (ops : List Oper) (x y : Oper) : Bool :=
  (match x.dst with
   | some d => !(readsOf ops y).contains d && y.dst != some d
   | .none => true) &&
  (match y.dst with
   | some d => !(readsOf ops x).contains d
   | .none => true)

def Cls.fits (a b : Cls) : Bool := !(a.hw && (b.hr || b.hw)) && !(b.hw && a.hr) && !(a.tk && b.tk)

/-- Which operations stand ahead of each for good: bits of a number. -/
def masks : List Oper → List Nat → List Nat
  | [], acc => acc
  | o :: os, acc => masks os (acc ++ [o.after.toList.foldl (fun s e => if Region.binds .any e then s ||| 2 ^ e.on ||| acc.getD e.on 0 else s) 0])

/-- Operation i may be taken ahead of j, which stands ahead of it in the text. -/
def mayPass (ops : List Oper) (es : List En) (ms : List Nat) (j i : Nat) : Bool :=
  (ms.getD i 0).testBit j ||
  match ops[j]?, ops[i]? with
  | some x, some y => apartB ops x y && (clsOf x.op (es.getD j {}).k).fits (clsOf y.op (es.getD i {}).k)
  | _, _ => false

def indepB (ops : List Oper) (es : List En) : Bool :=
  let ms := masks ops []
  Region.noSelect ops.toArray && (List.range ops.length).all fun i =>
    (match ops[i]? with
     | some o => o.after.toList.all fun e => !(Region.binds .any e) || decide (e.on < i)
     | .none => false) && (List.range i).all fun j => mayPass ops es ms j i

/-! ### control -/

def AV.under (n : Nat) : AV → Bool
  | .v _ | .agg _ | .optr _ _ => true
  | .ptr b _ => decide (b < n)
  | _ => false

def AV.killTo (n : Nat) : AV → AV
  | .ptr b off => match decide (b < n) with
    | true => .ptr b off
    | false => .none
  | .bsl b m len => match decide (b < n) with
    | true => .bsl b m len
    | false => .none
  | .fn f first cap => match first.all (AV.under n) && cap.all (AV.under n) with
    | true => .fn f first cap
    | false => .none
  | .tup _ | .opt _ _ => .none
  | a => a

def Cut.tok (c : Cut) : AV → AV
  | .own t rows => match c.toks.idxOf? t with
    | some i => .own i rows
    | .none => .v (.sl rows)
  | .vac _ _ => .v (.sl [])
  | a => a

/-- A slice that is known to be nil may be appended to. -/
def adoptOne (a : AV) (toks : List (Option Nat)) : Option (AV × List (Option Nat)) :=
  match a with
  | .v .nil => some (.own toks.length [], toks ++ [some 0])
  | .own t rows => some (.own t rows, toks)
  | _ => .none

def adoptAll : List Nat → List AV → List (Option Nat) → Option (List AV × List (Option Nat))
  | [], tmps, toks => some (tmps, toks)
  | i :: is, tmps, toks => match adoptOne (tmps.getD i .none) toks with
    | some (a, toks) => adoptAll is (tmps.set i a) toks
    | .none => .none

def adoptBoxes : List (Nat × Nat) → List (List AV) → List (Option Nat) → Option (List (List AV) × List (Option Nat))
  | [], heap, toks => some (heap, toks)
  | (b, o) :: is, heap, toks => match heap[b]? with
    | some cs => match adoptOne (cs.getD o .none) toks with
      | some (a, toks) => adoptBoxes is (heap.set b (cs.set o a)) toks
      | .none => .none
    | .none => .none

def AV.weaken : AV → AV
  | .v .nil => .v (.sl [])
  | .own _ rows => .v (.sl rows)
  | .vac _ _ => .v (.sl [])
  | a => a

def weakAll : List Nat → List AV → List AV
  | [], l => l
  | i :: is, l => weakAll is (l.set i (l.getD i .none).weaken)

def killAll : List Nat → List AV → List AV
  | [], l => l
  | i :: is, l => killAll is (l.set i .none)

def distinct : List Nat → Bool
  | [] => true
  | a :: l => !(l.contains a) && distinct l

/-- The boxes at a loop's head. -/
def Cut.boxes (c : Cut) : Nat → List (List AV) → List (List AV)
  | _, [] => []
  | i, cs :: l => (match c.raw.contains i with
    | true => cs
    | false => cs.map fun a => c.tok (a.killTo c.heapLen)) :: c.boxes (i + 1) l

def AV.flat (a : AV) : Prop := ∃ p, a = .v p

/-- What must hold at a loop's head. -/
def Cut.asks (c : Cut) (s : St) : List Prop := c.raw.map fun b => ∀ a ∈ s.heap.getD b [], a.flat

def Cut.app (c : Cut) (s : St) : Option St :=
  match distinct c.toks with
  | false => .none
  | true =>
  match adoptAll c.adopt (weakAll c.weak (killAll c.kill s.tmps)) s.toks with
  | some (tmps, toks) =>
    match adoptBoxes c.adoptB (s.heap.take c.heapLen) toks with
    | some (heap, toks) =>
      some { s with tmps := tmps.map fun a => c.tok (a.killTo c.heapLen), toks := c.toks.map fun t => (toks.getD t .none), heap := c.boxes 0 heap }
    | .none => .none
  | .none => .none

inductive Nx where
  | cont (todo : List Item) (s : St)
  | done (r : List AV) (outer : List (List AV))

structure Out where
  nx : Nx
  obls : List Prop := []
  calls : List CallO := []

def Out.also (x : Out) (l : List Prop) (cs : List CallO) : Out := { x with obls := l ++ x.obls, calls := cs ++ x.calls }

/-- The results where a function ends. -/
def resVar (s : St) : ResultVar → Option AV
  | .tmp t => some (s.tmps.getD t .none)
  | .cell a t => match s.tmps.getD a .none with
    | .ptr b off => match s.heap[b]? with
      | some cs => varOf P t cs off
      | .none => .none
    | _ => .none

def giveS (toks : List (Option Nat)) : List AV → List Nat → Option (List AV × List Prop)
  | [], _ => some ([], [])
  | a :: as, used =>
    match a with
    | .v p => (giveS toks as used).map fun (l, q) => (.v p.norm :: l, q)
    | .agg cs => (giveS toks as used).map fun (l, q) => (.agg (cs.map PV.norm) :: l, q)
    | .own t rows => match used.contains t, toks[t]? with
      | false, some (some n) => (giveS toks as (t :: used)).map fun (l, q) => (.own used.length rows :: l, (n = rows.length) :: q)
      | _, _ => (giveS toks as used).map fun (l, q) => (.v (.sl rows) :: l, q)
    | .optr b off => (giveS toks as used).map fun (l, q) => (.optr b off :: l, q)
    | .bsl .. => (giveS toks as used).map fun (l, q) => (.none :: l, q)
    | .vac _ _ => (giveS toks as used).map fun (l, q) => (.v (.sl []) :: l, q)
    | _ => .none

def resAll (s : St) : List ResultVar → Option (List AV)
  | [] => some []
  | r :: rs => match resVar P s r, resAll s rs with
    | some a, some l => some (a :: l)
    | _, _ => .none

def fin (fn : Func) (s : St) : Option Out :=
  match resAll P s fn.results.toList with
  | .none => .none
  | some l => (giveS s.toks l []).map fun (r, q) => { nx := .done r s.outer, obls := q }

def exec (fn : Func) : Nat → List Item → St → List SC → Option Out
  | 0, _, _, _ => .none
  | n + 1, todo, s, sc =>
    match todo with
    | [] => fin P fn s
    | .code c :: k => match c with
      | .skip | .label _ => exec fn n k s sc
      | .seq a b => exec fn n (.code a :: .code b :: k) s sc
      | .block id b => exec fn n (.code b :: .inBlock id :: k) s sc
      | .loop b => match sc with
        | .cut c :: _ => (c.app s).map fun s' => { nx := .cont (.code b :: .inLoop b :: k) s', obls := c.asks s' }
        | _ => exec fn n (.code b :: .inLoop b :: k) s sc
      | .exit id => match exitTo id k with
        | some k' => exec fn n k' s sc
        | .none => .none
      | .ret => fin P fn s
      | .cond x a b => match SC.br? sc with
        | some (d, sc) => match evOf s.tmps x with
          | .v (.bool B) => match d with
            | .none => match B with
              | true => exec fn n (.code a :: k) s sc
              | false => exec fn n (.code b :: k) s sc
            | some true => (exec fn n (.code a :: k) s sc).map (·.also [B = true] [])
            | some false => (exec fn n (.code b :: k) s sc).map (·.also [B = false] [])
          | _ => .none
        | .none => .none
      | .region _ ops draw => match SC.reg? sc with
        | some (es, sc) => match draw && !(indepB ops.toList es) with
          | true => .none
          | false => match runOps P ops.toList es (List.range ops.toList.length) s with
            | some x => (exec fn n k x.st sc).map (·.also x.obls x.calls)
            | .none => .none
        | .none => .none
      | _ => .none
    | .inBlock _ :: k => exec fn n k s sc
    | .inLoop b :: k => match sc with
      | .cut c :: _ => (c.app s).map fun s' => { nx := .cont (.code b :: .inLoop b :: k) s', obls := c.asks s' }
      | _ => exec fn n (.code b :: .inLoop b :: k) s sc
    | _ => .none

def initSt (fn : Func) (args : List AV) (toks : List (Option Nat)) (outer : List (List AV)) : St :=
  { tmps := args ++ List.replicate (fn.ntmps - args.length) .none, toks, outer, heap := [] }

/-- A result, as one that is not appended to. -/
def AV.soft : AV → AV
  | .own _ rows => .v (.sl rows)
  | .v p => .v p
  | .agg cs => .agg cs
  | .optr b off => .optr b off
  | _ => .none

variable (prim : FuncId → List AV → List AV → Prop)

/-- The tokens that arguments bring. -/
def ownToks : List AV → List (Option Nat)
  | [] => []
  | .own _ rows :: l => some rows.length :: ownToks l
  | _ :: l => ownToks l

/-- A call of a function whose meaning is given. -/
def CallO.given (c : CallO) : Prop := prim c.f c.args c.r ∧ c.toks = ownToks c.args ∧ c.outer = [] ∧ c.outer' = []

/-- FROM A STATE ON, A FUNCTION ANSWERS. -/
inductive EvK : Func → List Item → St → List AV → List (List AV) → Prop
  | done {fn n todo s sc r h obls calls} (e : exec P fn n todo s sc = some { nx := .done r h, obls, calls }) (ho : ∀ p ∈ obls, p)
      (hc : ∀ c ∈ calls, c.cond → ¬ c.given prim → ∀ g b, P.funcs[c.f]? = some g → g.body = some b → EvK g [.code b] (initSt g c.args c.toks c.outer) c.r c.outer') : EvK fn todo s r h
  | cont {fn n todo s sc r h todo' s' obls calls} (e : exec P fn n todo s sc = some { nx := .cont todo' s', obls, calls }) (ho : ∀ p ∈ obls, p)
      (hc : ∀ c ∈ calls, c.cond → ¬ c.given prim → ∀ g b, P.funcs[c.f]? = some g → g.body = some b → EvK g [.code b] (initSt g c.args c.toks c.outer) c.r c.outer')
      (hk : EvK fn todo' s' r h) : EvK fn todo s r h
  | soft {fn todo s r h} (hk : EvK fn todo s r h) : EvK fn todo s (r.map AV.soft) h

/-- A FUNCTION ANSWERS: its arguments, the boxes of its callers; its results, the boxes behind it. -/
def EvF (f : FuncId) (args : List AV) (toks : List (Option Nat)) (outer : List (List AV)) (r : List AV) (outer' : List (List AV)) : Prop :=
  ∀ g b, P.funcs[f]? = some g → g.body = some b → EvK P prim g [.code b] (initSt g args toks outer) r outer'

def CallO.ok (c : CallO) : Prop := c.cond → EvF P prim c.f c.args c.toks c.outer c.r c.outer'

variable {P prim}

theorem EvF.of {f : FuncId} {g : Func} {args : List AV} {toks : List (Option Nat)} {outer : List (List AV)} {r : List AV} {outer' : List (List AV)}
    (hf : P.funcs[f]? = some g) (h : EvK P prim g [.code (g.body.getD .skip)] (initSt g args toks outer) r outer') : EvF P prim f args toks outer r outer' := by
  intro g' b hg hb
  rw [hf] at hg
  obtain rfl := Option.some.inj hg
  rw [hb] at h
  exact h

theorem EvF.soft {f : FuncId} {args : List AV} {toks : List (Option Nat)} {outer : List (List AV)} {r : List AV} {outer' : List (List AV)}
    (h : EvF P prim f args toks outer r outer') : EvF P prim f args toks outer (r.map AV.soft) outer' := fun g b hg hb => (h g b hg hb).soft

theorem and1 {a b : Bool} (h : (a && b) = true) : a = true := by cases a <;> simp_all
theorem andI {a b : Bool} (h : a = true) (k : b = true) : (a && b) = true := by rw [h, k]; rfl
theorem andIn {a b : Bool} (h : a = true) (k : b = false) : (a && !b) = true := by rw [h, k]; rfl
theorem notF {a : Bool} (h : a = false) : (!a) = true := by rw [h]; rfl

theorem all0 {α : Type} {p : α → Prop} : ∀ x ∈ ([] : List α), p x := fun _ h => nomatch h
theorem all1 {α : Type} {p : α → Prop} {a : α} {l : List α} (h : p a) (t : ∀ x ∈ l, p x) : ∀ x ∈ a :: l, p x := fun x hx => by
  cases hx with
  | head => exact h
  | tail _ hx => exact t x hx

theorem ob0 : ∀ p ∈ ([] : List Prop), p := fun _ h => nomatch h
theorem ob1 {a : Prop} {l : List Prop} (h : a) (t : ∀ p ∈ l, p) : ∀ p ∈ a :: l, p := all1 (p := fun p => p) h t
theorem idG (g : Bool) : g = true → g = true := fun h => h
theorem ca0 : ∀ c ∈ ([] : List CallO), c.cond → ¬ c.given prim → ∀ g b, P.funcs[c.f]? = some g → g.body = some b → EvK P prim g [.code b] (initSt g c.args c.toks c.outer) c.r c.outer' := fun _ h => nomatch h
theorem ca1 {cond : Prop} {f : FuncId} {args : List AV} {toks : List (Option Nat)} {outer : List (List AV)} {r : List AV} {outer' : List (List AV)} {l : List CallO} (h : cond → EvF P prim f args toks outer r outer')
    (t : ∀ c ∈ l, c.cond → ¬ c.given prim → ∀ g b, P.funcs[c.f]? = some g → g.body = some b → EvK P prim g [.code b] (initSt g c.args c.toks c.outer) c.r c.outer') :
    ∀ c ∈ ({ cond, f, args, toks, outer, r, outer' } : CallO) :: l, c.cond → ¬ c.given prim → ∀ g b, P.funcs[c.f]? = some g → g.body = some b → EvK P prim g [.code b] (initSt g c.args c.toks c.outer) c.r c.outer' :=
  all1 (p := fun c : CallO => c.cond → ¬ c.given prim → ∀ g b, P.funcs[c.f]? = some g → g.body = some b → EvK P prim g [.code b] (initSt g c.args c.toks c.outer) c.r c.outer') (fun hcond _ => h hcond) t
theorem cp1 {cond : Prop} {f : FuncId} {args : List AV} {r : List AV} {l : List CallO} (h : cond → prim f args r)
    (t : ∀ c ∈ l, c.cond → ¬ c.given prim → ∀ g b, P.funcs[c.f]? = some g → g.body = some b → EvK P prim g [.code b] (initSt g c.args c.toks c.outer) c.r c.outer') :
    ∀ c ∈ ({ cond, f, args, toks := ownToks args, outer := [], r, outer' := [] } : CallO) :: l, c.cond → ¬ c.given prim → ∀ g b, P.funcs[c.f]? = some g → g.body = some b → EvK P prim g [.code b] (initSt g c.args c.toks c.outer) c.r c.outer' :=
  all1 (p := fun c : CallO => c.cond → ¬ c.given prim → ∀ g b, P.funcs[c.f]? = some g → g.body = some b → EvK P prim g [.code b] (initSt g c.args c.toks c.outer) c.r c.outer') (fun hcond hn => (hn ⟨h hcond, rfl, rfl, rfl⟩).elim) t

/-- The code at a loop's head, the k-th loop in a function's text. -/
def loopsIn : Code → List Item → List (List Item)
  | .seq a b, k => loopsIn a (.code b :: k) ++ loopsIn b k
  | .cond _ a b, k => loopsIn a k ++ loopsIn b k
  | .block id c, k => loopsIn c (.inBlock id :: k)
  | .loop c, k => (.code c :: .inLoop c :: k) :: loopsIn c (.inLoop c :: k)
  | _, _ => []

def loopAt (fn : Func) (k : Nat) : List Item := (loopsIn (fn.body.getD .skip) []).getD k []

end
end Go.Ab
