/- The abstract interpreter: values, heap, operations, code. Plain definitions: nothing is claimed here. -/
import Derived.Orders
set_option linter.unusedVariables false
namespace Go.Abs

/-- What is known of a slice's tail: nil; capacity = length; nothing; the family that may be appended to in place. -/
inductive Tok where
  | nil
  | full
  | dead
  | room (d f pos : Nat)
  deriving DecidableEq

inductive V where
  | undef
  | unk
  | bool (b : Bool)
  | int (k : IntKind) (n : Int)
  | str (s : List UInt8)
  | nilp
  | ptr (d i off : Nat)
  | imm (cells : List V)
  | sl (len : Nat) (cells : List V) (t : Tok)
  | sref (d i off len s : Nat)
  | nilm
  | mapr (d i : Nat)
  | nilf
  | fn (f : FuncId) (first captured : List V)
  | agg (cells : List V)
  | tup (vs : List V)

inductive AO where
  | cells (cs : List V)
  | map (es : List (V × V))
  | dead

structure Fr where
  objs : List AO
  fams : List (Option Nat)

structure Hp where
  glob : Fr
  stk : List Fr

def Fr.empty : Fr := ⟨[], []⟩

def stkGet : List Fr → Nat → Option Fr
  | [], _ => none
  | f :: fs, d => if d = fs.length + 1 then some f else stkGet fs d

def stkSet : List Fr → Nat → Fr → List Fr
  | [], _, _ => []
  | f :: fs, d, x => if d = fs.length + 1 then x :: fs else f :: stkSet fs d x

def Hp.depth (H : Hp) : Nat := H.stk.length
def Hp.fr (H : Hp) : Nat → Option Fr
  | 0 => some H.glob
  | d + 1 => stkGet H.stk (d + 1)
def Hp.setFr (H : Hp) (d : Nat) (x : Fr) : Hp :=
  match d with
  | 0 => { H with glob := x }
  | d + 1 => { H with stk := stkSet H.stk (d + 1) x }
def Hp.obj (H : Hp) (d i : Nat) : Option AO :=
  match H.fr d with
  | some f => f.objs[i]?
  | none => none
def Hp.setObj (H : Hp) (d i : Nat) (o : AO) : Hp :=
  match H.fr d with
  | some f => H.setFr d { f with objs := f.objs.set i o }
  | none => H
def Hp.newObj (H : Hp) (d : Nat) (o : AO) : Option (Nat × Hp) :=
  match H.fr d with
  | some f => some (f.objs.length, H.setFr d { f with objs := f.objs ++ [o] })
  | none => none
def Hp.fam (H : Hp) (d f : Nat) : Option Nat :=
  match H.fr d with
  | some x => (x.fams[f]?).bind id
  | none => none
def Hp.setFam (H : Hp) (d f : Nat) (p : Option Nat) : Hp :=
  match H.fr d with
  | some x => H.setFr d { x with fams := x.fams.set f p }
  | none => H
def Hp.newFam (H : Hp) (d : Nat) (p : Nat) : Option (Nat × Hp) :=
  match H.fr d with
  | some x => some (x.fams.length, H.setFr d { x with fams := x.fams ++ [some p] })
  | none => none

/-- One constant cell. -/
def ofCell : Value → V
  | .bool b => .bool b
  | .int k n => .int k n
  | .string s => .str s.data.toList
  | .pointer none => .nilp
  | .slice none 0 0 => .sl 0 [] .nil
  | .map none => .nilm
  | .nilFunc => .nilf
  | .func (.func f) a b => if a.size = 0 ∧ b.size = 0 then .fn f [] [] else .unk
  | _ => .unk
def ofConst : Value → V
  | .agg cs => .agg (cs.toList.map ofCell)
  | v => ofCell v

def nth : List V → Nat → V
  | [], _ => .undef
  | v :: _, 0 => v
  | _ :: vs, n + 1 => nth vs n
def upd : List V → Nat → V → List V
  | [], _, _ => []
  | _ :: vs, 0, x => x :: vs
  | v :: vs, n + 1, x => v :: upd vs n x
def put (T : List V) (dst : Option Tmp) (v : V) : List V :=
  match dst with
  | some d => upd T d v
  | none => T

def aEval (T : List V) : Operand → V
  | .tmp t => nth T t
  | .const v => ofConst v
  | .global _ => .unk
  | .func f => .fn f [] []

/-- The cells of a value. -/
def V.cells : V → List V
  | .agg cs => cs
  | v => [v]

mutual
/-- The value as one of depth d0 may hold it: no pointer to what lives shorter; tokens of what lives shorter are dropped. -/
def fitV (d0 : Nat) : V → Option V
  | .ptr d i o => if d ≤ d0 then some (.ptr d i o) else none
  | .sref d i o l s => if d ≤ d0 then some (.sref d i o l s) else none
  | .mapr d i => if d ≤ d0 then some (.mapr d i) else none
  | .sl len cs (.room d f p) => if d ≤ d0 then some (.sl len cs (.room d f p)) else some (.sl len cs .dead)
  | .fn f a b =>
    match fitL d0 a with
    | some a' => match fitL d0 b with
      | some b' => some (.fn f a' b')
      | none => none
    | none => none
  | .agg cs => match fitL d0 cs with
    | some cs' => some (.agg cs')
    | none => none
  | .tup cs => match fitL d0 cs with
    | some cs' => some (.tup cs')
    | none => none
  | .undef => some .undef
  | .unk => none
  | .bool b => some (.bool b)
  | .int k n => some (.int k n)
  | .str s => some (.str s)
  | .nilp => some .nilp
  | .imm cs => some (.imm cs)
  | .sl len cs .nil => some (.sl len cs .nil)
  | .sl len cs .full => some (.sl len cs .full)
  | .sl len cs .dead => some (.sl len cs .dead)
  | .nilm => some .nilm
  | .nilf => some .nilf
def fitL (d0 : Nat) : List V → Option (List V)
  | [] => some []
  | v :: vs => match fitV d0 v with
    | some v' => match fitL d0 vs with
      | some vs' => some (v' :: vs')
      | none => none
    | none => none
end

/-- Tokens forgotten (in a result's own cells). -/
def eraseC : V → V
  | .sl len cs _ => .sl len cs .dead
  | v => v
def eraseA : V → V
  | .agg cs => .agg (cs.map eraseC)
  | v => eraseC v
def eraseV : V → V
  | .tup vs => .tup (vs.map eraseA)
  | v => eraseA v

/-! ### Types -/

def tSize (P : Program) (t : TypeId) : Option Nat :=
  match P.info? t with
  | some i => some i.size
  | none => none
def tBytes (P : Program) (t : TypeId) : Option Nat :=
  match P.info? t with
  | some i => some i.bytes
  | none => none
def tAgg (P : Program) (t : TypeId) : Option Bool :=
  match P.underlying t with
  | some (.struct _) => some true
  | some (.array _ _) => some true
  | some _ => some false
  | none => none
def tZero (P : Program) (t : TypeId) : Option V :=
  match P.info? t with
  | some i => match i.zero with
    | some z => some (ofConst z)
    | none => none
  | none => none
/-- A zero value's cells, as many as the type has. -/
def tZ (P : Program) (t : TypeId) : Option (List V) :=
  match tZero P t with
  | some z => match tSize P t with
    | some n => match decide (z.cells.length = n) with
      | true => some z.cells
      | false => none
    | none => none
  | none => none
/-- Have all fields of a struct type a size? -/
def tFields (P : Program) (t : TypeId) : Bool :=
  match P.underlying t with
  | some (.struct fs) => fs.toList.all fun f => (tSize P f.type).isSome
  | some (.array _ e) => (tSize P e).isSome
  | _ => false
/-- The element type of a slice type: its size in cells, and in bytes. -/
def tElem (P : Program) (t : TypeId) : Option (Nat × Nat) :=
  match P.underlying t with
  | some (.slice e) => match tZ P e with
    | some z => match tBytes P e with
      | some b => some (z.length, b)
      | none => none
    | none => none
  | _ => none
def tField (P : Program) (t : TypeId) (f : Nat) : Option (Nat × Nat × Bool) :=
  match P.underlying t with
  | some (.struct fs) => match fs[f]? with
    | some fl => match tSize P fl.type with
      | some n => match tAgg P fl.type with
        | some b => some (fl.offset, n, b)
        | none => none
      | none => none
    | none => none
  | _ => none

/-- A plain cell's kind. -/
inductive PK where
  | int
  | bool
  | str
/-- The cells of a struct's fields, all plain, which lie one behind another. -/
def kindsFs (P : Program) (ok : TypeId → Option (List PK)) : List Field → Nat → Option (List PK)
  | [], _ => some []
  | f :: fs, off =>
    match f.name != "_" && f.offset == off with
    | true => match ok f.type with
      | some ks => match kindsFs P ok fs (off + ks.length) with
        | some r => some (ks ++ r)
        | none => none
      | none => none
    | false => none
/-- The kinds of a type's cells, if all are plain, and '==' compares them one by one. -/
def kindsT (P : Program) : Nat → TypeId → Option (List PK)
  | 0, _ => none
  | d + 1, t =>
    match tSize P t with
    | none => none
    | some n => match P.underlying t with
      | some .bool => (match decide (n = 1) with
        | true => some [.bool]
        | false => none)
      | some (.int _) => (match decide (n = 1) with
        | true => some [.int]
        | false => none)
      | some .string => (match decide (n = 1) with
        | true => some [.str]
        | false => none)
      | some (.struct fs) => (match P.stoodInHeld t with
        | true => none
        | false => match kindsFs P (kindsT P d) fs.toList 0 with
          | some ks => (match decide (ks.length = n) with
            | true => some ks
            | false => none)
          | none => none)
      | _ => none

/-! ### Operations on memory -/

def aLoad (isAgg : Bool) (n : Nat) (p : V) (H : Hp) : Option V :=
  match p with
  | .ptr d i off => match H.obj d i with
    | some (.cells cs) =>
      if isAgg then (if off + n ≤ cs.length then some (.agg ((cs.drop off).take n)) else none)
      else cs[off]?
    | _ => none
  | .imm cs =>
    if isAgg then (if n ≤ cs.length then some (.agg (cs.take n)) else none)
    else cs[0]?
  | _ => none

/-- Cells laid one behind another from a place on. -/
def setAll {α : Type} : List α → Nat → List α → List α
  | cs, _, [] => cs
  | cs, off, v :: vs => setAll (cs.set off v) (off + 1) vs

/-- The value as a cell of depth d0 takes it: the tail of a slice that may grow goes with it. -/
def adopt (d0 : Nat) (v : V) (H : Hp) : Option (V × Hp) :=
  match v with
  | .sl len cs (.room d f p) =>
    if d ≤ d0 then some (v, H)
    else if H.fam d f = some p then
      match (H.setFam d f none).newFam d0 p with
      | some (f', H') => some (.sl len cs (.room d0 f' p), H')
      | none => none
    else some (.sl len cs .dead, H)
  | v => match fitV d0 v with
    | some v' => some (v', H)
    | none => none

/-- Does each stand in one cell? -/
def oneC : V → Bool
  | .agg _ => false
  | .tup _ => false
  | .undef => false
  | .unk => false
  | _ => true
def oneL : List V → Bool
  | [] => true
  | v :: vs => oneC v && oneL vs

/-- Are all plain whole numbers? -/
def allInt : List V → Bool
  | [] => true
  | v :: vs => match v with
    | .int _ _ => allInt vs
    | _ => false
/-- A row of whole numbers stays one. -/
def okOver (cs new : List V) : Bool :=
  match allInt new with
  | true => true
  | false => match allInt cs with
    | true => false
    | false => true

def aStore (n : Nat) (p v : V) (H : Hp) : Option Hp :=
  match p with
  | .ptr d i off =>
    match adopt d v H with
    | some (v', H') =>
      match H'.obj d i with
      | some (.cells cs) =>
        if v'.cells.length = n ∧ off + n ≤ cs.length ∧ oneL v'.cells = true ∧ okOver cs v'.cells = true then some (H'.setObj d i (.cells (setAll cs off v'.cells))) else none
      | _ => none
    | none => none
  | _ => none

def aFieldAddr (off n : Nat) (p : V) : Option V :=
  if n = 0 then none else
  match p with
  | .ptr d i o => some (.ptr d i (o + off))
  | .imm cs => some (.imm (cs.drop off))
  | _ => none

def aField (off n : Nat) (isAgg : Bool) (v : V) : Option V :=
  match v with
  | .agg cs => if isAgg then (if off + n ≤ cs.length then some (.agg ((cs.drop off).take n)) else none) else cs[off]?
  | _ => none

/-- x[ix] of a slice: its address. -/
def aIndexSl (s : Nat) (x ix : V) : Option V :=
  match ix with
  | .int _ i =>
    match x with
    | .sl len cs _ =>
      if 0 ≤ i ∧ i < len ∧ cs.length = len * s ∧ 0 < s then some (.imm ((cs.drop (i.toNat * s)).take s)) else none
    | .sref d o off len s' => if 0 ≤ i ∧ i < len ∧ s' = s then some (.ptr d o (off + i.toNat * s)) else none
    | _ => none
  | _ => none
def aIndexArr (n s : Nat) (x ix : V) : Option V :=
  match ix with
  | .int _ i =>
    if 0 ≤ i ∧ i < n then
      match x with
      | .ptr d o off => some (.ptr d o (off + i.toNat * s))
      | .imm cs => some (.imm (cs.drop (i.toNat * s)))
      | _ => none
    else none
  | _ => none

def aIndexStr (x ix : V) : Option V :=
  match x, ix with
  | .str s, .int _ i => if 0 ≤ i then (match s[i.toNat]? with
      | some b => some (.int .u8 b.toNat)
      | none => none) else none
  | _, _ => none

def bound (v : Option V) (dflt most : Nat) : Option Nat :=
  match v with
  | none => some dflt
  | some (.int _ i) => if 0 ≤ i ∧ i ≤ most then some i.toNat else none
  | some _ => none

def tokCut (t : Tok) (len' hi len : Nat) : Tok :=
  match t with
  | .nil => .nil
  | .full => if hi = len then .full else .dead
  | .dead => .dead
  | .room d f p => if hi = len ∧ 0 < len' then .room d f p else .dead

def aSlice (s : Nat) (x : V) (lo hi mx : Option V) : Option V :=
  match x with
  | .sl len cs t =>
    if cs.length = len * s then
      match mx with
      | none => match bound hi len len with
        | some h => match bound lo 0 h with
          | some l => some (.sl (h - l) ((cs.drop (l * s)).take ((h - l) * s)) (tokCut t (h - l) h len))
          | none => none
        | none => none
      | some m => match hi with
        | none => none
        | some hv => match bound (some m) len len with
          | some mm => match bound (some hv) len mm with
            | some h => match bound lo 0 h with
              | some l => some (.sl (h - l) ((cs.drop (l * s)).take ((h - l) * s))
                  (match t with | .nil => .nil | _ => if mm = h then .full else .dead))
              | none => none
            | none => none
          | none => none
    else none
  | .sref d i off len s' =>
    if s' = s then
      match mx with
      | none => match bound hi len len with
        | some h => match bound lo 0 h with
          | some l => if l < h then some (.sref d i (off + l * s) (h - l) s) else some (.sl 0 [] .dead)
          | none => none
        | none => none
      | some m => match hi with
        | none => none
        | some hv => match bound (some m) len len with
          | some mm => match bound (some hv) len mm with
            | some h => match bound lo 0 h with
              | some l => if l < h then none else some (.sl 0 [] (if mm = h then .full else .dead))
              | none => none
            | none => none
          | none => none
    else none
  | _ => none

/-- What an append takes: how many elements, and their cells, as a value that never changes may hold them. -/
def aSource (s : Nat) (y : V) (H : Hp) : Option (Nat × List V) :=
  match y with
  | .sl n cs _ => if cs.length = n * s then some (n, cs) else none
  | .str bs => if s = 1 then some (bs.length, bs.map fun b => V.int .u8 b.toNat) else none
  | .sref d i off n s' =>
    if s' = s then
      match H.obj d i with
      | some (.cells cs) => if off + n * s ≤ cs.length then
          (match fitL 0 ((cs.drop off).take (n * s)) with
           | some ys => some (n, ys)
           | none => none) else none
      | _ => none
    else none
  | _ => none

def mostBytes : Nat := 1099511627776

/-- 'O': where a slice that may be written is made; 'D': where a family is. -/
def aAppend (own : Bool) (O D s bytes : Nat) (x y : V) (H : Hp) : Option (V × Hp) :=
  match aSource s y H with
  | none => none
  | some (n, ys) =>
    match x with
    | .sl len cs t =>
      if cs.length = len * s ∧ 0 < s ∧ (len + n) * (bytes + 1) ≤ mostBytes then
        (if n = 0 then some (x, H) else
        match t with
        | .dead => none
        | .room d f p =>
          if H.fam d f = some p ∧ 0 < len ∧ oneL ys = true then some (.sl (len + n) (cs ++ ys) (.room d f (p + n)), H.setFam d f (some (p + n))) else none
        | _ =>
          if own then
            (match H.newObj O (.cells (cs ++ ys)) with
             | some (i, H') => some (.sref O i 0 (len + n) s, H')
             | none => none)
          else
            (match H.newFam D (len + n) with
             | some (f, H') => some (.sl (len + n) (cs ++ ys) (.room D f (len + n)), H')
             | none => none))
      else none
    | .sref d i off len s' =>
      if s' = s ∧ off = 0 ∧ 0 < s ∧ (len + n) * (bytes + 1) ≤ mostBytes then
        (if n = 0 then some (x, H) else
        match H.obj d i with
        | some (.cells cs) =>
          if cs.length = len * s ∧ oneL ys = true ∧ okOver cs ys = true then
            (match (H.setObj d i .dead).newObj d (.cells (cs ++ ys)) with
             | some (i', H') => some (.sref d i' 0 (len + n) s, H')
             | none => none)
          else none
        | _ => none)
      else none
    | _ => none

/-! ### Operations on numbers, strings, comparisons -/

def wrap (k : IntKind) (n : Int) : Int :=
  match k with
  | .i64 => if -9223372036854775808 ≤ n ∧ n ≤ 9223372036854775807 then n else IntKind.i64.wrap n
  | .u8 => n % 256
  | .u32 => n % 4294967296
  | .u64 => n % 18446744073709551616
  | k => k.wrap n

def bytesLess : List UInt8 → List UInt8 → Bool
  | _, [] => false
  | [], _ :: _ => true
  | a :: x, b :: y => a < b || (a == b && bytesLess x y)

def modOf (k : IntKind) : Int :=
  match k with
  | .i8 => 256
  | .u8 => 256
  | .i16 => 65536
  | .u16 => 65536
  | .i32 => 4294967296
  | .u32 => 4294967296
  | .i64 => 18446744073709551616
  | .u64 => 18446744073709551616
def bitOp (op : BinOp) (k : IntKind) (a b : Int) : Option Int :=
  match op with
  | .and => some (wrap k (((a % modOf k).toNat &&& (b % modOf k).toNat : Nat) : Int))
  | .or => some (wrap k (((a % modOf k).toNat ||| (b % modOf k).toNat : Nat) : Int))
  | .xor => some (wrap k (((a % modOf k).toNat ^^^ (b % modOf k).toNat : Nat) : Int))
  | _ => none

def aBinInt (op : BinOp) (k : IntKind) (a b : Int) : Option V :=
  match op with
  | .add => some (.int k (wrap k (a + b)))
  | .sub => some (.int k (wrap k (a - b)))
  | .mul => some (.int k (wrap k (a * b)))
  | .quo => if b = 0 then none else some (.int k (wrap k (a.tdiv b)))
  | .rem => if b = 0 then none else some (.int k (a.tmod b))
  | .lss => some (.bool (decide (a < b)))
  | .leq => some (.bool (decide (a ≤ b)))
  | .gtr => some (.bool (decide (b < a)))
  | .geq => some (.bool (decide (b ≤ a)))
  | op => match bitOp op k a b with
    | some c => some (.int k c)
    | none => none

def eqCells : List PK → List V → List V → Option Bool
  | [], [], [] => some true
  | k :: ks, a :: us, b :: ws =>
    match k with
    | .int => match a, b with
      | .int k x, .int k' y => if k = k' then (if x = y then eqCells ks us ws else some false) else none
      | _, _ => none
    | .bool => match a, b with
      | .bool x, .bool y => if x = y then eqCells ks us ws else some false
      | _, _ => none
    | .str => match a, b with
      | .str x, .str y => if x = y then eqCells ks us ws else some false
      | _, _ => none
  | _, _, _ => none

/-- How '==' looks at a type's values. -/
inductive EK where
  | bool
  | int
  | str
  | ptr
  | sl
  | map
  | fn
  | agg (ks : List PK)

def aEq (k : EK) (x y : V) : Option Bool :=
  match k with
  | .bool => match x, y with
    | .bool a, .bool b => some (decide (a = b))
    | _, _ => none
  | .int => match x, y with
    | .int k a, .int k' b => if k = k' then some (decide (a = b)) else none
    | _, _ => none
  | .str => match x, y with
    | .str a, .str b => some (decide (a = b))
    | _, _ => none
  | .ptr => match x, y with
    | .nilp, .nilp => some true
    | .nilp, .ptr .. => some false
    | .nilp, .imm _ => some false
    | .ptr .., .nilp => some false
    | .imm _, .nilp => some false
    | _, _ => none
  | .sl => match x, y with
    | .sl len _ t, .sl 0 [] .nil => if t = .nil ∧ len = 0 then some true else if 0 < len then some false else none
    | .sref _ _ _ _ _, .sl 0 [] .nil => some false
    | _, _ => none
  | .map => match x, y with
    | .nilm, .nilm => some true
    | .mapr .., .nilm => some false
    | _, _ => none
  | .fn => match x, y with
    | .nilf, .nilf => some true
    | .fn .., .nilf => some false
    | _, _ => none
  | .agg ks => match x, y with
    | .agg cs, .agg ds => if cs.length = ks.length ∧ ds.length = ks.length then eqCells ks cs ds else none
    | _, _ => none

def pEq (k : EK) (x y : V) : Option V :=
  match aEq k x y with
  | some b => some (.bool b)
  | none => none
def pNe (k : EK) (x y : V) : Option V :=
  match aEq k x y with
  | some b => some (.bool (!b))
  | none => none

def aBin (op : BinOp) (x y : V) : Option V :=
  match x, y with
  | .int k a, .int k' b =>
    match op with
    | .shl => if b < 0 then none else some (.int k (wrap k (a * 2 ^ min b.toNat k.bits)))
    | .shr => if b < 0 then none else some (.int k (a.fdiv (2 ^ min b.toNat k.bits)))
    | op => if k = k' then aBinInt op k a b else none
  | .str a, .str b =>
    match op with
    | .add => if a.length + b.length ≤ mostBytes then some (.str (a ++ b)) else none
    | .lss => some (.bool (bytesLess a b))
    | .leq => some (.bool (bytesLess a b || decide (a = b)))
    | .gtr => some (.bool (!(bytesLess a b || decide (a = b))))
    | .geq => some (.bool (!bytesLess a b))
    | _ => none
  | _, _ => none

def aUn (op : UnOp) (x : V) : Option V :=
  match op, x with
  | .not, .bool b => some (.bool (!b))
  | .neg, .int k n => some (.int k (wrap k (0 - n)))
  | _, _ => none

def toByte (v : V) : Option UInt8 :=
  match v with
  | .int .u8 n => some (UInt8.ofNat n.toNat)
  | _ => none
def toBytes : List V → Option (List UInt8)
  | [] => some []
  | v :: vs => match toByte v with
    | some b => match toBytes vs with
      | some bs => some (b :: bs)
      | none => none
    | none => none

inductive CK where
  | toInt (k : IntKind)
  | same
  | toBytes
  | toStr
def tConv (P : Program) (src dst : TypeId) : Option CK :=
  match P.underlying src, P.underlying dst with
  | some (.int _), some (.int k) => some (.toInt k)
  | some .string, some .string => some .same
  | some .string, some (.slice e) => match P.underlying e with
    | some (.int .u8) => some .toBytes
    | _ => none
  | some (.slice e), some .string => match P.underlying e with
    | some (.int .u8) => some .toStr
    | _ => none
  | _, _ => none

def pConv (c : CK) (x : V) (H : Hp) : Option V :=
  match c with
  | .toInt k => match x with
    | .int _ n => some (.int k (wrap k n))
    | _ => none
  | .same => match x with
    | .str s => some (.str s)
    | _ => none
  | .toBytes => match x with
    | .str s => if s.length ≤ mostBytes then some (.sl s.length (s.map fun b => V.int .u8 b.toNat) .dead) else none
    | _ => none
  | .toStr => match x with
    | .sl n cs _ => if cs.length = n then (match toBytes cs with
      | some bs => some (.str bs)
      | none => none) else none
    | .sref d i off n s => match H.obj d i with
      | some (.cells cs) => if off + n ≤ cs.length ∧ s = 1 then (match toBytes ((cs.drop off).take n) with
        | some bs => some (.str bs)
        | none => none) else none
      | _ => none
    | _ => none
/-- The same where what is made may be written. -/
def pConvOwn (O : Nat) (c : CK) (x : V) (H : Hp) : Option (V × Hp) :=
  match c with
  | .toBytes => match x with
    | .str s => if s.length ≤ mostBytes then
        (match H.newObj O (.cells (s.map fun b => V.int .u8 b.toNat)) with
         | some (i, H') => some (.sref O i 0 s.length 1, H')
         | none => none) else none
    | _ => none
  | c => match pConv c x H with
    | some v => some (v, H)
    | none => none

/-- The parts of a struct or an array: offset and size of each. -/
def aBuild (zero : List V) : List (Nat × Nat × V) → Option (List V)
  | [] => some zero
  | (off, n, v) :: rest =>
    match v with
    | .unk => none
    | v => if v.cells.length = n ∧ off + n ≤ zero.length then aBuild (setAll zero off v.cells) rest else none

def tPlaces (P : Program) (t : TypeId) : List (Nat × Operand) → Option (List (Nat × Nat × Operand))
  | [] => some []
  | (i, x) :: rest =>
    match (match P.underlying t with
      | some (.struct fs) => (match fs[i]? with
        | some f => (match tSize P f.type with
          | some n => some (f.offset, n)
          | none => none)
        | none => none)
      | some (.array _ e) => (match tSize P e with
        | some n => some (i * n, n)
        | none => none)
      | some (.slice e) => (match tSize P e with
        | some n => some (i * n, n)
        | none => none)
      | _ => none) with
    | some (off, n) => match tPlaces P t rest with
      | some r => some ((off, n, x) :: r)
      | none => none
    | none => none

def rep (zero : List V) : Nat → List V
  | 0 => []
  | n + 1 => zero ++ rep zero n

def pBuild (zero : List V) (ps : List (Nat × Nat × V)) : Option V :=
  match aBuild zero ps with
  | some cs => some (.agg cs)
  | none => none
def pBuildSl (len : Nat) (zero : List V) (ps : List (Nat × Nat × V)) : Option V :=
  match aBuild (rep zero len) ps with
  | some cs => match fitL 0 cs with
    | some cs' => some (.sl len cs' .full)
    | none => none
  | none => none
def pMakeSl (zero : List V) (by_ : Nat) (l c : V) : Option V :=
  match l with
  | .int .i64 l => match c with
    | .int .i64 c => if 0 ≤ l ∧ l ≤ c ∧ c ≤ 9223372036854775807 ∧ c.toNat * (by_ + 1) ≤ mostBytes then
        some (.sl l.toNat (rep zero l.toNat) (if l = c then .full else .dead)) else none
    | _ => none
  | _ => none
def pMakeSlOwn (O : Nat) (zero : List V) (by_ : Nat) (l c : V) (H : Hp) : Option (V × Hp) :=
  match l with
  | .int .i64 l => match c with
    | .int .i64 c => if 0 ≤ l ∧ l = c ∧ c ≤ 9223372036854775807 ∧ c.toNat * (by_ + 1) ≤ mostBytes then
        (match H.newObj O (.cells (rep zero l.toNat)) with
         | some (i, H') => some (.sref O i 0 l.toNat zero.length, H')
         | none => none) else none
    | _ => none
  | _ => none
def pPick (c a b : V) : Option V :=
  match c with
  | .bool true => some a
  | .bool false => some b
  | _ => none
def pNil (x : V) : Option V :=
  match x with
  | .ptr d i off => some (.ptr d i off)
  | .imm cs => some (.imm cs)
  | .fn f a b => some (.fn f a b)
  | _ => none
def pExtract (x : V) (i : Nat) : Option V :=
  match x with
  | .tup vs => vs[i]?
  | _ => none
def pMax (x y : V) : Option V :=
  match x with
  | .int k a => match y with
    | .int k' b => some (.int k (if a < b then b else a))
    | _ => none
  | _ => none
def pMin (x y : V) : Option V :=
  match x with
  | .int k a => match y with
    | .int k' b => some (.int k (if b < a then b else a))
    | _ => none
  | _ => none
def pSliceStr (x : V) (lo hi : Option V) : Option V :=
  match x with
  | .str bs => match bound hi bs.length bs.length with
    | some h => match bound lo 0 h with
      | some l => some (.str ((bs.drop l).take (h - l)))
      | none => none
    | none => none
  | _ => none
def pIndexAgg (n s : Nat) (isAgg : Bool) (x ix : V) : Option V :=
  match ix with
  | .int _ i => if 0 ≤ i ∧ i < n then aField (i.toNat * s) s isAgg x else none
  | _ => none

inductive LK where
  | str
  | sl
  | map
def pLen (k : LK) (x : V) (H : Hp) : Option V :=
  match k with
  | .str => match x with
    | .str s => some (.int .i64 s.length)
    | _ => none
  | .sl => match x with
    | .sl n _ _ => some (.int .i64 n)
    | .sref _ _ _ n _ => some (.int .i64 n)
    | _ => none
  | .map => match x with
    | .nilm => some (.int .i64 0)
    | .mapr d i => match H.obj d i with
      | some (.map es) => some (.int .i64 es.length)
      | _ => none
    | _ => none

def pStore (n : Nat) (p v : V) (H : Hp) : Option (V × Hp) :=
  match aStore n p v H with
  | some H' => some (.undef, H')
  | none => none
def pAlloc (d : Nat) (z : List V) (H : Hp) : Option (V × Hp) :=
  match H.newObj d (.cells z) with
  | some (i, H') => some (.ptr d i 0, H')
  | none => none
def pBox (d : Nat) (x : V) (H : Hp) : Option (V × Hp) :=
  match fitV d x with
  | some v => match H.newObj d (.cells v.cells) with
    | some (i, H') => some (.ptr d i 0, H')
    | none => none
  | none => none
def pMakeMap (d : Nat) (H : Hp) : Option (V × Hp) :=
  match H.newObj d (.map []) with
  | some (i, H') => some (.mapr d i, H')
  | none => none
/-- An append: 'isStr': of a string's bytes. -/
def pAppend (own : Bool) (O D s bytes : Nat) (isStr : Bool) (x y : V) (H : Hp) : Option (V × Hp) :=
  match y with
  | .str bs => match isStr with
    | true => aAppend own O D s bytes x (.str bs) H
    | false => none
  | y => match isStr with
    | true => none
    | false => aAppend own O D s bytes x y H

/-! ### Maps -/

/-- How a map's keys are compared. -/
inductive KK where
  | int (k : IntKind)
  | str
  | agg (ks : List PK)
def eqKey (kk : KK) (a b : V) : Option Bool :=
  match kk with
  | .int k => match a, b with
    | .int k1 x, .int k2 y => if k1 = k ∧ k2 = k then some (decide (x = y)) else none
    | _, _ => none
  | .str => match a, b with
    | .str x, .str y => some (decide (x = y))
    | _, _ => none
  | .agg ks => match a, b with
    | .agg cs, .agg ds => if cs.length = ks.length ∧ ds.length = ks.length then eqCells ks cs ds else none
    | _, _ => none
def findKey (kk : KK) (k : V) : List (V × V) → Option (Option V)
  | [] => some none
  | (a, v) :: es => match eqKey kk k a with
    | some true => some (some v)
    | some false => findKey kk k es
    | none => none
def putKey (kk : KK) (k v : V) : List (V × V) → List (V × V)
  | [] => [(k, v)]
  | (a, u) :: es => match eqKey kk k a with
    | some true => (k, v) :: es
    | _ => (a, u) :: putKey kk k v es
def delKey (kk : KK) (k : V) : List (V × V) → List (V × V)
  | [] => []
  | (a, u) :: es => match eqKey kk k a with
    | some true => es
    | _ => (a, u) :: delKey kk k es

/-- A map's type: its keys, and an element's zero value. -/
def tMap (P : Program) (t : TypeId) : Option (KK × V) :=
  match P.underlying t with
  | some (.map k e) => match tZero P e with
    | some z => (match P.underlying k with
      | some (.int kk) => some (.int kk, z)
      | some .string => some (.str, z)
      | some (.struct _) => (match kindsT P 20 k with
        | some ks => some (.agg ks, z)
        | none => none)
      | _ => none)
    | none => none
  | _ => none

/-- Is a key one of its kind? -/
def keyFits (kk : KK) (v : V) : Bool :=
  match kk with
  | .int k => match v with
    | .int k' _ => decide (k = k')
    | _ => false
  | .str => match v with
    | .str _ => true
    | _ => false
  | .agg ks => match v with
    | .agg cs => cs.length == ks.length
    | _ => false

def aLookup (kk : KK) (z : V) (m k : V) (ok : Bool) (H : Hp) : Option V :=
  match (match m with
    | .nilm => some (none : Option V)
    | .mapr d i => (match H.obj d i with
      | some (.map es) => findKey kk k es
      | _ => none)
    | _ => none) with
  | some (some v) => some (if ok then .tup [v, .bool true] else v)
  | some none => some (if ok then .tup [z, .bool false] else z)
  | none => none
def aMapPut (kk : KK) (m k v : V) (H : Hp) : Option Hp :=
  match m with
  | .mapr d i =>
    match H.obj d i with
    | some (.map es) =>
      match fitV 0 k with
      | some k' => match findKey kk k' es with
        | some _ => match fitV d v with
          | some v' => some (H.setObj d i (.map (putKey kk k' v' es)))
          | none => none
        | none => none
      | none => none
    | _ => none
  | _ => none
def aMapDel (kk : KK) (m k : V) (H : Hp) : Option Hp :=
  match m with
  | .nilm => some H
  | .mapr d i =>
    match H.obj d i with
    | some (.map es) =>
      match findKey kk k es with
      | some _ => some (H.setObj d i (.map (delKey kk k es)))
      | none => none
    | _ => none
  | _ => none

def pLookup (kk : KK) (z : V) (m k : V) (ok : Bool) (H : Hp) : Option V :=
  match keyFits kk k with
  | true => aLookup kk z m k ok H
  | false => none
def pMapPut (kk : KK) (m k v : V) (H : Hp) : Option (V × Hp) :=
  match keyFits kk k with
  | true => match aMapPut kk m k v H with
    | some H' => some (.undef, H')
    | none => none
  | false => none
def pMapDel (kk : KK) (m k : V) (H : Hp) : Option (V × Hp) :=
  match keyFits kk k with
  | true => match aMapDel kk m k H with
    | some H' => some (.tup [], H')
    | none => none
  | false => none

/-- How '==' looks at a type. -/
def tEq (P : Program) (t : TypeId) : Option EK :=
  match P.underlying t with
  | some .bool => some .bool
  | some (.int _) => some .int
  | some .string => some .str
  | some (.pointer _) => some .ptr
  | some (.slice _) => some .sl
  | some (.map _ _) => some .map
  | some (.func _ _ _) => some .fn
  | some (.struct _) => match P.eqGuardType P.depth t with
    | false => match kindsT P 20 t with
      | some ks => some (.agg ks)
      | none => none
    | true => none
  | _ => none

end Go.Abs
