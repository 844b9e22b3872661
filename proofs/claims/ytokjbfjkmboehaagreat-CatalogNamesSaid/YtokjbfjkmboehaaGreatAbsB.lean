/- The abstract interpreter: regions, code, calls. Plain definitions: nothing is claimed here. -/
import Derived.Test.YtokjbfjkmboehaaGreatAbsA
set_option linter.unusedVariables false
namespace Go.Abs

abbrev Oracle := FuncId → List V → Hp → Option (V × Hp)

/-- How a function is run: where what it makes lives (0 its own frame, 1 its caller's, 2 for ever); may it write into slices that it makes; does its result keep what is known of slices' tails; is it a primitive. -/
structure Pol where
  at_ : FuncId → Nat
  own : FuncId → Bool
  keep : FuncId → Bool
  prim : FuncId → Option (List V → Hp → Option (V × Hp))

def place (pol : Pol) (f : FuncId) (D : Nat) : Nat :=
  match pol.at_ f with
  | 0 => D
  | 1 => D - 1
  | _ => 0

/-- Operations whose value hangs on their operands alone. -/
def aVal (P : Program) (o : Oper) (T : List V) : Option V :=
  match o.op with
  | .move x => some (aEval T x)
  | .assign x => some (aEval T x)
  | .pick c a b => pPick (aEval T c) (aEval T a) (aEval T b)
  | .build t parts => match tFields P t with
    | true => (match tZero P t with
      | some z => (match tPlaces P t parts.toList with
        | some ps => pBuild z.cells (ps.map fun x => (x.1, x.2.1, aEval T x.2.2))
        | none => none)
      | none => none)
    | false => none
  | .buildSlice t len parts => match P.underlying t with
    | some (.slice e) => match tZ P e with
      | some z => match tPlaces P t parts.toList with
        | some ps => (match decide (len * z.length ≤ 16777216) with
          | true => pBuildSl len z (ps.map fun x => (x.1, x.2.1, aEval T x.2.2))
          | false => none)
        | none => none
      | none => none
    | _ => none
  | .nilCheck x => pNil (aEval T x)
  | .binOp op t x y _ =>
    match op with
    | .eql => match tEq P t with
      | some k => pEq k (aEval T x) (aEval T y)
      | none => none
    | .neq => match tEq P t with
      | some k => pNe k (aEval T x) (aEval T y)
      | none => none
    | op => aBin op (aEval T x) (aEval T y)
  | .unOp op _ x => aUn op (aEval T x)
  | .makeFunc (.func f) first captured => some (.fn f (first.toList.map (aEval T)) (captured.toList.map (aEval T)))
  | .slice t x lo hi mx => match P.underlying t with
    | some .string => (match mx with
      | none => pSliceStr (aEval T x) (lo.map (aEval T)) (hi.map (aEval T))
      | some _ => none)
    | some (.slice e) => (match tSize P e with
      | some s => aSlice s (aEval T x) (lo.map (aEval T)) (hi.map (aEval T)) (mx.map (aEval T))
      | none => none)
    | _ => none
  | .fieldAddr t x f => match tField P t f with
    | some (off, n, _) => aFieldAddr off n (aEval T x)
    | none => none
  | .field t x f => match tField P t f with
    | some (off, n, b) => aField off n b (aEval T x)
    | none => none
  | .indexAddr t x ix => match P.underlying t with
    | some (.slice e) => (match tSize P e with
      | some s => aIndexSl s (aEval T x) (aEval T ix)
      | none => none)
    | some (.array n e) => (match tSize P e with
      | some s => aIndexArr n s (aEval T x) (aEval T ix)
      | none => none)
    | _ => none
  | .index t x ix => match P.underlying t with
    | some .string => aIndexStr (aEval T x) (aEval T ix)
    | some (.array n e) => (match tSize P e with
      | some s => (match tAgg P e with
        | some b => pIndexAgg n s b (aEval T x) (aEval T ix)
        | none => none)
      | none => none)
    | _ => none
  | .extract x ix => pExtract (aEval T x) ix
  | .call { callee := .builtin .max, args, .. } => match args.toList with
    | [x, y] => pMax (aEval T x) (aEval T y)
    | _ => none
  | .call { callee := .builtin .min, args, .. } => match args.toList with
    | [x, y] => pMin (aEval T x) (aEval T y)
    | _ => none
  | _ => none

/-- Operations that read memory, and leave it as it is. -/
def aRead (P : Program) (o : Oper) (T : List V) (H : Hp) : Option V :=
  match o.op with
  | .load t a => match tAgg P t with
    | some b => match tSize P t with
      | some n => aLoad b n (aEval T a) H
      | none => none
    | none => none
  | .lookup t m k ok => match tMap P t with
    | some (kk, z) => pLookup kk z (aEval T m) (aEval T k) ok H
    | none => none
  | .call { callee := .builtin .len, args, argTypes } => match args.toList with
    | [x] => match argTypes.toList with
      | t :: _ => (match P.underlying t with
        | some .string => pLen .str (aEval T x) H
        | some (.slice _) => pLen .sl (aEval T x) H
        | some (.map _ _) => pLen .map (aEval T x) H
        | some (.array n _) => some (.int .i64 n)
        | _ => none)
      | _ => none
    | _ => none
  | .convert src dst x => match tConv P src dst with
    | some c => pConv c (aEval T x) H
    | none => none
  | .makeSlice t l c => match P.underlying t with
    | some (.slice e) => (match tZ P e with
      | some z => (match tBytes P e with
        | some by_ => pMakeSl z by_ (aEval T l) (aEval T c)
        | none => none)
      | none => none)
    | _ => none
  | _ => none

/-- A call of a function value. -/
def pCallV (call : Oracle) (g : V) (args : List V) (H : Hp) : Option (V × Hp) :=
  match g with
  | .fn g first captured => call g (first ++ args ++ captured) H
  | _ => none

/-- Operations that may turn the heap. -/
def aEff (P : Program) (pol : Pol) (call : Oracle) (f : FuncId) (D : Nat) (o : Oper) (T : List V) (H : Hp) : Option (V × Hp) :=
  match o.op with
  | .store t a x => match tSize P t with
    | some n => pStore n (aEval T a) (aEval T x) H
    | none => none
  | .alloc t => match tZero P t with
    | some z => pAlloc (place pol f D) z.cells H
    | none => none
  | .box _ x => pBox (place pol f D) (aEval T x) H
  | .makeMap t r => match r with
    | none => pMakeMap (place pol f D) H
    | some x => match P.underlying t with
      | some (.map _ _) => (match aEval T x with
        | .int _ _ => pMakeMap (place pol f D) H
        | _ => none)
      | _ => none
  | .mapUpdate t m k v => match tMap P t with
    | some (kk, _) => pMapPut kk (aEval T m) (aEval T k) (aEval T v) H
    | none => none
  | .convert src dst x => match tConv P src dst with
    | some c => pConvOwn (place pol f D) c (aEval T x) H
    | none => none
  | .makeSlice t l c => match P.underlying t with
    | some (.slice e) => (match tZ P e with
      | some z => (match tBytes P e with
        | some by_ => pMakeSlOwn (place pol f D) z by_ (aEval T l) (aEval T c) H
        | none => none)
      | none => none)
    | _ => none
  | .call { callee := .builtin .append, args, argTypes } => match args.toList with
    | [x, y] => match argTypes.toList with
      | [t, u] => (match tElem P t with
        | some (s, by_) => (match P.underlying u with
          | some (.slice e) => (match tSize P e with
            | some s' => (match decide (s' = s) with
              | true => pAppend (pol.own f) (place pol f D) D s by_ false (aEval T x) (aEval T y) H
              | false => none)
            | none => none)
          | some .string => pAppend (pol.own f) (place pol f D) D s by_ true (aEval T x) (aEval T y) H
          | _ => none)
        | none => none)
      | _ => none
    | _ => none
  | .call { callee := .builtin .delete, args, argTypes } => match args.toList with
    | [m, k] => match argTypes.toList with
      | t :: _ => (match tMap P t with
        | some (kk, _) => pMapDel kk (aEval T m) (aEval T k) H
        | none => none)
      | _ => none
    | _ => none
  | .call { callee := .value g, args, .. } => pCallV call (aEval T g) (args.toList.map (aEval T)) H
  | _ => none

/-! ### The ways of the walk: named, so that printed functions meet them as they are -/

def ob {α β : Type} (o : Option α) (k : α → Option β) : Option β :=
  match o with
  | some a => k a
  | none => none
def ob2 {β : Type} (o : Option (V × Hp)) (k : V → Hp → Option β) : Option β :=
  match o with
  | some p => k p.1 p.2
  | none => none
def ifB {β : Type} (v : V) (a b : Option β) : Option β :=
  match v with
  | .bool true => a
  | .bool false => b
  | _ => none
def ifT {β : Type} (b : Bool) (a : Option β) : Option β :=
  match b with
  | true => a
  | false => none
/-- An operation that is done only if another one told so. -/
def cond1 (g : V) (want : Bool) (o : Option V) : Option V :=
  match g with
  | .bool b => (match (b == want) with
    | true => o
    | false => some .undef)
  | .undef => some .undef
  | _ => none
def cond2 (g : V) (want : Bool) (H : Hp) (o : Option (V × Hp)) : Option (V × Hp) :=
  match g with
  | .bool b => (match (b == want) with
    | true => o
    | false => some (.undef, H))
  | .undef => some (.undef, H)
  | _ => none

inductive Kind where
  | val | read | alloc | eff
  deriving DecidableEq

/-- Of which kind an operation is. 'own': what the function makes may be written. -/
def kindOf (own : Bool) (o : Op) : Kind :=
  match o with
  | .load .. | .lookup .. | .call { callee := .builtin .len, .. } => .read
  | .convert .. | .makeSlice .. => if own then .eff else .read
  | .alloc _ => .alloc
  | .store .. | .box .. | .makeMap .. | .mapUpdate .. => .eff
  | .call { callee := .builtin .max, .. } | .call { callee := .builtin .min, .. } => .val
  | .call _ => .eff
  | .move _ | .assign _ | .pick .. | .build .. | .buildSlice .. | .nilCheck _ | .binOp .. | .unOp .. | .makeFunc .. | .slice .. | .fieldAddr ..
  | .field .. | .indexAddr .. | .index .. | .extract .. => .val
  | _ => .eff

/-- The temporary in which the guard's answer stands: none: no guard; some none: a guard that never answers. -/
def guardOf (ops : Array Oper) (o : Oper) : Option (Option (Tmp × Bool)) :=
  match o.guard with
  | none => none
  | some (j, want) => match (ops[j]?).bind (·.dst) with
    | none => some none
    | some t => some (some (t, want))

def gVal (P : Program) (ops : Array Oper) (o : Oper) (T : List V) : Option V :=
  match guardOf ops o with
  | none => aVal P o T
  | some none => some .undef
  | some (some (t, want)) => cond1 (nth T t) want (aVal P o T)
def gRead (P : Program) (ops : Array Oper) (o : Oper) (T : List V) (H : Hp) : Option V :=
  match guardOf ops o with
  | none => aRead P o T H
  | some none => some .undef
  | some (some (t, want)) => cond1 (nth T t) want (aRead P o T H)
def gEff (P : Program) (pol : Pol) (call : Oracle) (f : FuncId) (D : Nat) (ops : Array Oper) (o : Oper) (T : List V) (H : Hp) : Option (V × Hp) :=
  match guardOf ops o with
  | none => aEff P pol call f D o T H
  | some none => some (.undef, H)
  | some (some (t, want)) => cond2 (nth T t) want H (aEff P pol call f D o T H)

def aSeq {β : Type} (P : Program) (pol : Pol) (call : Oracle) (f : FuncId) (D : Nat) (ops : Array Oper) (K : List V → Hp → Option β) :
    List Oper → List V → Hp → Option β
  | [], T, H => K T H
  | o :: os, T, H =>
    match kindOf (pol.own f) o.op with
    | .val => ob (gVal P ops o T) fun v => aSeq P pol call f D ops K os (put T o.dst v) H
    | .read => ob (gRead P ops o T H) fun v => aSeq P pol call f D ops K os (put T o.dst v) H
    | _ => ob2 (gEff P pol call f D ops o T H) fun v H' => aSeq P pol call f D ops K os (put T o.dst v) H'

/-! ### Regions that draw their order -/

def bef1 (acc : List Nat) : List Edge → Nat
  | [] => 0
  | e :: es => if Region.binds .any e then (2 ^ e.on ||| acc.getD e.on 0) ||| bef1 acc es else bef1 acc es
def befs : List Nat → List Oper → List Nat
  | acc, [] => acc
  | acc, o :: os => befs (acc ++ [bef1 acc o.after.toList]) os

def tmpsOf (ops : Array Oper) (o : Oper) : List Tmp :=
  (o.op.operands.toList.filterMap fun | .tmp t => some t | _ => none) ++
  (match o.guard with
   | some (g, _) => ((ops[g]?).bind (·.dst)).toList
   | none => [])

/-- What the order's freedom asks of a region: arrows lead back; what turns the heap stands in a row; whoever writes a temporary stands in a row with all that touch it. -/
def drawOK (own : Bool) (ops : Array Oper) (bs : List Nat) : Bool :=
  let ol := ops.toList.zipIdx
  (ol.all fun (o, i) => o.after.toList.all fun e => !Region.binds .any e || decide (e.on < i)) &&
  (ol.all fun (o, j) => ol.all fun (o', i) =>
    !(decide (i < j)) || (
      (!(kindOf own o.op = .eff && kindOf own o'.op = .eff) || (bs.getD j 0).testBit i) &&
      ((match o.dst with
        | some t => !(o'.dst == some t || (tmpsOf ops o').contains t) || (bs.getD j 0).testBit i
        | none => true) &&
       (match o'.dst with
        | some t => !((tmpsOf ops o).contains t) || (bs.getD j 0).testBit i
        | none => true))))

/-- Of an operation that reads: what it read, at which state, and from which state to which it may be done. -/
structure Rec where
  o : Oper
  E : List V
  v : V
  at_ : Nat
  lo : Nat
  hi : Nat

mutual
def eqV : V → V → Bool
  | .undef, .undef => true
  | .unk, .unk => true
  | .bool a, .bool b => a == b
  | .int k a, .int k' b => decide (k = k') && decide (a = b)
  | .str a, .str b => decide (a = b)
  | .nilp, .nilp => true
  | .ptr d i o, .ptr d' i' o' => d == d' && i == i' && o == o'
  | .imm a, .imm b => eqL a b
  | .sl n a t, .sl n' b t' => n == n' && decide (t = t') && eqL a b
  | .sref d i o l s, .sref d' i' o' l' s' => d == d' && i == i' && o == o' && l == l' && s == s'
  | .nilm, .nilm => true
  | .mapr d i, .mapr d' i' => d == d' && i == i'
  | .nilf, .nilf => true
  | .fn f a b, .fn f' a' b' => f == f' && eqL a a' && eqL b b'
  | .agg a, .agg b => eqL a b
  | .tup a, .tup b => eqL a b
  | _, _ => false
def eqL : List V → List V → Bool
  | [], [] => true
  | a :: us, b :: ws => eqV a b && eqL us ws
  | _, _ => false
end
def eqO (o : Option V) (v : V) : Bool :=
  match o with
  | some u => eqV u v
  | none => false
def eqObj (o : Option AO) (z : List V) : Bool :=
  match o with
  | some (.cells cs) => eqL cs z
  | _ => false

/-- What is alloc'ed in a region that draws is made ahead of it. -/
def aHoist {β : Type} (P : Program) (d : Nat) (K : Hp → Option β) : List Oper → Hp → Option β
  | [], H => K H
  | o :: os, H =>
    match o.op with
    | .alloc t => match tZero P t with
      | some z => ob (H.newObj d (.cells z.cells)) fun p => aHoist P d K os p.2
      | none => none
    | _ => aHoist P d K os H

def countOf (p : Nat → Oper → Bool) : Nat → List Oper → Nat
  | _, [] => 0
  | i, o :: os => (match p i o with | true => 1 | false => 0) + countOf p (i + 1) os
def loOf (own : Bool) (ops : Array Oper) (bs : List Nat) (i : Nat) : Nat :=
  countOf (fun j o => (kindOf own o.op == .eff) && (bs.getD i 0).testBit j) 0 ops.toList
def hiOf (own : Bool) (ops : Array Oper) (bs : List Nat) (i : Nat) : Nat :=
  countOf (fun j o => (kindOf own o.op == .eff) && !(bs.getD j 0).testBit i) 0 ops.toList

/-- Does an operation that reads read the same in a state? -/
def aSame (P : Program) (ops : Array Oper) (r : Rec) (H : Hp) : Bool :=
  match r.o.op with
  | .alloc t => match r.v with
    | .ptr d i _ => (match tZero P t with
      | some z => eqObj (H.obj d i) z.cells
      | none => false)
    | _ => false
  | _ => eqO (gRead P ops r.o r.E H) r.v

/-- The states (the oldest first; k: the number of the next) in which an operation may be done beside the one in which it was. -/
def chk1 {β : Type} (P : Program) (ops : Array Oper) (r : Rec) (K : Option β) : Nat → List Hp → Option β
  | _, [] => K
  | k, S :: Ss =>
    match (decide (r.lo ≤ k) && decide (k ≤ r.hi)) && !(decide (k = r.at_)) with
    | true => ifT (aSame P ops r S) (chk1 P ops r K (k + 1) Ss)
    | false => chk1 P ops r K (k + 1) Ss
def chks {β : Type} (P : Program) (ops : Array Oper) (Ss : List Hp) (K : Option β) : List Rec → Option β
  | [] => K
  | r :: rs => chk1 P ops r (chks P ops Ss K rs) 0 Ss

def objCount (H : Hp) (d : Nat) : Nat :=
  match H.fr d with
  | some f => f.objs.length
  | none => 0

/-- In the order of the text. 'a': how many objects that were made ahead are in use; 'Ss': the states so far, the oldest first; 'Rs': what was read. -/
def aDrawGo {β : Type} (P : Program) (pol : Pol) (call : Oracle) (f : FuncId) (D : Nat) (ops : Array Oper) (bs : List Nat) (base : Nat) (K : List V → Hp → Option β) :
    Nat → Nat → List Oper → List V → Hp → List Hp → List Rec → Option β
  | _, _, [], T, H, Ss, Rs => chks P ops Ss (K T H) Rs
  | i, a, o :: os, T, H, Ss, Rs =>
    match kindOf (pol.own f) o.op with
    | .val => ob (gVal P ops o T) fun v => aDrawGo P pol call f D ops bs base K (i + 1) a os (put T o.dst v) H Ss Rs
    | .read => ob (gRead P ops o T H) fun v => aDrawGo P pol call f D ops bs base K (i + 1) a os (put T o.dst v) H Ss
        (⟨o, T, v, Ss.length - 1, loOf (pol.own f) ops bs i, hiOf (pol.own f) ops bs i⟩ :: Rs)
    | .alloc => match o.guard with
      | some _ => none
      | none => aDrawGo P pol call f D ops bs base K (i + 1) (a + 1) os (put T o.dst (.ptr (place pol f D) (base + a) 0)) H Ss
        (⟨o, T, .ptr (place pol f D) (base + a) 0, ops.size + 1, loOf (pol.own f) ops bs i, hiOf (pol.own f) ops bs i⟩ :: Rs)
    | .eff => ob2 (gEff P pol call f D ops o T H) fun v H' => aDrawGo P pol call f D ops bs base K (i + 1) a os (put T o.dst v) H' (Ss ++ [H']) Rs

def aDraw {β : Type} (P : Program) (pol : Pol) (call : Oracle) (f : FuncId) (D : Nat) (ops : Array Oper) (K : List V → Hp → Option β) (T : List V) (H : Hp) : Option β :=
  match drawOK (pol.own f) ops (befs [] ops.toList) with
  | true => aHoist P (place pol f D) (fun H0 =>
      aDrawGo P pol call f D ops (befs [] ops.toList) (objCount H (place pol f D)) K 0 0 ops.toList T H0 [H0] []) ops.toList H
  | false => none

/-! ### Code -/

inductive AX where
  | normal
  | exit (id : Nat)
  | ret

abbrev Kont (β : Type) := AX → List V → Hp → Option β

/-- Rounds: 'body' is handed what follows a round. -/
def aLoop {β : Type} (body : (List V → Hp → Option β) → List V → Hp → Option β) : Nat → List V → Hp → Option β
  | 0, _, _ => none
  | n + 1, xs, H => body (aLoop body n) xs H

def inBlock {β : Type} (id : Nat) (K : Kont β) : Kont β := fun ax T H =>
  match ax with
  | .normal => K .normal T H
  | .ret => K .ret T H
  | .exit id' => match decide (id' = id) with
    | true => K .normal T H
    | false => K (.exit id') T H

def thenK {β : Type} (K : Kont β) (k : List V → Hp → Option β) : Kont β := fun ax T H =>
  match ax with
  | .normal => k T H
  | .ret => K .ret T H
  | .exit id => K (.exit id) T H

def aCode {β : Type} (P : Program) (pol : Pol) (call : Oracle) (f : FuncId) (D n : Nat) : Code → Nat → Kont β → List V → Hp → Option β
  | .skip, _, K, T, H => K .normal T H
  | .label _, _, K, T, H => K .normal T H
  | .region _ ops draw, _, K, T, H =>
    match draw with
    | true => aDraw P pol call f D ops (K .normal) T H
    | false => aSeq P pol call f D ops (K .normal) ops.toList T H
  | .seq a b, bid, K, T, H => aCode P pol call f D n a bid (thenK K (aCode P pol call f D n b bid K)) T H
  | .cond c a b, bid, K, T, H => ifB (aEval T c) (aCode P pol call f D n a bid K T H) (aCode P pol call f D n b bid K T H)
  | .block id c, _, K, T, H => aCode P pol call f D n c id (inBlock id K) T H
  | .loop c, bid, K, T, H => aLoop (fun k T H => aCode P pol call f D n c bid (thenK K k) T H) n T H
  | .exit id, _, K, T, H => K (.exit id) T H
  | .ret, _, K, T, H => K .ret T H
  | _, _, _, _, _ => none

def aResult (P : Program) (T : List V) (H : Hp) : ResultVar → Option V
  | .tmp t => some (nth T t)
  | .cell a t => match tAgg P t with
    | some b => match tSize P t with
      | some n => aLoad b n (nth T a) H
      | none => none
    | none => none
def aResults {β : Type} (P : Program) (T : List V) (H : Hp) (K : List V → Option β) : List ResultVar → Option β
  | [] => K []
  | r :: rs => ob (aResult P T H r) fun v => aResults P T H (fun vs => K (v :: vs)) rs
def tupled : List V → V
  | [v] => v
  | vs => .tup vs

/-- Slices that the frame above D made, and may write, are written no more. -/
def freezeC (D : Nat) (H : Hp) (v : V) : Option V :=
  match v with
  | .sref d i off len s =>
    if d ≤ D then some (.sref d i off len s) else
    match H.obj d i with
    | some (.cells cs) => if off + len * s ≤ cs.length then
        (match fitL 0 ((cs.drop off).take (len * s)) with
        | some ys => some (.sl len ys .dead)
        | none => none) else none
    | _ => none
  | v => some v
def freezeL (D : Nat) (H : Hp) : List V → Option (List V)
  | [] => some []
  | v :: vs => match freezeC D H v with
    | some v' => match freezeL D H vs with
      | some vs' => some (v' :: vs')
      | none => none
    | none => none
def freezeA (D : Nat) (H : Hp) (v : V) : Option V :=
  match v with
  | .agg cs => match freezeL D H cs with
    | some cs' => some (.agg cs')
    | none => none
  | v => freezeC D H v
def freezeAs (D : Nat) (H : Hp) : List V → Option (List V)
  | [] => some []
  | v :: vs => match freezeA D H v with
    | some v' => match freezeAs D H vs with
      | some vs' => some (v' :: vs')
      | none => none
    | none => none

def aPush (H : Hp) : Hp := { H with stk := Fr.empty :: H.stk }
def aPop (H : Hp) : Hp := { H with stk := H.stk.tail }

/-- A function is left: its results, for a caller of depth D. -/
def leave (keep : Bool) (D : Nat) (vs : List V) (H : Hp) : Option (V × Hp) :=
  match freezeAs D H vs with
  | some vs' => match fitV D (tupled vs') with
    | some v => some (match keep with | true => v | false => eraseV v, aPop H)
    | none => none
  | none => none

def aLeave (P : Program) (keep : Bool) (rs : List ResultVar) (D : Nat) : Kont (V × Hp) := fun ax T H =>
  match ax with
  | .exit _ => none
  | .normal => aResults P T H (fun vs => leave keep D vs H) rs
  | .ret => aResults P T H (fun vs => leave keep D vs H) rs

/-- What a function does, its callees by an oracle. -/
def aBody (P : Program) (pol : Pol) (call : Oracle) (n : Nat) (g : FuncId) (args : List V) (H : Hp) : Option (V × Hp) :=
  match P.funcs[g]? with
  | none => none
  | some fn =>
    match fn.body with
    | none => none
    | some c => aCode P pol call g (H.depth + 1) n c 0 (aLeave P (pol.keep g) fn.results.toList H.depth)
        (args ++ List.replicate (fn.ntmps - args.length) .undef) (aPush H)

def acall (P : Program) (pol : Pol) : Nat → Oracle
  | 0 => fun _ _ _ => none
  | n + 1 => fun g args H =>
    match pol.prim g with
    | some pr => pr args H
    | none => aBody P pol (acall P pol n) n g args H

end Go.Abs
