/- The code with its types looked up, temporaries in a tree: definitions. -/
import Derived.Test.YtokjbfjkmboehaaGreatAbsB
set_option linter.unusedVariables false
namespace Go.Abs

inductive Pth where
  | z
  | l (p : Pth)
  | r (p : Pth)
  deriving DecidableEq
inductive TT where
  | nil
  | lf (v : V)
  | nd (a b : TT)

noncomputable def TT.get (p : Pth) : TT → V :=
  Pth.rec (motive := fun _ => TT → V) (fun t => TT.rec (motive := fun _ => V) .undef (fun v => v) (fun _ _ _ _ => .undef) t)
    (fun _ ih t => TT.rec (motive := fun _ => V) .undef (fun _ => .undef) (fun a _ _ _ => ih a) t)
    (fun _ ih t => TT.rec (motive := fun _ => V) .undef (fun _ => .undef) (fun _ b _ _ => ih b) t) p
noncomputable def TT.put (p : Pth) : V → TT → TT :=
  Pth.rec (motive := fun _ => V → TT → TT) (fun v _ => .lf v)
    (fun _ ih v t => TT.rec (motive := fun _ => TT) .nil (fun u => .lf u) (fun a b _ _ => .nd (ih v a) b) t)
    (fun _ ih v t => TT.rec (motive := fun _ => TT) .nil (fun u => .lf u) (fun a b _ _ => .nd a (ih v b)) t) p

def pth : Nat → Nat → Pth
  | 0, _ => .z
  | d + 1, i => match Nat.blt i (2 ^ d) with
    | true => .l (pth d i)
    | false => .r (pth d (i - 2 ^ d))
def mkF : Nat → Nat → (Nat → V) → TT
  | 0, off, f => .lf (f off)
  | d + 1, off, f => .nd (mkF d off f) (mkF d (off + 2 ^ d) f)
/-- The tree of a list of temporaries. -/
def mkT (d : Nat) (T : List V) : TT := mkF d 0 (nth T)

theorem get_mkF : ∀ (d i off : Nat) (f : Nat → V), i < 2 ^ d → TT.get (pth d i) (mkF d off f) = f (off + i)
  | 0, i, off, f, h => by
    have : i = 0 := by simpa using h
    subst this; rfl
  | d + 1, i, off, f, h => by
    simp only [pth]
    split
    · rename_i hb
      have hlt : i < 2 ^ d := by simpa [Nat.blt_eq] using hb
      exact get_mkF d i off f hlt
    · rename_i hb
      have hge : ¬ i < 2 ^ d := by
        intro hlt
        have : Nat.blt i (2 ^ d) = true := by simpa [Nat.blt_eq] using hlt
        rw [this] at hb; cases hb
      have := get_mkF d (i - 2 ^ d) (off + 2 ^ d) f (by rw [Nat.pow_succ] at h; omega)
      rw [show off + 2 ^ d + (i - 2 ^ d) = off + i by omega] at this
      exact this
theorem mkF_congr : ∀ (d off : Nat) {f g : Nat → V}, (∀ j, off ≤ j → j < off + 2 ^ d → f j = g j) → mkF d off f = mkF d off g
  | 0, off, f, g, h => by simp only [mkF]; rw [h off (Nat.le_refl _) (by simp)]
  | d + 1, off, f, g, h => by
    have hp : 2 ^ (d + 1) = 2 ^ d + 2 ^ d := by rw [Nat.pow_succ]; omega
    simp only [mkF]
    rw [mkF_congr d off (fun j h1 h2 => h j h1 (by omega)), mkF_congr d (off + 2 ^ d) (fun j h1 h2 => h j (by omega) (by omega))]
theorem put_mkF (v : V) : ∀ (d i off : Nat) (f : Nat → V), i < 2 ^ d → TT.put (pth d i) v (mkF d off f) = mkF d off (fun j => if j = off + i then v else f j)
  | 0, i, off, f, h => by
    have : i = 0 := by simpa using h
    subst this
    simp [pth, mkF, TT.put]
  | d + 1, i, off, f, h => by
    have hp : 2 ^ (d + 1) = 2 ^ d + 2 ^ d := by rw [Nat.pow_succ]; omega
    simp only [pth]
    split
    · rename_i hb
      have hlt : i < 2 ^ d := by simpa [Nat.blt_eq] using hb
      have ih := put_mkF v d i off f hlt
      simp only [mkF]
      show TT.nd (TT.put (pth d i) v (mkF d off f)) (mkF d (off + 2 ^ d) f) = _
      rw [ih]
      congr 1
      exact mkF_congr d _ (fun j h1 h2 => by rw [if_neg (by omega)])
    · rename_i hb
      have hge : ¬ i < 2 ^ d := by
        intro hlt
        have : Nat.blt i (2 ^ d) = true := by simpa [Nat.blt_eq] using hlt
        rw [this] at hb; cases hb
      have ih := put_mkF v d (i - 2 ^ d) (off + 2 ^ d) f (by omega)
      simp only [mkF]
      show TT.nd (mkF d off f) (TT.put (pth d (i - 2 ^ d)) v (mkF d (off + 2 ^ d) f)) = _
      rw [ih, show off + 2 ^ d + (i - 2 ^ d) = off + i by omega]
      congr 1
      exact mkF_congr d _ (fun j h1 h2 => by rw [if_neg (by omega)])

theorem nth_upd : ∀ (T : List V) (i j : Nat) (v : V), i < T.length → nth (upd T i v) j = if j = i then v else nth T j
  | [], _, _, _, h => by simp at h
  | u :: T, 0, 0, v, _ => rfl
  | u :: T, 0, j + 1, v, _ => rfl
  | u :: T, i + 1, 0, v, _ => rfl
  | u :: T, i + 1, j + 1, v, h => by
    have := nth_upd T i j v (by simpa using h)
    simpa [upd, nth] using this
theorem upd_len : ∀ (T : List V) (i : Nat) (v : V), (upd T i v).length = T.length
  | [], _, _ => rfl
  | _ :: T, 0, _ => rfl
  | _ :: T, i + 1, v => by simp [upd, upd_len T i v]
theorem get_mkT {d i : Nat} {T : List V} (h : i < 2 ^ d) : TT.get (pth d i) (mkT d T) = nth T i := by
  unfold mkT; rw [get_mkF d i 0 _ h, Nat.zero_add]
theorem put_mkT {d i : Nat} {T : List V} {v : V} (h : i < 2 ^ d) (hl : i < T.length) : TT.put (pth d i) v (mkT d T) = mkT d (upd T i v) := by
  unfold mkT
  rw [put_mkF v d i 0 _ h]
  refine mkF_congr d 0 (fun j _ _ => ?_)
  rw [nth_upd T i j v hl, Nat.zero_add]

/-! ### Operations with their types looked up -/

inductive Opd where
  | t (p : Pth)
  | c (v : V)
noncomputable def Opd.ev (x : Opd) (T : TT) : V := Opd.rec (motive := fun _ => V) (fun p => TT.get p T) (fun v => v) x

inductive RO where
  | mv (x : Opd)
  | pick (c a b : Opd)
  | build (z : List V) (ps : List (Nat × Nat × Opd))
  | buildSl (len : Nat) (z : List V) (ps : List (Nat × Nat × Opd))
  | nilc (x : Opd)
  | eq (k : EK) (x y : Opd)
  | ne (k : EK) (x y : Opd)
  | bin (op : BinOp) (x y : Opd)
  | un (op : UnOp) (x : Opd)
  | fn (f : FuncId) (a b : List Opd)
  | sliceS (x : Opd) (lo hi : Option Opd)
  | slice (s : Nat) (x : Opd) (lo hi mx : Option Opd)
  | faddr (off n : Nat) (x : Opd)
  | field (off n : Nat) (b : Bool) (x : Opd)
  | ixSl (s : Nat) (x i : Opd)
  | ixArr (n s : Nat) (x i : Opd)
  | ixStr (x i : Opd)
  | ixAgg (n s : Nat) (b : Bool) (x i : Opd)
  | extr (x : Opd) (i : Nat)
  | max (x y : Opd)
  | min (x y : Opd)
  | load (b : Bool) (n : Nat) (a : Opd)
  | look (kk : KK) (z : V) (m k : Opd) (ok : Bool)
  | len (k : LK) (x : Opd)
  | lenc (n : Nat)
  | conv (c : CK) (x : Opd)
  | mkSl (z : List V) (by_ : Nat) (l c : Opd)
  | store (n : Nat) (a x : Opd)
  | alloc (z : List V)
  | box (x : Opd)
  | mkMap
  | mkMapN (x : Opd)
  | mput (kk : KK) (m k v : Opd)
  | convO (c : CK) (x : Opd)
  | mkSlO (z : List V) (by_ : Nat) (l c : Opd)
  | app (s by_ : Nat) (isStr : Bool) (x y : Opd)
  | del (kk : KK) (m k : Opd)
  | call (f : Opd) (args : List Opd)
  /-- one that never answers -/
  | bad

noncomputable def evs (T : TT) (l : List Opd) : List V := List.rec (motive := fun _ => List V) [] (fun x _ ih => x.ev T :: ih) l
noncomputable def evp (T : TT) (l : List (Nat × Nat × Opd)) : List (Nat × Nat × V) := List.rec (motive := fun _ => List (Nat × Nat × V)) [] (fun x _ ih => (x.1, x.2.1, x.2.2.ev T) :: ih) l
noncomputable def evo (T : TT) (o : Option Opd) : Option V := Option.rec (motive := fun _ => Option V) none (fun x => some (x.ev T)) o

/-- Where a function runs. -/
structure Env where
  own : Bool
  place : Nat
  D : Nat

/-- An operation's answer, and the heap behind it. -/
noncomputable def RO.run (call : Oracle) (e : Env) (o : RO) (T : TT) (H : Hp) : Option (V × Hp) :=
  let v (x : Option V) : Option (V × Hp) := Option.rec (motive := fun _ => Option (V × Hp)) none (fun x => some (x, H)) x
  match o with
  | .mv x => some (x.ev T, H)
  | .pick c a b => v (pPick (c.ev T) (a.ev T) (b.ev T))
  | .build z ps => v (pBuild z (evp T ps))
  | .buildSl ln z ps => v (pBuildSl ln z (evp T ps))
  | .nilc x => v (pNil (x.ev T))
  | .eq k x y => v (pEq k (x.ev T) (y.ev T))
  | .ne k x y => v (pNe k (x.ev T) (y.ev T))
  | .bin op x y => v (aBin op (x.ev T) (y.ev T))
  | .un op x => v (aUn op (x.ev T))
  | .fn f a b => some (.fn f (evs T a) (evs T b), H)
  | .sliceS x lo hi => v (pSliceStr (x.ev T) (evo T lo) (evo T hi))
  | .slice s x lo hi mx => v (aSlice s (x.ev T) (evo T lo) (evo T hi) (evo T mx))
  | .faddr off n x => v (aFieldAddr off n (x.ev T))
  | .field off n b x => v (aField off n b (x.ev T))
  | .ixSl s x i => v (aIndexSl s (x.ev T) (i.ev T))
  | .ixArr n s x i => v (aIndexArr n s (x.ev T) (i.ev T))
  | .ixStr x i => v (aIndexStr (x.ev T) (i.ev T))
  | .ixAgg n s b x i => v (pIndexAgg n s b (x.ev T) (i.ev T))
  | .extr x i => v (pExtract (x.ev T) i)
  | .max x y => v (pMax (x.ev T) (y.ev T))
  | .min x y => v (pMin (x.ev T) (y.ev T))
  | .load b n a => v (aLoad b n (a.ev T) H)
  | .look kk z m k ok => v (pLookup kk z (m.ev T) (k.ev T) ok H)
  | .len k x => v (pLen k (x.ev T) H)
  | .lenc n => some (.int .i64 n, H)
  | .conv c x => v (pConv c (x.ev T) H)
  | .mkSl z b l c => v (pMakeSl z b (l.ev T) (c.ev T))
  | .store n a x => pStore n (a.ev T) (x.ev T) H
  | .alloc z => pAlloc e.place z H
  | .box x => pBox e.place (x.ev T) H
  | .mkMap => pMakeMap e.place H
  | .mkMapN x => match x.ev T with
    | .int _ _ => pMakeMap e.place H
    | _ => none
  | .mput kk m k x => pMapPut kk (m.ev T) (k.ev T) (x.ev T) H
  | .convO c x => pConvOwn e.place c (x.ev T) H
  | .mkSlO z b l c => pMakeSlOwn e.place z b (l.ev T) (c.ev T) H
  | .app s b isStr x y => pAppend e.own e.place e.D s b isStr (x.ev T) (y.ev T) H
  | .del kk m k => pMapDel kk (m.ev T) (k.ev T) H
  | .call f args => pCallV call (f.ev T) (evs T args) H
  | .bad => none

/-! ### Looking up -/

def rOpd (d : Nat) : Operand → Option Opd
  | .tmp t => match Nat.blt t (2 ^ d) with
    | true => some (.t (pth d t))
    | false => none
  | .const v => some (.c (ofConst v))
  | .global _ => some (.c .unk)
  | .func f => some (.c (.fn f [] []))
def rOpds (d : Nat) : List Operand → Option (List Opd)
  | [] => some []
  | x :: xs => match rOpd d x with
    | some y => match rOpds d xs with
      | some ys => some (y :: ys)
      | none => none
    | none => none
def rPs (d : Nat) : List (Nat × Nat × Operand) → Option (List (Nat × Nat × Opd))
  | [] => some []
  | (a, b, x) :: xs => match rOpd d x with
    | some y => match rPs d xs with
      | some ys => some ((a, b, y) :: ys)
      | none => none
    | none => none
def rOpt (d : Nat) : Option Operand → Option (Option Opd)
  | none => some none
  | some x => match rOpd d x with
    | some y => some (some y)
    | none => none

def o1 {α : Type} (a : Option Opd) (k : Opd → α) : Option α :=
  match a with
  | some x => some (k x)
  | none => none
def o2 {α : Type} (a b : Option Opd) (k : Opd → Opd → α) : Option α :=
  match a with
  | some x => match b with
    | some y => some (k x y)
    | none => none
  | none => none
def o3 {α : Type} (a b c : Option Opd) (k : Opd → Opd → Opd → α) : Option α :=
  match a with
  | some x => match b with
    | some y => match c with
      | some z => some (k x y z)
      | none => none
    | none => none
  | none => none

/-- An operation of kind 'val' or 'read'. -/
def rVal (P : Program) (d : Nat) (o : Op) : Option RO :=
  match o with
  | .move x => o1 (rOpd d x) .mv
  | .assign x => o1 (rOpd d x) .mv
  | .pick c a b => o3 (rOpd d c) (rOpd d a) (rOpd d b) .pick
  | .build t parts => match tFields P t with
    | true => (match tZero P t with
      | some z => (match tPlaces P t parts.toList with
        | some ps => (match rPs d ps with
          | some qs => some (.build z.cells qs)
          | none => none)
        | none => some .bad)
      | none => some .bad)
    | false => some .bad
  | .buildSlice t len parts => match P.underlying t with
    | some (.slice e) => match tZ P e with
      | some z => match tPlaces P t parts.toList with
        | some ps => (match decide (len * z.length ≤ 16777216) with
          | true => (match rPs d ps with
            | some qs => some (.buildSl len z qs)
            | none => none)
          | false => some .bad)
        | none => some .bad
      | none => some .bad
    | _ => some .bad
  | .nilCheck x => o1 (rOpd d x) .nilc
  | .binOp op t x y _ =>
    match op with
    | .eql => match tEq P t with
      | some k => o2 (rOpd d x) (rOpd d y) (.eq k)
      | none => some .bad
    | .neq => match tEq P t with
      | some k => o2 (rOpd d x) (rOpd d y) (.ne k)
      | none => some .bad
    | op => o2 (rOpd d x) (rOpd d y) (.bin op)
  | .unOp op _ x => o1 (rOpd d x) (.un op)
  | .makeFunc (.func f) first captured => match rOpds d first.toList with
    | some a => match rOpds d captured.toList with
      | some b => some (.fn f a b)
      | none => none
    | none => none
  | .slice t x lo hi mx => match rOpd d x with
    | some x => match rOpt d lo with
      | some lo => match rOpt d hi with
        | some hi => match rOpt d mx with
          | some mx => (match P.underlying t with
            | some .string => (match mx with
              | none => some (.sliceS x lo hi)
              | some _ => some .bad)
            | some (.slice e) => (match tSize P e with
              | some s => some (.slice s x lo hi mx)
              | none => some .bad)
            | _ => some .bad)
          | none => none
        | none => none
      | none => none
    | none => none
  | .fieldAddr t x f => match tField P t f with
    | some (off, n, _) => o1 (rOpd d x) (.faddr off n)
    | none => some .bad
  | .field t x f => match tField P t f with
    | some (off, n, b) => o1 (rOpd d x) (.field off n b)
    | none => some .bad
  | .indexAddr t x ix => match P.underlying t with
    | some (.slice e) => (match tSize P e with
      | some s => o2 (rOpd d x) (rOpd d ix) (.ixSl s)
      | none => some .bad)
    | some (.array n e) => (match tSize P e with
      | some s => o2 (rOpd d x) (rOpd d ix) (.ixArr n s)
      | none => some .bad)
    | _ => some .bad
  | .index t x ix => match P.underlying t with
    | some .string => o2 (rOpd d x) (rOpd d ix) .ixStr
    | some (.array n e) => (match tSize P e with
      | some s => (match tAgg P e with
        | some b => o2 (rOpd d x) (rOpd d ix) (.ixAgg n s b)
        | none => some .bad)
      | none => some .bad)
    | _ => some .bad
  | .extract x ix => o1 (rOpd d x) fun x => .extr x ix
  | .call { callee := .builtin .max, args, .. } => match args.toList with
    | [x, y] => o2 (rOpd d x) (rOpd d y) .max
    | _ => some .bad
  | .call { callee := .builtin .min, args, .. } => match args.toList with
    | [x, y] => o2 (rOpd d x) (rOpd d y) .min
    | _ => some .bad
  | _ => some .bad

def rRead (P : Program) (d : Nat) (o : Op) : Option RO :=
  match o with
  | .load t a => match tAgg P t with
    | some b => match tSize P t with
      | some n => o1 (rOpd d a) (.load b n)
      | none => some .bad
    | none => some .bad
  | .lookup t m k ok => match tMap P t with
    | some (kk, z) => o2 (rOpd d m) (rOpd d k) fun m k => .look kk z m k ok
    | none => some .bad
  | .call { callee := .builtin .len, args, argTypes } => match args.toList with
    | [x] => match argTypes.toList with
      | t :: _ => (match P.underlying t with
        | some .string => o1 (rOpd d x) (.len .str)
        | some (.slice _) => o1 (rOpd d x) (.len .sl)
        | some (.map _ _) => o1 (rOpd d x) (.len .map)
        | some (.array n _) => some (.lenc n)
        | _ => some .bad)
      | _ => some .bad
    | _ => some .bad
  | .convert src dst x => match tConv P src dst with
    | some c => o1 (rOpd d x) (.conv c)
    | none => some .bad
  | .makeSlice t l c => match P.underlying t with
    | some (.slice e) => (match tZ P e with
      | some z => (match tBytes P e with
        | some by_ => o2 (rOpd d l) (rOpd d c) (.mkSl z by_)
        | none => some .bad)
      | none => some .bad)
    | _ => some .bad
  | _ => some .bad

def rEff (P : Program) (d : Nat) (o : Op) : Option RO :=
  match o with
  | .store t a x => match tSize P t with
    | some n => o2 (rOpd d a) (rOpd d x) (.store n)
    | none => some .bad
  | .alloc t => match tZero P t with
    | some z => some (.alloc z.cells)
    | none => some .bad
  | .box _ x => o1 (rOpd d x) .box
  | .makeMap t r => match r with
    | none => some .mkMap
    | some x => match P.underlying t with
      | some (.map _ _) => o1 (rOpd d x) .mkMapN
      | _ => some .bad
  | .mapUpdate t m k v => match tMap P t with
    | some (kk, _) => o3 (rOpd d m) (rOpd d k) (rOpd d v) (.mput kk)
    | none => some .bad
  | .convert src dst x => match tConv P src dst with
    | some c => o1 (rOpd d x) (.convO c)
    | none => some .bad
  | .makeSlice t l c => match P.underlying t with
    | some (.slice e) => (match tZ P e with
      | some z => (match tBytes P e with
        | some by_ => o2 (rOpd d l) (rOpd d c) (.mkSlO z by_)
        | none => some .bad)
      | none => some .bad)
    | _ => some .bad
  | .call { callee := .builtin .append, args, argTypes } => match args.toList with
    | [x, y] => match argTypes.toList with
      | [t, u] => (match tElem P t with
        | some (s, by_) => (match P.underlying u with
          | some (.slice e) => (match tSize P e with
            | some s' => (match decide (s' = s) with
              | true => o2 (rOpd d x) (rOpd d y) (.app s by_ false)
              | false => some .bad)
            | none => some .bad)
          | some .string => o2 (rOpd d x) (rOpd d y) (.app s by_ true)
          | _ => some .bad)
        | none => some .bad)
      | _ => some .bad
    | _ => some .bad
  | .call { callee := .builtin .delete, args, argTypes } => match args.toList with
    | [m, k] => match argTypes.toList with
      | t :: _ => (match tMap P t with
        | some (kk, _) => o2 (rOpd d m) (rOpd d k) (.del kk)
        | none => some .bad)
      | _ => some .bad
    | _ => some .bad
  | .call { callee := .value g, args, .. } => match rOpd d g with
    | some f => match rOpds d args.toList with
      | some l => some (.call f l)
      | none => none
    | none => none
  | _ => some .bad

end Go.Abs
