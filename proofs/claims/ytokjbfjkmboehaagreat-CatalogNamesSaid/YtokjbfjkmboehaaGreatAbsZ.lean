/- The code with its types looked up: regions, code, calls. -/
import Derived.Test.YtokjbfjkmboehaaGreatAbsY
set_option linter.unusedVariables false
set_option linter.unusedSimpArgs false
namespace Go.Abs

inductive Gd where
  | no
  | never
  | on (p : Pth) (want : Bool)
structure RI where
  g : Gd
  o : RO
  dst : Option Pth

noncomputable def putD (p : Option Pth) (v : V) (T : TT) : TT := Option.rec (motive := fun _ => TT) T (fun p => TT.put p v T) p

noncomputable def rI (call : Oracle) (e : Env) (i : RI) (T : TT) (H : Hp) : Option (V × Hp) :=
  match i.g with
  | .no => i.o.run call e T H
  | .never => some (.undef, H)
  | .on p want => cond2 (TT.get p T) want H (i.o.run call e T H)

section
variable {β : Type}

noncomputable def rSeq (call : Oracle) (e : Env) (K : TT → Hp → Option β) (is : List RI) : TT → Hp → Option β :=
  List.rec (motive := fun _ => TT → Hp → Option β) K
    (fun i _ ih T H => Option.rec (motive := fun _ => Option β) none (fun p => ih (putD i.dst p.1 T) p.2) (rI call e i T H)) is

/-- An operation of a region that draws: its kind, and from which state to which it may be done. -/
structure RD where
  i : RI
  k : Kind
  lo : Nat
  hi : Nat
structure RRec where
  r : RD
  E : TT
  v : V
  at_ : Nat

noncomputable def rHoist (d : Nat) (K : Hp → Option β) (zs : List (List V)) : Hp → Option β :=
  List.rec (motive := fun _ => Hp → Option β) K (fun z _ ih H => Option.rec (motive := fun _ => Option β) none (fun p => ih p.2) (H.newObj d (.cells z))) zs

noncomputable def rSame (call : Oracle) (e : Env) (r : RRec) (S : Hp) : Bool :=
  match r.r.k with
  | .alloc => match r.v with
    | .ptr d i _ => (match r.r.i.o with
      | .alloc z => eqObj (S.obj d i) z
      | _ => false)
    | _ => false
  | _ => match rI call e r.r.i r.E S with
    | some p => eqV p.1 r.v
    | none => false

noncomputable def rChk1 (call : Oracle) (e : Env) (r : RRec) (K : Option β) (Ss : List Hp) : Nat → Option β :=
  List.rec (motive := fun _ => Nat → Option β) (fun _ => K)
    (fun S _ ih k => match (Nat.ble r.r.lo k && Nat.ble k r.r.hi) && !(Nat.beq k r.at_) with
      | true => ifT (rSame call e r S) (ih (k + 1))
      | false => ih (k + 1)) Ss
noncomputable def rChks (call : Oracle) (e : Env) (Ss : List Hp) (K : Option β) (rs : List RRec) : Option β :=
  List.rec (motive := fun _ => Option β) K (fun r _ ih => rChk1 call e r ih Ss 0) rs

noncomputable def rDrawGo (call : Oracle) (e : Env) (base far : Nat) (K : TT → Hp → Option β) (rs : List RD) : Nat → Nat → TT → Hp → List Hp → List RRec → Option β :=
  List.rec (motive := fun _ => Nat → Nat → TT → Hp → List Hp → List RRec → Option β) (fun _ _ T H Ss Rs => rChks call e Ss (K T H) Rs)
    (fun r _ ih a n T H Ss Rs => match r.k with
      | .val => Option.rec (motive := fun _ => Option β) none (fun p => ih a n (putD r.i.dst p.1 T) H Ss Rs) (rI call e r.i T H)
      | .read => Option.rec (motive := fun _ => Option β) none (fun p => ih a n (putD r.i.dst p.1 T) H Ss (⟨r, T, p.1, n⟩ :: Rs)) (rI call e r.i T H)
      | .alloc => match r.i.g with
        | .no => ih (a + 1) n (putD r.i.dst (.ptr e.place (base + a) 0) T) H Ss (⟨r, T, .ptr e.place (base + a) 0, far⟩ :: Rs)
        | _ => none
      | .eff => Option.rec (motive := fun _ => Option β) none (fun p => ih a (n + 1) (putD r.i.dst p.1 T) p.2 (Ss ++ [p.2]) Rs) (rI call e r.i T H)) rs

noncomputable def rDraw (call : Oracle) (e : Env) (zs : List (List V)) (far : Nat) (rs : List RD) (K : TT → Hp → Option β) (T : TT) (H : Hp) : Option β :=
  rHoist e.place (fun H0 => rDrawGo call e (objCount H e.place) far K rs 0 0 T H0 [H0] []) zs H

inductive RC where
  | skip
  | reg (is : List RI)
  | draw (zs : List (List V)) (far : Nat) (rs : List RD)
  | seq (a b : RC)
  | cond (c : Opd) (a b : RC)
  | block (id : Nat) (c : RC)
  | loop (c : RC)
  | exit (id : Nat)
  | ret
  | bad

abbrev KT (β : Type) := AX → TT → Hp → Option β

def thenT (K : KT β) (k : TT → Hp → Option β) : KT β := fun ax T H =>
  match ax with
  | .normal => k T H
  | .ret => K .ret T H
  | .exit id => K (.exit id) T H
def inT (id : Nat) (K : KT β) : KT β := fun ax T H =>
  match ax with
  | .normal => K .normal T H
  | .ret => K .ret T H
  | .exit id' => match Nat.beq id' id with
    | true => K .normal T H
    | false => K (.exit id') T H

noncomputable def rLoop (body : (TT → Hp → Option β) → TT → Hp → Option β) (n : Nat) : TT → Hp → Option β :=
  Nat.rec (motive := fun _ => TT → Hp → Option β) (fun _ _ => none) (fun _ ih => body ih) n

noncomputable def rCode (call : Oracle) (e : Env) (n : Nat) (c : RC) : KT β → TT → Hp → Option β :=
  RC.rec (motive := fun _ => KT β → TT → Hp → Option β)
    (fun K => K .normal)
    (fun is K => rSeq call e (K .normal) is)
    (fun zs far rs K => rDraw call e zs far rs (K .normal))
    (fun _ _ iha ihb K => iha (thenT K (ihb K)))
    (fun c _ _ iha ihb K T H => ifB (c.ev T) (iha K T H) (ihb K T H))
    (fun id _ ih K => ih (inT id K))
    (fun _ ih K => rLoop (fun k => ih (thenT K k)) n)
    (fun id K => K (.exit id))
    (fun K => K .ret)
    (fun _ _ _ => none) c

end

/-! ### Looking up -/

def rGd (d : Nat) (ops : Array Oper) (o : Oper) : Option Gd :=
  match guardOf ops o with
  | none => some .no
  | some none => some .never
  | some (some (t, want)) => match Nat.blt t (2 ^ d) with
    | true => some (.on (pth d t) want)
    | false => none
/-- 'nt': how many temporaries there are at least. -/
def rDst (d nt : Nat) (dst : Option Tmp) : Option (Option Pth) :=
  match dst with
  | none => some none
  | some t => match Nat.blt t nt && Nat.ble nt (2 ^ d) with
    | true => some (some (pth d t))
    | false => none
def rRO (P : Program) (own : Bool) (d : Nat) (o : Op) : Option RO :=
  match kindOf own o with
  | .val => rVal P d o
  | .read => rRead P d o
  | _ => rEff P d o
def rOper (P : Program) (own : Bool) (d nt : Nat) (ops : Array Oper) (o : Oper) : Option RI :=
  match rGd d ops o with
  | some g => match rRO P own d o.op with
    | some r => match rDst d nt o.dst with
      | some t => some ⟨g, r, t⟩
      | none => none
    | none => none
  | none => none
def rOpers (P : Program) (own : Bool) (d nt : Nat) (ops : Array Oper) : List Oper → Option (List RI)
  | [] => some []
  | o :: os => match rOper P own d nt ops o with
    | some i => match rOpers P own d nt ops os with
      | some is => some (i :: is)
      | none => none
    | none => none
def rDraws (P : Program) (own : Bool) (d nt : Nat) (ops : Array Oper) (bs : List Nat) : Nat → List Oper → Option (List RD)
  | _, [] => some []
  | j, o :: os => match rOper P own d nt ops o with
    | some i => match rDraws P own d nt ops bs (j + 1) os with
      | some is => some (⟨i, kindOf own o.op, loOf own ops bs j, hiOf own ops bs j⟩ :: is)
      | none => none
    | none => none
def rZs (P : Program) : List Oper → Option (List (List V))
  | [] => some []
  | o :: os => match o.op with
    | .alloc t => match tZero P t with
      | some z => match rZs P os with
        | some zs => some (z.cells :: zs)
        | none => none
      | none => none
    | _ => rZs P os
def rCodeOf (P : Program) (own : Bool) (d nt : Nat) : Code → Option RC
  | .skip => some .skip
  | .label _ => some .skip
  | .region _ ops draw => match draw with
    | true => match drawOK own ops (befs [] ops.toList) with
      | true => match rZs P ops.toList with
        | some zs => match rDraws P own d nt ops (befs [] ops.toList) 0 ops.toList with
          | some rs => some (.draw zs (ops.size + 1) rs)
          | none => none
        | none => none
      | false => none
    | false => match rOpers P own d nt ops ops.toList with
      | some is => some (.reg is)
      | none => none
  | .seq a b => match rCodeOf P own d nt a with
    | some a => match rCodeOf P own d nt b with
      | some b => some (.seq a b)
      | none => none
    | none => none
  | .cond c a b => match rOpd d c with
    | some c => match rCodeOf P own d nt a with
      | some a => match rCodeOf P own d nt b with
        | some b => some (.cond c a b)
        | none => none
      | none => none
    | none => none
  | .block id c => match rCodeOf P own d nt c with
    | some c => some (.block id c)
    | none => none
  | .loop c => match rCodeOf P own d nt c with
    | some c => some (.loop c)
    | none => none
  | .exit id => some (.exit id)
  | .ret => some .ret
  | _ => some .bad

/-! ### It does as before -/

section
variable {P : Program} {pol : Pol} {call : Oracle} {f : FuncId} {D d nt : Nat} {ops : Array Oper} {β : Type}

def GdOK (d : Nat) (ops : Array Oper) (o : Oper) (g : Gd) : Prop :=
  match g with
  | .no => guardOf ops o = none
  | .never => guardOf ops o = some none
  | .on p want => ∃ t, guardOf ops o = some (some (t, want)) ∧ ∀ T, TT.get p (mkT d T) = nth T t
theorem rGd_ok {o : Oper} {g : Gd} (h : rGd d ops o = some g) : GdOK d ops o g := by
  unfold rGd at h
  unfold GdOK
  split at h
  · rename_i hg; cases h; exact hg
  · rename_i hg; cases h; exact hg
  · rename_i t want hg
    split at h
    · rename_i hb; cases h
      exact ⟨t, hg, fun T => get_mkT (by simpa [Nat.blt_eq] using hb)⟩
    · cases h
theorem rDst_ok {dst : Option Tmp} {p : Option Pth} (h : rDst d nt dst = some p) {T : List V} (hT : nt ≤ T.length) (v : V) : putD p v (mkT d T) = mkT d (put T dst v) := by
  unfold rDst at h
  split at h
  · cases h; rfl
  · rename_i t
    split at h
    · rename_i hb
      cases h
      simp only [Bool.and_eq_true] at hb
      have h1 : t < nt := by simpa [Nat.blt_eq] using hb.1
      have h2 : nt ≤ 2 ^ d := Nat.le_of_ble_eq_true hb.2
      exact put_mkT (Nat.lt_of_lt_of_le h1 h2) (Nat.lt_of_lt_of_le h1 hT)
    · cases h

theorem putLen (T : List V) (dst : Option Tmp) (v : V) : (put T dst v).length = T.length := by
  cases dst with
  | none => rfl
  | some t => exact upd_len T t v

theorem with_guard {g : Gd} {o : Oper} (hg : GdOK d ops o g) (ro : RO) (dst : Option Pth) (e : Env) (T : List V) (H : Hp) :
    (ro.run call e (mkT d T) H = with_ H (aVal P o T) → rI call e ⟨g, ro, dst⟩ (mkT d T) H = with_ H (gVal P ops o T)) ∧
    (ro.run call e (mkT d T) H = with_ H (aRead P o T H) → rI call e ⟨g, ro, dst⟩ (mkT d T) H = with_ H (gRead P ops o T H)) ∧
    (ro.run call e (mkT d T) H = aEff P pol call f D o T H → rI call e ⟨g, ro, dst⟩ (mkT d T) H = gEff P pol call f D ops o T H) := by
  unfold GdOK at hg
  cases g with
  | no =>
    simp only at hg
    refine ⟨fun h => ?_, fun h => ?_, fun h => ?_⟩
    · simp only [rI, gVal, hg]; exact h
    · simp only [rI, gRead, hg]; exact h
    · simp only [rI, gEff, hg]; exact h
  | never =>
    simp only at hg
    refine ⟨fun h => ?_, fun h => ?_, fun h => ?_⟩
    · simp only [rI, gVal, hg]; rfl
    · simp only [rI, gRead, hg]; rfl
    · simp only [rI, gEff, hg]
  | on p want =>
    obtain ⟨t, hg, hp⟩ := hg
    refine ⟨fun h => ?_, fun h => ?_, fun h => ?_⟩
    · simp only [rI, gVal, hg, hp, h, cond1, cond2]
      split
      · split <;> rfl
      · rfl
      · rfl
    · simp only [rI, gRead, hg, hp, h, cond1, cond2]
      split
      · split <;> rfl
      · rfl
      · rfl
    · simp only [rI, gEff, hg, hp, h]

theorem rOper_ok {o : Oper} {i : RI} (h : rOper P (pol.own f) d nt ops o = some i) :
    (∀ (T : List V), nt ≤ T.length → ∀ v, putD i.dst v (mkT d T) = mkT d (put T o.dst v)) ∧ (kindOf (pol.own f) o.op = .val → ∀ T H, rI call ⟨pol.own f, place pol f D, D⟩ i (mkT d T) H = with_ H (gVal P ops o T)) ∧
    (kindOf (pol.own f) o.op = .read → ∀ T H, rI call ⟨pol.own f, place pol f D, D⟩ i (mkT d T) H = with_ H (gRead P ops o T H)) ∧
    (kindOf (pol.own f) o.op = .eff ∨ kindOf (pol.own f) o.op = .alloc → ∀ T H, rI call ⟨pol.own f, place pol f D, D⟩ i (mkT d T) H = gEff P pol call f D ops o T H) := by
  unfold rOper at h
  split at h
  · rename_i g hg
    split at h
    · rename_i r hr
      split at h
      · rename_i t ht
        cases h
        have hg' := rGd_ok hg
        unfold rRO at hr
        refine ⟨fun T hT v => rDst_ok ht hT v, fun hk T H => ?_, fun hk T H => ?_, fun hk T H => ?_⟩
        · rw [hk] at hr
          exact (with_guard (pol := pol) (call := call) (f := f) (D := D) hg' r t _ T H).1 (rVal_ok hr _ _ T H)
        · rw [hk] at hr
          exact (with_guard (pol := pol) (call := call) (f := f) (D := D) hg' r t _ T H).2.1 (rRead_ok hr _ _ T H)
        · have hr' : rEff P d o.op = some r := by
            rcases hk with hk | hk <;> rw [hk] at hr <;> exact hr
          exact (with_guard (pol := pol) (call := call) (f := f) (D := D) hg' r t _ T H).2.2 (rEff_ok hr' _ D T H)
      · cases h
    · cases h
  · cases h

theorem rSeq_ok {K : TT → Hp → Option β} {K' : List V → Hp → Option β} (hK : ∀ T H, nt ≤ T.length → K (mkT d T) H = K' T H) : ∀ {os : List Oper} {is : List RI}, rOpers P (pol.own f) d nt ops os = some is → ∀ T H, nt ≤ T.length →
    rSeq call ⟨pol.own f, place pol f D, D⟩ K is (mkT d T) H = aSeq P pol call f D ops K' os T H
  | [], is, h, T, H, hT => by
    simp only [rOpers, Option.some.injEq] at h; subst h
    exact hK T H hT
  | o :: os, is, h, T, H, hT => by
    simp only [rOpers] at h
    split at h
    · rename_i i hi
      split at h
      · rename_i is' his
        cases h
        have ih := fun T H hT => rSeq_ok hK his T H hT
        obtain ⟨h0, h1, h2, h3⟩ := rOper_ok (call := call) (D := D) hi
        show (Option.rec (motive := fun _ => Option β) none (fun p => rSeq call ⟨pol.own f, place pol f D, D⟩ K is' (putD i.dst p.1 (mkT d T)) p.2) (rI call ⟨pol.own f, place pol f D, D⟩ i (mkT d T) H) : Option β) = _
        simp only [aSeq]
        cases hk : kindOf (pol.own f) o.op with
        | val =>
          rw [h1 hk T H]
          simp only [ob]
          cases gVal P ops o T with
          | none => rfl
          | some v => simp only [with_]; rw [h0 T hT v]; exact ih _ _ (by rw [putLen]; exact hT)
        | read =>
          rw [h2 hk T H]
          simp only [ob]
          cases gRead P ops o T H with
          | none => rfl
          | some v => simp only [with_]; rw [h0 T hT v]; exact ih _ _ (by rw [putLen]; exact hT)
        | alloc =>
          rw [h3 (.inr hk) T H]
          simp only [ob2]
          cases gEff P pol call f D ops o T H with
          | none => rfl
          | some p => simp only; rw [h0 T hT p.1]; exact ih _ _ (by rw [putLen]; exact hT)
        | eff =>
          rw [h3 (.inl hk) T H]
          simp only [ob2]
          cases gEff P pol call f D ops o T H with
          | none => rfl
          | some p => simp only; rw [h0 T hT p.1]; exact ih _ _ (by rw [putLen]; exact hT)
      · cases h
    · cases h
end

end Go.Abs
