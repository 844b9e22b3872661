/- The code with its types looked up: an operation does as before. -/
import Derived.Test.YtokjbfjkmboehaaGreatAbsX
set_option linter.unusedVariables false
set_option linter.unusedSimpArgs false
namespace Go.Abs

section
variable {P : Program} {d : Nat} {T : List V}

theorem rOpd_ok {x : Operand} {y : Opd} (h : rOpd d x = some y) : y.ev (mkT d T) = aEval T x := by
  cases x with
  | tmp t =>
    simp only [rOpd] at h
    split at h
    · rename_i hb
      cases h
      exact get_mkT (by simpa [Nat.blt_eq] using hb)
    · cases h
  | const v => simp only [rOpd, Option.some.injEq] at h; subst h; rfl
  | global g => simp only [rOpd, Option.some.injEq] at h; subst h; rfl
  | func f => simp only [rOpd, Option.some.injEq] at h; subst h; rfl
theorem rOpds_ok : ∀ {l : List Operand} {r : List Opd}, rOpds d l = some r → evs (mkT d T) r = l.map (aEval T)
  | [], r, h => by simp only [rOpds, Option.some.injEq] at h; subst h; rfl
  | x :: xs, r, h => by
    simp only [rOpds] at h
    split at h
    · rename_i y hy
      split at h
      · rename_i ys hys
        simp only [Option.some.injEq] at h; subst h
        show y.ev (mkT d T) :: evs (mkT d T) ys = _
        rw [rOpd_ok hy, rOpds_ok hys]; rfl
      · cases h
    · cases h
theorem rPs_ok : ∀ {l : List (Nat × Nat × Operand)} {r : List (Nat × Nat × Opd)}, rPs d l = some r → evp (mkT d T) r = l.map fun x => (x.1, x.2.1, aEval T x.2.2)
  | [], r, h => by simp only [rPs, Option.some.injEq] at h; subst h; rfl
  | (a, b, x) :: xs, r, h => by
    simp only [rPs] at h
    split at h
    · rename_i y hy
      split at h
      · rename_i ys hys
        simp only [Option.some.injEq] at h; subst h
        show (a, b, y.ev (mkT d T)) :: evp (mkT d T) ys = _
        rw [rOpd_ok hy, rPs_ok hys]; rfl
      · cases h
    · cases h
theorem rOpt_ok {x : Option Operand} {y : Option Opd} (h : rOpt d x = some y) : evo (mkT d T) y = x.map (aEval T) := by
  cases x with
  | none => simp only [rOpt, Option.some.injEq] at h; subst h; rfl
  | some x =>
    simp only [rOpt] at h
    split at h
    · rename_i z hz
      simp only [Option.some.injEq] at h; subst h
      show some (z.ev (mkT d T)) = _
      rw [rOpd_ok hz]; rfl
    · cases h

theorem rOpt_none {x : Option Operand} (h : rOpt d x = some none) : x = none := by
  cases x with
  | none => rfl
  | some x =>
    simp only [rOpt] at h
    cases hx : rOpd d x with
    | none => rw [hx] at h; cases h
    | some y => rw [hx] at h; cases h

theorem o1_ok {α : Type} {x : Operand} {k : Opd → α} {r : α} (h : o1 (rOpd d x) k = some r) : ∃ y, (∀ T, y.ev (mkT d T) = aEval T x) ∧ r = k y := by
  unfold o1 at h
  split at h
  · rename_i y hy; cases h; exact ⟨y, fun T => rOpd_ok hy, rfl⟩
  · cases h
theorem o2_ok {α : Type} {x y : Operand} {k : Opd → Opd → α} {r : α} (h : o2 (rOpd d x) (rOpd d y) k = some r) : ∃ a b, (∀ T, a.ev (mkT d T) = aEval T x) ∧ (∀ T, b.ev (mkT d T) = aEval T y) ∧ r = k a b := by
  unfold o2 at h
  split at h
  · rename_i a ha
    split at h
    · rename_i b hb; cases h; exact ⟨a, b, fun T => rOpd_ok ha, fun T => rOpd_ok hb, rfl⟩
    · cases h
  · cases h
theorem o3_ok {α : Type} {x y z : Operand} {k : Opd → Opd → Opd → α} {r : α} (h : o3 (rOpd d x) (rOpd d y) (rOpd d z) k = some r) : ∃ a b c, (∀ T, a.ev (mkT d T) = aEval T x) ∧ (∀ T, b.ev (mkT d T) = aEval T y) ∧ (∀ T, c.ev (mkT d T) = aEval T z) ∧ r = k a b c := by
  unfold o3 at h
  split at h
  · rename_i a ha
    split at h
    · rename_i b hb
      split at h
      · rename_i c hc; cases h; exact ⟨a, b, c, fun T => rOpd_ok ha, fun T => rOpd_ok hb, fun T => rOpd_ok hc, rfl⟩
      · cases h
    · cases h
  · cases h

/-- A value beside a heap that stays. -/
def with_ (H : Hp) (o : Option V) : Option (V × Hp) :=
  match o with
  | some v => some (v, H)
  | none => none
theorem with_rec (H : Hp) (o : Option V) : (Option.rec (motive := fun _ => Option (V × Hp)) none (fun x => some (x, H)) o : Option (V × Hp)) = with_ H o := by
  cases o <;> rfl

theorem rVal_ok {o : Oper} {ro : RO} (h : rVal P d o.op = some ro) (call : Oracle) (e : Env) (T : List V) (H : Hp) : ro.run call e (mkT d T) H = with_ H (aVal P o T) := by
  obtain ⟨dst, op, type, pos, after, guard⟩ := o
  simp only at h
  unfold rVal at h
  split at h
  · obtain ⟨y, h1, rfl⟩ := o1_ok h; simp only [RO.run, aVal, h1, with_]
  · obtain ⟨y, h1, rfl⟩ := o1_ok h; simp only [RO.run, aVal, h1, with_]
  · obtain ⟨a, b, c, h1, h2, h3, rfl⟩ := o3_ok h; simp only [RO.run, aVal, h1, h2, h3, with_rec]
  · split at h
    · rename_i hf
      split at h
      · rename_i z hz
        split at h
        · rename_i ps hps
          split at h
          · rename_i qs hqs
            simp only [Option.some.injEq] at h; subst h
            simp only [RO.run, aVal, hf, hz, hps, rPs_ok hqs, with_rec]
          · cases h <;> simp_all [RO.run, aVal, with_]
        · cases h <;> simp_all [RO.run, aVal, with_]
      · cases h <;> simp_all [RO.run, aVal, with_]
    · cases h <;> simp_all [RO.run, aVal, with_]
  · split at h
    · rename_i e' hu
      split at h
      · rename_i z hz
        split at h
        · rename_i ps hps
          split at h
          · rename_i hd
            split at h
            · rename_i qs hqs
              simp only [Option.some.injEq] at h; subst h
              simp only [RO.run, aVal, hu, hz, hps, hd, rPs_ok hqs, with_rec]
            · cases h
          · rename_i hd
            cases h
            simp only [RO.run, aVal, hu, hz, hps, hd, with_]
        · cases h <;> simp_all [RO.run, aVal, with_]
      · cases h <;> simp_all [RO.run, aVal, with_]
    · cases h <;> simp_all [RO.run, aVal, with_]
  · obtain ⟨y, h1, rfl⟩ := o1_ok h; simp only [RO.run, aVal, h1, with_rec]
  · rename_i bop t x y yt
    split at h
    · split at h
      · rename_i k hk
        obtain ⟨a, b, h1, h2, rfl⟩ := o2_ok h; simp only [RO.run, aVal, hk, h1, h2, with_rec]
      · cases h <;> simp_all [RO.run, aVal, with_]
    · split at h
      · rename_i k hk
        obtain ⟨a, b, h1, h2, rfl⟩ := o2_ok h; simp only [RO.run, aVal, hk, h1, h2, with_rec]
      · cases h <;> simp_all [RO.run, aVal, with_]
    · rename_i n1 n2
      obtain ⟨a, b, h1, h2, rfl⟩ := o2_ok h
      simp only [RO.run, h1, h2, with_rec]
      cases bop <;> first | (exact (n1 rfl).elim) | (exact (n2 rfl).elim) | rfl
  · obtain ⟨y, h1, rfl⟩ := o1_ok h; simp only [RO.run, aVal, h1, with_rec]
  · split at h
    · rename_i a ha
      split at h
      · rename_i b hb
        simp only [Option.some.injEq] at h; subst h
        simp only [RO.run, aVal, rOpds_ok ha, rOpds_ok hb, with_]
      · cases h <;> simp_all [RO.run, aVal, with_]
    · cases h <;> simp_all [RO.run, aVal, with_]
  · rename_i t0 x0 lo0 hi0 mx1
    split at h
    · rename_i x' hx
      split at h
      · rename_i lo' hlo
        split at h
        · rename_i hi' hhi
          split at h
          · rename_i mx' hmx
            split at h
            · rename_i hu
              split at h
              · simp only [Option.some.injEq] at h; subst h
                have hm : mx1 = none := rOpt_none hmx
                subst hm
                simp only [RO.run, aVal, hu, rOpd_ok hx, rOpt_ok hlo, rOpt_ok hhi, with_rec]
              · cases h
                cases mx1 with
                | none => simp [rOpt] at hmx
                | some m => simp only [RO.run, aVal, hu, with_]
            · rename_i e' hu
              split at h
              · rename_i s hs
                simp only [Option.some.injEq] at h; subst h
                simp only [RO.run, aVal, hu, hs, rOpd_ok hx, rOpt_ok hlo, rOpt_ok hhi, rOpt_ok hmx, with_rec]
              · cases h <;> simp_all [RO.run, aVal, with_]
            · cases h <;> simp_all [RO.run, aVal, with_]
          · cases h <;> simp_all [RO.run, aVal, with_]
        · cases h <;> simp_all [RO.run, aVal, with_]
      · cases h <;> simp_all [RO.run, aVal, with_]
    · cases h <;> simp_all [RO.run, aVal, with_]
  · split at h
    · rename_i off n b hf
      obtain ⟨y, h1, rfl⟩ := o1_ok h; simp only [RO.run, aVal, hf, h1, with_rec]
    · cases h <;> simp_all [RO.run, aVal, with_]
  · split at h
    · rename_i off n b hf
      obtain ⟨y, h1, rfl⟩ := o1_ok h; simp only [RO.run, aVal, hf, h1, with_rec]
    · cases h <;> simp_all [RO.run, aVal, with_]
  · split at h
    · rename_i e' hu
      split at h
      · rename_i s hs
        obtain ⟨a, b, h1, h2, rfl⟩ := o2_ok h; simp only [RO.run, aVal, hu, hs, h1, h2, with_rec]
      · cases h <;> simp_all [RO.run, aVal, with_]
    · rename_i n e' hu
      split at h
      · rename_i s hs
        obtain ⟨a, b, h1, h2, rfl⟩ := o2_ok h; simp only [RO.run, aVal, hu, hs, h1, h2, with_rec]
      · cases h <;> simp_all [RO.run, aVal, with_]
    · cases h <;> simp_all [RO.run, aVal, with_]
  · split at h
    · rename_i hu
      obtain ⟨a, b, h1, h2, rfl⟩ := o2_ok h; simp only [RO.run, aVal, hu, h1, h2, with_rec]
    · rename_i n e' hu
      split at h
      · rename_i s hs
        split at h
        · rename_i b' hb'
          obtain ⟨a, b, h1, h2, rfl⟩ := o2_ok h; simp only [RO.run, aVal, hu, hs, hb', h1, h2, with_rec]
        · cases h <;> simp_all [RO.run, aVal, with_]
      · cases h <;> simp_all [RO.run, aVal, with_]
    · cases h <;> simp_all [RO.run, aVal, with_]
  · obtain ⟨y, h1, rfl⟩ := o1_ok h; simp only [RO.run, aVal, h1, with_rec]
  · split at h
    · rename_i x y hl
      obtain ⟨a, b, h1, h2, rfl⟩ := o2_ok h; simp only [RO.run, aVal, hl, h1, h2, with_rec]
    · cases h <;> simp_all [RO.run, aVal, with_]
  · split at h
    · rename_i x y hl
      obtain ⟨a, b, h1, h2, rfl⟩ := o2_ok h; simp only [RO.run, aVal, hl, h1, h2, with_rec]
    · cases h <;> simp_all [RO.run, aVal, with_]
  · cases h; simp only [RO.run]; unfold aVal; split <;> simp_all [with_]

theorem rRead_ok {o : Oper} {ro : RO} (h : rRead P d o.op = some ro) (call : Oracle) (e : Env) (T : List V) (H : Hp) : ro.run call e (mkT d T) H = with_ H (aRead P o T H) := by
  obtain ⟨dst, op, type, pos, after, guard⟩ := o
  simp only at h
  unfold rRead at h
  split at h
  · split at h
    · rename_i b hb
      split at h
      · rename_i n hn
        obtain ⟨y, h1, rfl⟩ := o1_ok h; simp only [RO.run, aRead, hb, hn, h1, with_rec]
      · cases h <;> simp_all [RO.run, aRead, with_]
    · cases h <;> simp_all [RO.run, aRead, with_]
  · split at h
    · rename_i kk z ht
      obtain ⟨a, b, h1, h2, rfl⟩ := o2_ok h; simp only [RO.run, aRead, ht, h1, h2, with_rec]
    · cases h <;> simp_all [RO.run, aRead, with_]
  · split at h
    · rename_i x hl
      split at h
      · rename_i t rest ht
        split at h
        · rename_i hu; obtain ⟨y, h1, rfl⟩ := o1_ok h; simp only [RO.run, aRead, hl, ht, hu, h1, with_rec]
        · rename_i e' hu; obtain ⟨y, h1, rfl⟩ := o1_ok h; simp only [RO.run, aRead, hl, ht, hu, h1, with_rec]
        · rename_i e1 e2 hu; obtain ⟨y, h1, rfl⟩ := o1_ok h; simp only [RO.run, aRead, hl, ht, hu, h1, with_rec]
        · rename_i n e' hu; simp only [Option.some.injEq] at h; subst h; simp only [RO.run, aRead, hl, ht, hu, with_]
        · cases h <;> simp_all [RO.run, aRead, with_]
      · cases h <;> simp_all [RO.run, aRead, with_]
    · cases h <;> simp_all [RO.run, aRead, with_]
  · split at h
    · rename_i c hc
      obtain ⟨y, h1, rfl⟩ := o1_ok h; simp only [RO.run, aRead, hc, h1, with_rec]
    · cases h <;> simp_all [RO.run, aRead, with_]
  · split at h
    · rename_i e' hu
      split at h
      · rename_i z hz
        split at h
        · rename_i by_ hb
          obtain ⟨a, b, h1, h2, rfl⟩ := o2_ok h; simp only [RO.run, aRead, hu, hz, hb, h1, h2, with_rec]
        · cases h <;> simp_all [RO.run, aRead, with_]
      · cases h <;> simp_all [RO.run, aRead, with_]
    · cases h <;> simp_all [RO.run, aRead, with_]
  · cases h; simp only [RO.run]; unfold aRead; split <;> simp_all [with_]

theorem rEff_ok {pol : Pol} {f : FuncId} {o : Oper} {ro : RO} (h : rEff P d o.op = some ro) (call : Oracle) (D : Nat) (T : List V) (H : Hp) : ro.run call ⟨pol.own f, place pol f D, D⟩ (mkT d T) H = aEff P pol call f D o T H := by
  obtain ⟨dst, op, type, pos, after, guard⟩ := o
  simp only at h
  unfold rEff at h
  split at h
  · split at h
    · rename_i n hn
      obtain ⟨a, b, h1, h2, rfl⟩ := o2_ok h; simp only [RO.run, aEff, hn, h1, h2]
    · cases h <;> simp_all [RO.run, aEff, with_]
  · split at h
    · rename_i z hz
      simp only [Option.some.injEq] at h; subst h; simp only [RO.run, aEff, hz]
    · cases h <;> simp_all [RO.run, aEff, with_]
  · obtain ⟨y, h1, rfl⟩ := o1_ok h; simp only [RO.run, aEff, h1]
  · rename_i t r
    split at h
    · simp only [Option.some.injEq] at h; subst h; rfl
    · rename_i x
      split at h
      · rename_i k e' hu
        obtain ⟨y, h1, rfl⟩ := o1_ok h
        simp only [RO.run, aEff, hu, h1]
        cases aEval T x <;> rfl
      · cases h <;> simp_all [RO.run, aEff, with_]
  · split at h
    · rename_i kk z ht
      obtain ⟨a, b, c, h1, h2, h3, rfl⟩ := o3_ok h; simp only [RO.run, aEff, ht, h1, h2, h3]
    · cases h <;> simp_all [RO.run, aEff, with_]
  · split at h
    · rename_i c hc
      obtain ⟨y, h1, rfl⟩ := o1_ok h; simp only [RO.run, aEff, hc, h1]
    · cases h <;> simp_all [RO.run, aEff, with_]
  · split at h
    · rename_i e' hu
      split at h
      · rename_i z hz
        split at h
        · rename_i by_ hb
          obtain ⟨a, b, h1, h2, rfl⟩ := o2_ok h; simp only [RO.run, aEff, hu, hz, hb, h1, h2]
        · cases h <;> simp_all [RO.run, aEff, with_]
      · cases h <;> simp_all [RO.run, aEff, with_]
    · cases h <;> simp_all [RO.run, aEff, with_]
  · split at h
    · rename_i x y hl
      split at h
      · rename_i t u ht
        split at h
        · rename_i s by_ hte
          split at h
          · rename_i e' hu
            split at h
            · rename_i s' hs'
              split at h
              · rename_i hd
                obtain ⟨a, b, h1, h2, rfl⟩ := o2_ok h; simp only [RO.run, aEff, hl, ht, hte, hu, hs', hd, h1, h2]
              · cases h <;> simp_all [RO.run, aEff, with_]
            · cases h <;> simp_all [RO.run, aEff, with_]
          · rename_i hu
            obtain ⟨a, b, h1, h2, rfl⟩ := o2_ok h; simp only [RO.run, aEff, hl, ht, hte, hu, h1, h2]
          · cases h <;> simp_all [RO.run, aEff, with_]
        · cases h <;> simp_all [RO.run, aEff, with_]
      · cases h <;> simp_all [RO.run, aEff, with_]
    · cases h <;> simp_all [RO.run, aEff, with_]
  · split at h
    · rename_i m k hl
      split at h
      · rename_i t rest ht
        split at h
        · rename_i kk z htm
          obtain ⟨a, b, h1, h2, rfl⟩ := o2_ok h; simp only [RO.run, aEff, hl, ht, htm, h1, h2]
        · cases h <;> simp_all [RO.run, aEff, with_]
      · cases h <;> simp_all [RO.run, aEff, with_]
    · cases h <;> simp_all [RO.run, aEff, with_]
  · split at h
    · rename_i y hy
      split at h
      · rename_i l hl
        simp only [Option.some.injEq] at h; subst h
        simp only [RO.run, aEff, rOpd_ok hy, rOpds_ok hl]
      · cases h <;> simp_all [RO.run, aEff, with_]
    · cases h <;> simp_all [RO.run, aEff, with_]
  · cases h; simp only [RO.run]; unfold aEff; split <;> simp_all
end

end Go.Abs
