/- The relation between the abstract heap and the model's world, and that each step of memory keeps it. -/
import Derived.Test.YtokjbfjkmboehaaGreatAbsR
import Derived.Deep.Draws
set_option linter.unusedVariables false
set_option linter.unusedSimpArgs false
namespace Go.Abs
open Go.RowKit

/-! ### The abstract heap's frames -/

theorem stkGet_lt : ∀ {fs : List Fr} {d : Nat} {f : Fr}, stkGet fs d = some f → 1 ≤ d ∧ d ≤ fs.length
  | [], _, _, h => by simp [stkGet] at h
  | f :: fs, d, g, h => by
    simp only [stkGet] at h
    split at h
    · simp; omega
    · have := stkGet_lt h; simp; omega
theorem stkGet_some : ∀ {fs : List Fr} {d : Nat}, 1 ≤ d → d ≤ fs.length → ∃ f, stkGet fs d = some f
  | [], _, h, k => by simp at k; omega
  | f :: fs, d, h, k => by
    simp only [stkGet]
    by_cases e : d = fs.length + 1
    · exact ⟨f, by simp [e]⟩
    · simp only [e, if_false]; exact stkGet_some h (by simp at k; omega)
theorem stkSet_length : ∀ (fs : List Fr) (d : Nat) (x : Fr), (stkSet fs d x).length = fs.length
  | [], _, _ => rfl
  | f :: fs, d, x => by
    simp only [stkSet]
    split
    · rfl
    · simp [stkSet_length fs d x]
theorem stkGet_set_same : ∀ {fs : List Fr} {d : Nat} {x : Fr}, 1 ≤ d → d ≤ fs.length → stkGet (stkSet fs d x) d = some x
  | [], _, _, h, k => by simp at k; omega
  | f :: fs, d, x, h, k => by
    simp only [stkSet]
    by_cases e : d = fs.length + 1
    · simp [e, stkGet]
    · simp only [e, if_false, stkGet, stkSet_length]; exact stkGet_set_same h (by simp at k; omega)
theorem stkGet_set_ne : ∀ {fs : List Fr} {d e : Nat} {x : Fr}, d ≠ e → stkGet (stkSet fs d x) e = stkGet fs e
  | [], _, _, _, _ => rfl
  | f :: fs, d, e, x, h => by
    simp only [stkSet]
    by_cases k : d = fs.length + 1
    · simp only [k, if_true, stkGet]
      by_cases l : e = fs.length + 1
      · exact (h (k.trans l.symm)).elim
      · simp [l]
    · simp only [k, if_false, stkGet, stkSet_length]
      split
      · rfl
      · exact stkGet_set_ne h

theorem Hp.fr_le {H : Hp} {d : Nat} {f : Fr} (h : H.fr d = some f) : d ≤ H.stk.length := by
  cases d with
  | zero => exact Nat.zero_le _
  | succ d => exact (stkGet_lt h).2
theorem Hp.fr_some {H : Hp} {d : Nat} (h : d ≤ H.stk.length) : ∃ f, H.fr d = some f := by
  cases d with
  | zero => exact ⟨_, rfl⟩
  | succ d => exact stkGet_some (by omega) h
theorem Hp.setFr_len (H : Hp) (d : Nat) (x : Fr) : (H.setFr d x).stk.length = H.stk.length := by
  cases d with
  | zero => rfl
  | succ d => exact stkSet_length _ _ _
theorem Hp.fr_setFr {H : Hp} {d : Nat} {x : Fr} (h : d ≤ H.stk.length) : (H.setFr d x).fr d = some x := by
  cases d with
  | zero => rfl
  | succ d => exact stkGet_set_same (by omega) h
theorem Hp.fr_setFr_ne {H : Hp} {d e : Nat} {x : Fr} (h : d ≠ e) : (H.setFr d x).fr e = H.fr e := by
  cases d with
  | zero => cases e with
    | zero => exact (h rfl).elim
    | succ e => rfl
  | succ d => cases e with
    | zero => rfl
    | succ e => exact stkGet_set_ne h

theorem Hp.setObj_len (H : Hp) (d i : Nat) (o : AO) : (H.setObj d i o).stk.length = H.stk.length := by
  unfold Hp.setObj; split
  · exact Hp.setFr_len _ _ _
  · rfl
theorem Hp.obj_setObj {H : Hp} {d i d' i' : Nat} {o : AO} :
    (H.setObj d i o).obj d' i' = if d' = d ∧ i' = i then (H.obj d i).map fun _ => o else H.obj d' i' := by
  unfold Hp.setObj Hp.obj
  cases hf : H.fr d with
  | none =>
    simp only [hf]
    by_cases e : d' = d ∧ i' = i
    · obtain ⟨rfl, rfl⟩ := e; simp [hf]
    · simp [e]
  | some f =>
    simp only
    by_cases e : d' = d
    · subst e
      rw [Hp.fr_setFr (Hp.fr_le hf)]
      simp only [hf, true_and, List.getElem?_set]
      by_cases e2 : i' = i
      · subst e2
        by_cases hl : i' < f.objs.length
        · simp [hl]
        · simp [hl, List.getElem?_eq_none (Nat.not_lt.1 hl)]
      · simp [e2, Ne.symm e2]
    · rw [Hp.fr_setFr_ne (Ne.symm e)]
      simp [e]
theorem Hp.fam_setObj {H : Hp} {d i d' f : Nat} {o : AO} : (H.setObj d i o).fam d' f = H.fam d' f := by
  unfold Hp.setObj Hp.fam
  cases hf : H.fr d with
  | none => rfl
  | some fr =>
    simp only
    by_cases e : d' = d
    · subst e; rw [Hp.fr_setFr (Hp.fr_le hf)]; simp [hf]
    · rw [Hp.fr_setFr_ne (Ne.symm e)]
/-- How many objects and families a frame has. -/
def Hp.sizes (H : Hp) (d : Nat) : Option (Nat × Nat) := (H.fr d).map fun f => (f.objs.length, f.fams.length)
theorem Hp.sizes_setObj {H : Hp} {d i d' : Nat} {o : AO} : (H.setObj d i o).sizes d' = H.sizes d' := by
  unfold Hp.setObj Hp.sizes
  cases hf : H.fr d with
  | none => rfl
  | some fr =>
    simp only
    by_cases e : d' = d
    · subst e; rw [Hp.fr_setFr (Hp.fr_le hf)]; simp [hf]
    · rw [Hp.fr_setFr_ne (Ne.symm e)]
theorem Hp.setFam_len (H : Hp) (d f : Nat) (p : Option Nat) : (H.setFam d f p).stk.length = H.stk.length := by
  unfold Hp.setFam; split
  · exact Hp.setFr_len _ _ _
  · rfl
theorem Hp.fam_setFam {H : Hp} {d f d' f' : Nat} {p : Option Nat} (hs : ∃ q, H.fam d f = some q) :
    (H.setFam d f p).fam d' f' = if d' = d ∧ f' = f then p else H.fam d' f' := by
  unfold Hp.setFam Hp.fam at *
  cases hf : H.fr d with
  | none => simp [hf] at hs
  | some fr =>
    simp only [hf] at hs ⊢
    by_cases e : d' = d
    · subst e
      rw [Hp.fr_setFr (Hp.fr_le hf)]
      simp only [hf, true_and, List.getElem?_set]
      by_cases e2 : f' = f
      · subst e2
        have hl : f' < fr.fams.length := by
          obtain ⟨q, hq⟩ := hs
          rcases Nat.lt_or_ge f' fr.fams.length with h | h
          · exact h
          · simp [List.getElem?_eq_none h] at hq
        simp [hl]
      · simp [e2, Ne.symm e2]
    · rw [Hp.fr_setFr_ne (Ne.symm e)]
      simp [e]
theorem Hp.obj_setFam {H : Hp} {d f d' i : Nat} {p : Option Nat} : (H.setFam d f p).obj d' i = H.obj d' i := by
  unfold Hp.setFam Hp.obj
  cases hf : H.fr d with
  | none => rfl
  | some fr =>
    simp only
    by_cases e : d' = d
    · subst e; rw [Hp.fr_setFr (Hp.fr_le hf)]; simp [hf]
    · rw [Hp.fr_setFr_ne (Ne.symm e)]
theorem Hp.sizes_setFam {H : Hp} {d f d' : Nat} {p : Option Nat} : (H.setFam d f p).sizes d' = H.sizes d' := by
  unfold Hp.setFam Hp.sizes
  cases hf : H.fr d with
  | none => rfl
  | some fr =>
    simp only
    by_cases e : d' = d
    · subst e; rw [Hp.fr_setFr (Hp.fr_le hf)]; simp [hf]
    · rw [Hp.fr_setFr_ne (Ne.symm e)]
theorem Hp.newObj_spec {H H' : Hp} {d i : Nat} {o : AO} (h : H.newObj d o = some (i, H')) :
    H'.stk.length = H.stk.length ∧ d ≤ H.stk.length ∧ (∀ d' i', H'.obj d' i' = if d' = d ∧ i' = i then some o else H.obj d' i') ∧ (∀ d' f, H'.fam d' f = H.fam d' f) ∧
    (∃ m, H.sizes d = some (i, m) ∧ H'.sizes d = some (i + 1, m)) ∧ (∀ d', d' ≠ d → H'.sizes d' = H.sizes d') ∧ H.obj d i = none := by
  unfold Hp.newObj at h
  cases hf : H.fr d with
  | none => simp [hf] at h
  | some fr =>
    simp only [hf, Option.some.injEq, Prod.mk.injEq] at h
    obtain ⟨rfl, rfl⟩ := h
    have hd := Hp.fr_le hf
    refine ⟨Hp.setFr_len _ _ _, hd, fun d' i' => ?_, fun d' f => ?_, ⟨fr.fams.length, ?_, ?_⟩, fun d' hne => ?_, ?_⟩
    · unfold Hp.obj
      by_cases e : d' = d
      · subst e
        rw [Hp.fr_setFr hd]
        simp only [hf, true_and, List.getElem?_append]
        by_cases e2 : i' = fr.objs.length
        · simp [e2]
        · by_cases e3 : i' < fr.objs.length
          · simp [e2, e3]
          · simp only [e2, e3, if_false]
            rw [List.getElem?_eq_none (Nat.not_lt.1 e3)]
            rw [List.getElem?_eq_none]; simp; omega
      · rw [Hp.fr_setFr_ne (Ne.symm e)]; simp [e]
    · unfold Hp.fam
      by_cases e : d' = d
      · subst e; rw [Hp.fr_setFr hd]; simp [hf]
      · rw [Hp.fr_setFr_ne (Ne.symm e)]
    · simp [Hp.sizes, hf]
    · simp [Hp.sizes, Hp.fr_setFr hd]
    · unfold Hp.sizes; rw [Hp.fr_setFr_ne (Ne.symm hne)]
    · simp [Hp.obj, hf]
theorem Hp.newFam_spec {H H' : Hp} {d f p : Nat} (h : H.newFam d p = some (f, H')) :
    H'.stk.length = H.stk.length ∧ d ≤ H.stk.length ∧ (∀ d' i', H'.obj d' i' = H.obj d' i') ∧ (∀ d' f', H'.fam d' f' = if d' = d ∧ f' = f then some p else H.fam d' f') ∧
    (∃ m, H.sizes d = some (m, f) ∧ H'.sizes d = some (m, f + 1)) ∧ (∀ d', d' ≠ d → H'.sizes d' = H.sizes d') := by
  unfold Hp.newFam at h
  cases hf : H.fr d with
  | none => simp [hf] at h
  | some fr =>
    simp only [hf, Option.some.injEq, Prod.mk.injEq] at h
    obtain ⟨rfl, rfl⟩ := h
    have hd := Hp.fr_le hf
    refine ⟨Hp.setFr_len _ _ _, hd, fun d' i' => ?_, fun d' f' => ?_, ⟨fr.objs.length, ?_, ?_⟩, fun d' hne => ?_⟩
    · unfold Hp.obj
      by_cases e : d' = d
      · subst e; rw [Hp.fr_setFr hd]; simp [hf]
      · rw [Hp.fr_setFr_ne (Ne.symm e)]
    · unfold Hp.fam
      by_cases e : d' = d
      · subst e
        rw [Hp.fr_setFr hd]
        simp only [hf, true_and, List.getElem?_append]
        by_cases e2 : f' = fr.fams.length
        · simp [e2]
        · by_cases e3 : f' < fr.fams.length
          · simp [e2, e3]
          · simp only [e2, e3, if_false]
            rw [List.getElem?_eq_none (Nat.not_lt.1 e3)]
            rw [List.getElem?_eq_none]; simp; omega
      · rw [Hp.fr_setFr_ne (Ne.symm e)]; simp [e]
    · simp [Hp.sizes, hf]
    · simp [Hp.sizes, Hp.fr_setFr hd]
    · unfold Hp.sizes; rw [Hp.fr_setFr_ne (Ne.symm hne)]
theorem Hp.obj_lt {H : Hp} {d i : Nat} {o : AO} (h : H.obj d i = some o) : ∃ n m, H.sizes d = some (n, m) ∧ i < n := by
  unfold Hp.obj at h
  cases hf : H.fr d with
  | none => simp [hf] at h
  | some fr =>
    simp only [hf] at h
    exact ⟨fr.objs.length, fr.fams.length, by simp [Hp.sizes, hf], (List.getElem?_eq_some_iff.1 h).1⟩
theorem Hp.fam_lt {H : Hp} {d f p : Nat} (h : H.fam d f = some p) : ∃ n m, H.sizes d = some (n, m) ∧ f < m := by
  unfold Hp.fam at h
  cases hf : H.fr d with
  | none => simp [hf] at h
  | some fr =>
    simp only [hf] at h
    refine ⟨fr.objs.length, fr.fams.length, by simp [Hp.sizes, hf], ?_⟩
    rcases Nat.lt_or_ge f fr.fams.length with h' | h'
    · exact h'
    · simp [List.getElem?_eq_none h'] at h
theorem Hp.sizes_le {H : Hp} {d : Nat} {x : Nat × Nat} (h : H.sizes d = some x) : d ≤ H.stk.length := by
  unfold Hp.sizes at h
  cases hf : H.fr d with
  | none => simp [hf] at h
  | some fr => exact Hp.fr_le hf

/-! ### The relation -/

/-- None of the first n cells is frozen. -/
def fzOK (fz : Nat × Nat) (n : Nat) : Prop := ∀ o, o < n → ¬ (fz.1 ≤ o ∧ o < fz.2)

def ER (g : Gh) : List (V × V) → List MapEntry → Prop
  | [], es => es = []
  | (k, v) :: l, es => ∃ e es', es = e :: es' ∧ VR g k e.key ∧ VR g v e.val ∧ ER g l es'

theorem ER.mono {g g' : Gh} (h : g.le g') : ∀ {l : List (V × V)} {es : List MapEntry}, ER g l es → ER g' l es
  | [], _, k => by simpa [ER] using k
  | (a, v) :: l, _, k => by
    simp only [ER] at k ⊢
    obtain ⟨e, es', r, h1, h2, h3⟩ := k
    exact ⟨e, es', r, h1.mono h, h2.mono h, ER.mono h h3⟩
theorem ER.length {g : Gh} : ∀ {l : List (V × V)} {es : List MapEntry}, ER g l es → es.length = l.length
  | [], _, k => by simp only [ER] at k; simp [k]
  | (a, v) :: l, _, k => by
    simp only [ER] at k
    obtain ⟨e, es', rfl, h1, h2, h3⟩ := k
    simp [ER.length h3]

def OR (g : Gh) (o : AO) (x : Obj) : Prop :=
  match o with
  | .cells cs => ∃ ys zs ty fz, x = .cells ⟨ys ++ zs⟩ ty fz ∧ VRL g cs ys ∧ fzOK fz (ys.length + zs.length) ∧ (fz = (0, 0) ∨ allInt cs = true)
  | .map es => ∃ ents clock, x = .map ⟨ents⟩ clock ∧ ER g es ents
  | .dead => True

theorem OR.mono {g g' : Gh} (h : g.le g') {o : AO} {x : Obj} (k : OR g o x) : OR g' o x := by
  cases o with
  | cells cs => obtain ⟨ys, zs, ty, fz, e, hv, hz⟩ := k; exact ⟨ys, zs, ty, fz, e, hv.mono h, hz⟩
  | map es => obtain ⟨ents, clock, e, he⟩ := k; exact ⟨ents, clock, e, he.mono h⟩
  | dead => trivial

structure Rel (w0 : World) (D : Nat) (g : Gh) (H : Hp) (w : World) : Prop where
  depth : H.stk.length = D
  below : Below w0.heap.size w0 w
  ρlt : ∀ d i b, g.ρ d i = some b → w0.heap.size ≤ b ∧ b < w.heap.size ∧ ∃ n m, H.sizes d = some (n, m) ∧ i < n
  ρinj : ∀ d i d' i' b, g.ρ d i = some b → g.ρ d' i' = some b → H.obj d i ≠ some .dead → H.obj d' i' ≠ some .dead → d = d' ∧ i = i'
  obj : ∀ d i o b, H.obj d i = some o → g.ρ d i = some b → ∃ x, w.heap[b]? = some x ∧ OR (g.restr d) o x
  ρΦ : ∀ d i b, g.ρ d i = some b → g.Φ b = none
  Φok : ∀ b xs, g.Φ b = some xs → ∃ zs ty fz, w.heap[b]? = some (.cells ⟨xs ++ zs⟩ ty fz)
  Bok : ∀ b n, g.B b = some n → ∃ c ty fz, w.heap[b]? = some (.cells c ty fz) ∧ c.size = n
  fam : ∀ d f p, H.fam d f = some p → ∃ b e, g.κ d f p = some (b, e) ∧ w0.heap.size ≤ b ∧
    ∃ xs zs ty fz, g.Φ b = some xs ∧ xs.length = e ∧ w.heap[b]? = some (.cells ⟨xs ++ zs⟩ ty fz) ∧ fzOK fz (xs.length + zs.length)
  famInj : ∀ d f p d' f' p' b e e', H.fam d f = some p → H.fam d' f' = some p' → g.κ d f p = some (b, e) → g.κ d' f' p' = some (b, e') → d = d' ∧ f = f'
  κlt : ∀ d f p x, g.κ d f p = some x → (∃ n m, H.sizes d = some (n, m) ∧ f < m) ∧ ∀ q, H.fam d f = some q → p ≤ q
  ρsame : ∀ d i d' i' b, g.ρ d i = some b → g.ρ d' i' = some b → d = d'

theorem Rel.ρd {w0 w : World} {D : Nat} {g : Gh} {H : Hp} (h : Rel w0 D g H w) {d i b : Nat} (hb : g.ρ d i = some b) : d ≤ D := by
  obtain ⟨_, _, n, m, hs, _⟩ := h.ρlt d i b hb
  rw [← h.depth]; exact Hp.sizes_le hs
theorem Rel.κd {w0 w : World} {D : Nat} {g : Gh} {H : Hp} (h : Rel w0 D g H w) {d f p : Nat} {x : Nat × Nat} (hb : g.κ d f p = some x) : d ≤ D := by
  obtain ⟨⟨n, m, hs, _⟩, _⟩ := h.κlt d f p x hb
  rw [← h.depth]; exact Hp.sizes_le hs
theorem Rel.restr_self {w0 w : World} {D : Nat} {g : Gh} {H : Hp} (h : Rel w0 D g H w) : g.restr D = g := by
  unfold Gh.restr
  cases g with
  | mk ρ Φ κ B =>
    congr 1
    · funext d i
      by_cases hd : d ≤ D
      · simp [hd]
      · simp only [hd, if_false]
        cases e : ρ d i with
        | none => rfl
        | some b => exact (hd (h.ρd e)).elim
    · funext d f p
      by_cases hd : d ≤ D
      · simp [hd]
      · simp only [hd, if_false]
        cases e : κ d f p with
        | none => rfl
        | some b => exact (hd (h.κd e)).elim

/-! ### Steps of the world -/

theorem heap_alloc_lt {w : World} {o : Obj} {b : Nat} (h : b < w.heap.size) : (w.alloc o).heap[b]? = w.heap[b]? := Below.heap_alloc w o b h
theorem heap_alloc_new {w : World} {o : Obj} : (w.alloc o).heap[w.heap.size]? = some o := by
  show (w.heap.push o)[w.heap.size]? = _
  simp
theorem heap_alloc_of {w : World} {o x : Obj} {b : Nat} (h : w.heap[b]? = some x) : (w.alloc o).heap[b]? = some x := by
  rw [heap_alloc_lt (Array.getElem?_eq_some_iff.1 h).1]; exact h
theorem heap_lt {w : World} {x : Obj} {b : Nat} (h : w.heap[b]? = some x) : b < w.heap.size := (Array.getElem?_eq_some_iff.1 h).1
theorem alloc_size (w : World) (o : Obj) : (w.alloc o).heap.size = w.heap.size + 1 := by
  show (w.heap.push o).size = _
  simp

section
variable {w0 w : World} {D : Nat} {g : Gh} {H : Hp}

/-- Nothing is known of a block that isn't there. -/
theorem Rel.freshΦ (h : Rel w0 D g H w) : g.Φ w.heap.size = none := by
  cases e : g.Φ w.heap.size with
  | none => rfl
  | some xs => obtain ⟨zs, ty, fz, hx⟩ := h.Φok _ _ e; exact (Nat.lt_irrefl _ (heap_lt hx)).elim
theorem Rel.freshB (h : Rel w0 D g H w) : g.B w.heap.size = none := by
  cases e : g.B w.heap.size with
  | none => rfl
  | some xs => obtain ⟨c, ty, fz, hx, _⟩ := h.Bok _ _ e; exact (Nat.lt_irrefl _ (heap_lt hx)).elim
theorem Rel.freshρ (h : Rel w0 D g H w) {d i : Nat} : g.ρ d i ≠ some w.heap.size := by
  intro e
  obtain ⟨_, h2, _⟩ := h.ρlt _ _ _ e
  exact Nat.lt_irrefl _ h2
theorem Rel.ltΦ (h : Rel w0 D g H w) {b : Nat} {xs : List Value} (e : g.Φ b = some xs) : b < w.heap.size := by
  obtain ⟨zs, ty, fz, hx⟩ := h.Φok _ _ e; exact heap_lt hx

/-- A world that differs in nothing but what nobody knows. -/
theorem Rel.world (h : Rel w0 D g H w) {w' : World} (hb : Below w.heap.size w w') : Rel w0 D g H w' := by
  have hk : ∀ {b : Nat} {x : Obj}, w.heap[b]? = some x → w'.heap[b]? = some x := fun {b x} e => by
    rw [hb.block b (heap_lt e)]; exact e
  refine ⟨h.depth, h.below.trans (hb.mono h.below.size), fun d i b e => ?_, h.ρinj, fun d i o b e1 e2 => ?_, h.ρΦ, fun b xs e => ?_, fun b n e => ?_, fun d f p e => ?_, h.famInj, h.κlt, h.ρsame⟩
  · obtain ⟨a1, a2, a3⟩ := h.ρlt d i b e; exact ⟨a1, Nat.lt_of_lt_of_le a2 hb.size, a3⟩
  · obtain ⟨x, hx, ho⟩ := h.obj d i o b e1 e2; exact ⟨x, hk hx, ho⟩
  · obtain ⟨zs, ty, fz, hx⟩ := h.Φok b xs e; exact ⟨zs, ty, fz, hk hx⟩
  · obtain ⟨c, ty, fz, hx, hs⟩ := h.Bok b n e; exact ⟨c, ty, fz, hk hx, hs⟩
  · obtain ⟨b, e', k1, k2, xs, zs, ty, fz, k3, k4, k5, k6⟩ := h.fam d f p e
    exact ⟨b, e', k1, k2, xs, zs, ty, fz, k3, k4, hk k5, k6⟩
theorem Rel.alloc (h : Rel w0 D g H w) (o : Obj) : Rel w0 D g H (w.alloc o) := h.world ((Below.refl _ _).alloc (Nat.le_refl _) o)
theorem Rel.drew (h : Rel w0 D g H w) : Rel w0 D g H w.drew := h.world (Below.refl _ _).drew

def Gh.addΦ (g : Gh) (b : Nat) (xs : List Value) (n : Nat) : Gh :=
  { g with Φ := fun c => if c = b then some xs else g.Φ c, B := fun c => if c = b then some n else g.B c }
theorem Gh.le_addΦ {g : Gh} {b : Nat} {xs : List Value} {n : Nat} (h : g.Φ b = none) (k : g.B b = none) : g.le (g.addΦ b xs n) :=
  ⟨fun _ _ _ e => e,
   fun c ys e => ⟨[], by
    simp only [Gh.addΦ, List.append_nil]
    by_cases hc : c = b
    · subst hc; rw [h] at e; cases e
    · simp [hc, e]⟩,
   fun _ _ _ _ e => e,
   fun c m e => by
    simp only [Gh.addΦ]
    by_cases hc : c = b
    · subst hc; rw [k] at e; cases e
    · simp [hc, e]⟩

/-- A new block whose first cells are laid for ever. -/
theorem Rel.commit (h : Rel w0 D g H w) (xs zs : List Value) (ty : TypeId) (fz : Nat × Nat) :
    Rel w0 D (g.addΦ w.heap.size xs (xs.length + zs.length)) H (w.alloc (.cells ⟨xs ++ zs⟩ ty fz)) ∧ g.le (g.addΦ w.heap.size xs (xs.length + zs.length)) := by
  have hle : g.le (g.addΦ w.heap.size xs (xs.length + zs.length)) := Gh.le_addΦ h.freshΦ h.freshB
  have hne : ∀ {c : Nat}, c < w.heap.size → c ≠ w.heap.size := fun h => Nat.ne_of_lt h
  refine ⟨⟨h.depth, h.below.alloc h.below.size _, fun d i b e => ?_, h.ρinj, fun d i o b e1 e2 => ?_, fun d i b e => ?_, fun b ys e => ?_, fun b n e => ?_, fun d f p e => ?_, h.famInj, h.κlt, h.ρsame⟩, hle⟩
  · obtain ⟨a1, a2, a3⟩ := h.ρlt d i b e; exact ⟨a1, by rw [alloc_size]; omega, a3⟩
  · obtain ⟨x, hx, ho⟩ := h.obj d i o b e1 e2; exact ⟨x, heap_alloc_of hx, ho.mono (hle.restr d)⟩
  · have hlt := (h.ρlt d i b e).2.1
    simp only [Gh.addΦ, hne hlt, if_false]; exact h.ρΦ d i b e
  · simp only [Gh.addΦ] at e
    by_cases hc : b = w.heap.size
    · subst hc; simp only [if_true, Option.some.injEq] at e; subst e
      exact ⟨zs, ty, fz, heap_alloc_new⟩
    · simp only [hc, if_false] at e
      obtain ⟨z', t', f', hx⟩ := h.Φok b ys e; exact ⟨z', t', f', heap_alloc_of hx⟩
  · simp only [Gh.addΦ] at e
    by_cases hc : b = w.heap.size
    · subst hc; simp only [if_true, Option.some.injEq] at e; subst e
      exact ⟨_, ty, fz, heap_alloc_new, by simp⟩
    · simp only [hc, if_false] at e
      obtain ⟨c, t', f', hx, hs⟩ := h.Bok b n e; exact ⟨c, t', f', heap_alloc_of hx, hs⟩
  · obtain ⟨b, e', k1, k2, ys, z', t', f', k3, k4, k5, k6⟩ := h.fam d f p e
    refine ⟨b, e', k1, k2, ys, z', t', f', ?_, k4, heap_alloc_of k5, k6⟩
    simp only [Gh.addΦ, hne (heap_lt k5), if_false]; exact k3

theorem Gh.addΦ_seg (g : Gh) (b : Nat) (xs : List Value) (n : Nat) : (g.addΦ b xs n).seg b 0 xs :=
  ⟨xs, by simp [Gh.addΦ], fun j y h => by simpa using h⟩

def Gh.addρ (g : Gh) (d i b n : Nat) : Gh :=
  { g with ρ := fun d' i' => if d' = d ∧ i' = i then some b else g.ρ d' i', B := fun c => if c = b then some n else g.B c }
theorem Gh.le_addρ {g : Gh} {d i b n : Nat} (h : g.ρ d i = none) (k : g.B b = none) : g.le (g.addρ d i b n) :=
  ⟨fun d' i' c e => by
    simp only [Gh.addρ]
    by_cases hc : d' = d ∧ i' = i
    · obtain ⟨rfl, rfl⟩ := hc; rw [h] at e; cases e
    · simp [hc, e],
   fun c ys e => ⟨[], by simpa [Gh.addρ] using e⟩,
   fun _ _ _ _ e => e,
   fun c m e => by
    simp only [Gh.addρ]
    by_cases hc : c = b
    · subst hc; rw [k] at e; cases e
    · simp [hc, e]⟩
def Gh.addM (g : Gh) (d i b : Nat) : Gh :=
  { g with ρ := fun d' i' => if d' = d ∧ i' = i then some b else g.ρ d' i' }
theorem Gh.le_addM {g : Gh} {d i b : Nat} (h : g.ρ d i = none) : g.le (g.addM d i b) :=
  ⟨fun d' i' c e => by
    simp only [Gh.addM]
    by_cases hc : d' = d ∧ i' = i
    · obtain ⟨rfl, rfl⟩ := hc; rw [h] at e; cases e
    · simp [hc, e],
   fun c ys e => ⟨[], by simpa [Gh.addM] using e⟩,
   fun _ _ _ _ e => e,
   fun c m e => e⟩

/-- An object that was there in the abstract, and now is: its block is new. 'n': its cells, for a row of cells. -/
theorem Rel.born (h : Rel w0 D g H w) {d i : Nat} {o : AO} (ho : H.obj d i = some o) (hn : g.ρ d i = none) (cs : List Value) (ty : TypeId)
    (fz : Nat × Nat) (hr : OR (g.restr d) o (.cells ⟨cs⟩ ty fz)) :
    Rel w0 D (g.addρ d i w.heap.size cs.length) H (w.alloc (.cells ⟨cs⟩ ty fz)) ∧ g.le (g.addρ d i w.heap.size cs.length) := by
  have hle : g.le (g.addρ d i w.heap.size cs.length) := Gh.le_addρ hn h.freshB
  have hne : ∀ {c : Nat}, c < w.heap.size → c ≠ w.heap.size := fun h => Nat.ne_of_lt h
  have hρ : ∀ {d' i' b}, (g.addρ d i w.heap.size cs.length).ρ d' i' = some b → (d' = d ∧ i' = i ∧ b = w.heap.size) ∨ (¬ (d' = d ∧ i' = i) ∧ g.ρ d' i' = some b) := by
    intro d' i' b e
    simp only [Gh.addρ] at e
    by_cases hc : d' = d ∧ i' = i
    · simp only [hc, and_self, if_true, Option.some.injEq] at e; exact .inl ⟨hc.1, hc.2, e.symm⟩
    · simp only [hc, if_false] at e; exact .inr ⟨hc, e⟩
  refine ⟨⟨h.depth, h.below.alloc h.below.size _, fun d' i' b e => ?_, fun d1 i1 d2 i2 b e1 e2 l1 l2 => ?_, fun d' i' o' b e1 e2 => ?_, fun d' i' b e => ?_, fun b ys e => ?_, fun b n e => ?_, fun d' f p e => ?_, h.famInj, h.κlt, fun d1 i1 d2 i2 b e1 e2 => ?_⟩, hle⟩
  · rcases hρ e with ⟨rfl, rfl, rfl⟩ | ⟨_, e'⟩
    · obtain ⟨n, m, hs, hl⟩ := Hp.obj_lt ho
      exact ⟨h.below.size, by rw [alloc_size]; omega, n, m, hs, hl⟩
    · obtain ⟨a1, a2, a3⟩ := h.ρlt d' i' b e'; exact ⟨a1, by rw [alloc_size]; omega, a3⟩
  · rcases hρ e1 with ⟨rfl, rfl, hb⟩ | ⟨_, k1⟩ <;> rcases hρ e2 with ⟨rfl, rfl, hb'⟩ | ⟨_, k2⟩
    · exact ⟨rfl, rfl⟩
    · subst hb; exact (h.freshρ k2).elim
    · subst hb'; exact (h.freshρ k1).elim
    · exact h.ρinj _ _ _ _ _ k1 k2 l1 l2
  · rcases hρ e2 with ⟨rfl, rfl, rfl⟩ | ⟨_, k2⟩
    · rw [ho] at e1; cases e1
      exact ⟨_, heap_alloc_new, hr.mono (hle.restr d')⟩
    · obtain ⟨x, hx, hO⟩ := h.obj d' i' o' b e1 k2; exact ⟨x, heap_alloc_of hx, hO.mono (hle.restr d')⟩
  · rcases hρ e with ⟨rfl, rfl, rfl⟩ | ⟨_, k⟩
    · exact h.freshΦ
    · exact h.ρΦ d' i' b k
  · obtain ⟨z', t', f', hx⟩ := h.Φok b ys e; exact ⟨z', t', f', heap_alloc_of hx⟩
  · simp only [Gh.addρ] at e
    by_cases hc : b = w.heap.size
    · subst hc; simp only [if_true, Option.some.injEq] at e; subst e
      exact ⟨_, ty, fz, heap_alloc_new, by simp⟩
    · simp only [hc, if_false] at e
      obtain ⟨c, t', f', hx, hs⟩ := h.Bok b n e; exact ⟨c, t', f', heap_alloc_of hx, hs⟩
  · obtain ⟨b, e', k1, k2, ys, z', t', f', k3, k4, k5, k6⟩ := h.fam d' f p e
    exact ⟨b, e', k1, k2, ys, z', t', f', k3, k4, heap_alloc_of k5, k6⟩
  · rcases hρ e1 with ⟨rfl, rfl, hb⟩ | ⟨_, k1⟩ <;> rcases hρ e2 with ⟨rfl, rfl, hb'⟩ | ⟨_, k2⟩
    · rfl
    · subst hb; exact (h.freshρ k2).elim
    · subst hb'; exact (h.freshρ k1).elim
    · exact h.ρsame _ _ _ _ _ k1 k2

/-- The same for a map. -/
theorem Rel.bornMap (h : Rel w0 D g H w) {d i : Nat} {o : AO} (ho : H.obj d i = some o) (hn : g.ρ d i = none) (x : Obj) (hr : OR (g.restr d) o x) :
    Rel w0 D (g.addM d i w.heap.size) H (w.alloc x) ∧ g.le (g.addM d i w.heap.size) := by
  have hle : g.le (g.addM d i w.heap.size) := Gh.le_addM hn
  have hρ : ∀ {d' i' b}, (g.addM d i w.heap.size).ρ d' i' = some b → (d' = d ∧ i' = i ∧ b = w.heap.size) ∨ (¬ (d' = d ∧ i' = i) ∧ g.ρ d' i' = some b) := by
    intro d' i' b e
    simp only [Gh.addM] at e
    by_cases hc : d' = d ∧ i' = i
    · simp only [hc, and_self, if_true, Option.some.injEq] at e; exact .inl ⟨hc.1, hc.2, e.symm⟩
    · simp only [hc, if_false] at e; exact .inr ⟨hc, e⟩
  refine ⟨⟨h.depth, h.below.alloc h.below.size _, fun d' i' b e => ?_, fun d1 i1 d2 i2 b e1 e2 l1 l2 => ?_, fun d' i' o' b e1 e2 => ?_, fun d' i' b e => ?_, fun b ys e => ?_, fun b n e => ?_, fun d' f p e => ?_, h.famInj, h.κlt, fun d1 i1 d2 i2 b e1 e2 => ?_⟩, hle⟩
  · rcases hρ e with ⟨rfl, rfl, rfl⟩ | ⟨_, e'⟩
    · obtain ⟨n, m, hs, hl⟩ := Hp.obj_lt ho
      exact ⟨h.below.size, by rw [alloc_size]; omega, n, m, hs, hl⟩
    · obtain ⟨a1, a2, a3⟩ := h.ρlt d' i' b e'; exact ⟨a1, by rw [alloc_size]; omega, a3⟩
  · rcases hρ e1 with ⟨rfl, rfl, hb⟩ | ⟨_, k1⟩ <;> rcases hρ e2 with ⟨rfl, rfl, hb'⟩ | ⟨_, k2⟩
    · exact ⟨rfl, rfl⟩
    · subst hb; exact (h.freshρ k2).elim
    · subst hb'; exact (h.freshρ k1).elim
    · exact h.ρinj _ _ _ _ _ k1 k2 l1 l2
  · rcases hρ e2 with ⟨rfl, rfl, rfl⟩ | ⟨_, k2⟩
    · rw [ho] at e1; cases e1
      exact ⟨_, heap_alloc_new, hr.mono (hle.restr d')⟩
    · obtain ⟨x, hx, hO⟩ := h.obj d' i' o' b e1 k2; exact ⟨x, heap_alloc_of hx, hO.mono (hle.restr d')⟩
  · rcases hρ e with ⟨rfl, rfl, rfl⟩ | ⟨_, k⟩
    · exact h.freshΦ
    · exact h.ρΦ d' i' b k
  · obtain ⟨z', t', f', hx⟩ := h.Φok b ys e; exact ⟨z', t', f', heap_alloc_of hx⟩
  · obtain ⟨c, t', f', hx, hs⟩ := h.Bok b n e; exact ⟨c, t', f', heap_alloc_of hx, hs⟩
  · obtain ⟨b, e', k1, k2, ys, z', t', f', k3, k4, k5, k6⟩ := h.fam d' f p e
    exact ⟨b, e', k1, k2, ys, z', t', f', k3, k4, heap_alloc_of k5, k6⟩
  · rcases hρ e1 with ⟨rfl, rfl, hb⟩ | ⟨_, k1⟩ <;> rcases hρ e2 with ⟨rfl, rfl, hb'⟩ | ⟨_, k2⟩
    · rfl
    · subst hb; exact (h.freshρ k2).elim
    · subst hb'; exact (h.freshρ k1).elim
    · exact h.ρsame _ _ _ _ _ k1 k2

/-- The abstract heap has one object more, which nothing stands for yet. -/
theorem Rel.hoist (h : Rel w0 D g H w) {H' : Hp} {d i : Nat} {o : AO} (hn : H.newObj d o = some (i, H')) : Rel w0 D g H' w ∧ g.ρ d i = none := by
  obtain ⟨hlen, hd, hobj, hfam, ⟨m, hs1, hs2⟩, hs3, hnone⟩ := Hp.newObj_spec hn
  have hρn : g.ρ d i = none := by
    cases e : g.ρ d i with
    | none => rfl
    | some b =>
      obtain ⟨_, _, n', m', hs, hl⟩ := h.ρlt _ _ _ e
      rw [hs1] at hs; cases hs; exact (Nat.lt_irrefl _ hl).elim
  have hsz : ∀ {d' n' m'}, H.sizes d' = some (n', m') → ∃ n'', H'.sizes d' = some (n'', m') ∧ n' ≤ n'' := by
    intro d' n' m' hs
    by_cases e : d' = d
    · subst e; rw [hs1] at hs; cases hs; exact ⟨_, hs2, by omega⟩
    · rw [hs3 d' e]; exact ⟨n', hs, Nat.le_refl _⟩
  have hlive : ∀ {d' i' b}, g.ρ d' i' = some b → H'.obj d' i' ≠ some .dead → H.obj d' i' ≠ some .dead := by
    intro d' i' b e hl
    rw [hobj] at hl
    by_cases hc : d' = d ∧ i' = i
    · obtain ⟨rfl, rfl⟩ := hc; rw [hρn] at e; cases e
    · simpa only [hc, if_false] using hl
  refine ⟨⟨by rw [hlen]; exact h.depth, h.below, fun d' i' b e => ?_, fun d1 i1 d2 i2 b e1 e2 l1 l2 => h.ρinj _ _ _ _ _ e1 e2 (hlive e1 l1) (hlive e2 l2), fun d' i' o' b e1 e2 => ?_, h.ρΦ, h.Φok, h.Bok, fun d' f p e => ?_, fun d1 f1 p1 d2 f2 p2 b e e' k1 k2 => ?_, fun d' f p x e => ?_, h.ρsame⟩, hρn⟩
  · obtain ⟨a1, a2, n', m', hs, hl⟩ := h.ρlt d' i' b e
    obtain ⟨n'', hs', hle⟩ := hsz hs
    exact ⟨a1, a2, n'', m', hs', by omega⟩
  · rw [hobj] at e1
    by_cases hc : d' = d ∧ i' = i
    · obtain ⟨rfl, rfl⟩ := hc; rw [hρn] at e2; cases e2
    · simp only [hc, if_false] at e1; exact h.obj d' i' o' b e1 e2
  · rw [hfam] at e; exact h.fam d' f p e
  · rw [hfam] at k1 k2; exact h.famInj _ _ _ _ _ _ _ _ _ k1 k2
  · obtain ⟨⟨n', m', hs, hl⟩, hq⟩ := h.κlt d' f p x e
    obtain ⟨n'', hs', _⟩ := hsz hs
    exact ⟨⟨n'', m', hs', hl⟩, fun q hq' => hq q (by rw [hfam] at hq'; exact hq')⟩

/-- An object's block and the object change together. -/
theorem Rel.setObj (h : Rel w0 D g H w) {d i b : Nat} {o : AO} {x x' : Obj} {w' : World} (hb : g.ρ d i = some b) (hlv : H.obj d i ≠ some .dead) (hx : w.heap[b]? = some x)
    (hw : w'.heap[b]? = some x') (hsz : w'.heap.size = w.heap.size) (hne : ∀ c, c ≠ b → w'.heap[c]? = w.heap[c]?) (hos : w'.os = w.os) (hta : w'.tape = w.tape) (hou : w'.output = w.output)
    (hcells : ∀ c ty fz, x = .cells c ty fz → ∃ c' ty', x' = .cells c' ty' fz ∧ c'.size = c.size)
    (hr : OR (g.restr d) o x') : Rel w0 D g (H.setObj d i o) w' := by
  have hge := (h.ρlt _ _ _ hb).1
  have hbelow : Below w0.heap.size w0 w' :=
    h.below.trans ⟨hos, hta, hou, by omega, fun k hk => hne k (by omega)⟩
  have hΦ : ∀ {c : Nat} {ys : List Value}, g.Φ c = some ys → c ≠ b := fun {c ys} e hc => by
    subst hc; rw [h.ρΦ _ _ _ hb] at e; cases e
  have hlive : ∀ {d' i'}, (H.setObj d i o).obj d' i' ≠ some .dead → H.obj d' i' ≠ some .dead := by
    intro d' i' hl
    by_cases hc : d' = d ∧ i' = i
    · obtain ⟨rfl, rfl⟩ := hc; exact hlv
    · rw [Hp.obj_setObj] at hl; simpa only [hc, if_false] using hl
  refine ⟨by rw [Hp.setObj_len]; exact h.depth, hbelow, fun d' i' b' e => ?_, fun d1 i1 d2 i2 b e1 e2 l1 l2 => h.ρinj _ _ _ _ _ e1 e2 (hlive l1) (hlive l2), fun d' i' o' b' e1 e2 => ?_, fun d' i' b' e => h.ρΦ d' i' b' e, fun c ys e => ?_, fun c n e => ?_, fun d' f p e => ?_, fun d1 f1 p1 d2 f2 p2 c e e' k1 k2 => ?_, fun d' f p y e => ?_, h.ρsame⟩
  · rw [Hp.sizes_setObj, hsz]; exact h.ρlt d' i' b' e
  · rw [Hp.obj_setObj] at e1
    by_cases hc : d' = d ∧ i' = i
    · obtain ⟨rfl, rfl⟩ := hc
      simp only [and_self, if_true] at e1
      rw [hb] at e2; cases e2
      cases ho : H.obj d' i' with
      | none => simp [ho] at e1
      | some o1 => simp only [ho, Option.map_some, Option.some.injEq] at e1; subst e1; exact ⟨x', hw, hr⟩
    · simp only [hc, if_false] at e1
      obtain ⟨y, hy, hO⟩ := h.obj d' i' o' b' e1 e2
      by_cases hcb : b' = b
      · subst hcb
        by_cases hd : o' = .dead
        · subst hd; exact ⟨x', hw, trivial⟩
        · exact (hc (h.ρinj _ _ _ _ _ e2 hb (by rw [e1]; intro h; exact hd (Option.some.inj h)) hlv)).elim
      · exact ⟨y, by rw [hne b' hcb]; exact hy, hO⟩
  · obtain ⟨zs, ty, fz, hy⟩ := h.Φok c ys e
    exact ⟨zs, ty, fz, by rw [hne c (hΦ e)]; exact hy⟩
  · obtain ⟨c', ty, fz, hy, hs⟩ := h.Bok c n e
    by_cases hc : c = b
    · subst hc; rw [hx] at hy; cases hy
      obtain ⟨c'', ty', e1, e2⟩ := hcells _ _ _ rfl
      exact ⟨c'', ty', fz, by rw [hw, e1], by omega⟩
    · exact ⟨c', ty, fz, by rw [hne c hc]; exact hy, hs⟩
  · rw [Hp.fam_setObj] at e
    obtain ⟨c, e', k1, k2, ys, z', t', f', k3, k4, k5, k6⟩ := h.fam d' f p e
    exact ⟨c, e', k1, k2, ys, z', t', f', k3, k4, by rw [hne c (hΦ k3)]; exact k5, k6⟩
  · rw [Hp.fam_setObj] at k1 k2; exact h.famInj _ _ _ _ _ _ _ _ _ k1 k2
  · obtain ⟨⟨n', m', hs, hl⟩, hq⟩ := h.κlt d' f p y e
    exact ⟨⟨n', m', by rw [Hp.sizes_setObj]; exact hs, hl⟩, fun q hq' => hq q (by rw [Hp.fam_setObj] at hq'; exact hq')⟩

/-- An object that is used no more. -/
theorem Rel.kill (h : Rel w0 D g H w) (d i : Nat) : Rel w0 D g (H.setObj d i .dead) w := by
  have hlive : ∀ {d' i'}, (H.setObj d i .dead).obj d' i' ≠ some .dead → H.obj d' i' ≠ some .dead := by
    intro d' i' hl hd
    by_cases hc : d' = d ∧ i' = i
    · obtain ⟨rfl, rfl⟩ := hc; rw [Hp.obj_setObj] at hl; simp [hd] at hl
    · rw [Hp.obj_setObj] at hl; simp only [hc, if_false] at hl; exact hl hd
  refine ⟨by rw [Hp.setObj_len]; exact h.depth, h.below, fun d' i' b' e => ?_, fun d1 i1 d2 i2 b e1 e2 l1 l2 => h.ρinj _ _ _ _ _ e1 e2 (hlive l1) (hlive l2), fun d' i' o' b' e1 e2 => ?_, h.ρΦ, h.Φok, h.Bok, fun d' f p e => ?_, fun d1 f1 p1 d2 f2 p2 c e e' k1 k2 => ?_, fun d' f p y e => ?_, h.ρsame⟩
  · rw [Hp.sizes_setObj]; exact h.ρlt d' i' b' e
  · rw [Hp.obj_setObj] at e1
    by_cases hc : d' = d ∧ i' = i
    · obtain ⟨rfl, rfl⟩ := hc
      simp only [and_self, if_true] at e1
      cases ho : H.obj d' i' with
      | none => simp [ho] at e1
      | some o1 =>
        simp only [ho, Option.map_some, Option.some.injEq] at e1; subst e1
        obtain ⟨y, hy, _⟩ := h.obj d' i' o1 b' ho e2
        exact ⟨y, hy, trivial⟩
    · simp only [hc, if_false] at e1; exact h.obj d' i' o' b' e1 e2
  · rw [Hp.fam_setObj] at e; exact h.fam d' f p e
  · rw [Hp.fam_setObj] at k1 k2; exact h.famInj _ _ _ _ _ _ _ _ _ k1 k2
  · obtain ⟨⟨n', m', hs, hl⟩, hq⟩ := h.κlt d' f p y e
    exact ⟨⟨n', m', by rw [Hp.sizes_setObj]; exact hs, hl⟩, fun q hq' => hq q (by rw [Hp.fam_setObj] at hq'; exact hq')⟩
def Gh.addκ (g : Gh) (d f p : Nat) (x : Nat × Nat) : Gh :=
  { g with κ := fun d' f' p' => if d' = d ∧ f' = f ∧ p' = p then some x else g.κ d' f' p' }
theorem Gh.le_addκ {g : Gh} {d f p : Nat} {x : Nat × Nat} (h : g.κ d f p = none) : g.le (g.addκ d f p x) :=
  ⟨fun _ _ _ e => e, fun c ys e => ⟨[], by simpa [Gh.addκ] using e⟩,
   fun d' f' p' y e => by
    simp only [Gh.addκ]
    by_cases hc : d' = d ∧ f' = f ∧ p' = p
    · obtain ⟨rfl, rfl, rfl⟩ := hc; rw [h] at e; cases e
    · simp [hc, e],
   fun c m e => e⟩

/-- A new family: its block is laid already. -/
theorem Rel.newFam (h : Rel w0 D g H w) {d f p b : Nat} {H' : Hp} {xs zs : List Value} {ty : TypeId} {fz : Nat × Nat} (hn : H.newFam d p = some (f, H'))
    (hb : w0.heap.size ≤ b) (hΦ : g.Φ b = some xs) (hx : w.heap[b]? = some (.cells ⟨xs ++ zs⟩ ty fz)) (hz : fzOK fz (xs.length + zs.length))
    (hfresh : ∀ d f p e, H.fam d f = some p → g.κ d f p ≠ some (b, e)) :
    Rel w0 D (g.addκ d f p (b, xs.length)) H' w ∧ g.le (g.addκ d f p (b, xs.length)) := by
  obtain ⟨hlen, hd, hobj, hfam, ⟨m, hs1, hs2⟩, hs3⟩ := Hp.newFam_spec hn
  have hκn : ∀ q, g.κ d f q = none := by
    intro q
    cases e : g.κ d f q with
    | none => rfl
    | some y =>
      obtain ⟨⟨n', m', hs, hl⟩, _⟩ := h.κlt _ _ _ _ e
      rw [hs1] at hs; cases hs; exact (Nat.lt_irrefl _ hl).elim
  have hsz : ∀ {d' n' m'}, H.sizes d' = some (n', m') → ∃ m'', H'.sizes d' = some (n', m'') ∧ m' ≤ m'' := by
    intro d' n' m' hs
    by_cases e : d' = d
    · subst e; rw [hs1] at hs; cases hs; exact ⟨_, hs2, by omega⟩
    · rw [hs3 d' e]; exact ⟨m', hs, Nat.le_refl _⟩
  have hle : g.le (g.addκ d f p (b, xs.length)) := Gh.le_addκ (hκn p)
  have hκ : ∀ {d' f' p' y}, (g.addκ d f p (b, xs.length)).κ d' f' p' = some y → (d' = d ∧ f' = f ∧ p' = p ∧ y = (b, xs.length)) ∨ (¬ (d' = d ∧ f' = f) ∧ g.κ d' f' p' = some y) := by
    intro d' f' p' y e
    simp only [Gh.addκ] at e
    by_cases hc : d' = d ∧ f' = f ∧ p' = p
    · simp only [hc, and_self, if_true, Option.some.injEq] at e; exact .inl ⟨hc.1, hc.2.1, hc.2.2, e.symm⟩
    · simp only [hc, if_false] at e
      refine .inr ⟨?_, e⟩
      rintro ⟨rfl, rfl⟩
      rw [hκn] at e; cases e
  refine ⟨⟨by rw [hlen]; exact h.depth, h.below, fun d' i' b' e => ?_, fun d1 i1 d2 i2 b e1 e2 l1 l2 => h.ρinj _ _ _ _ _ e1 e2 (by rwa [hobj] at l1) (by rwa [hobj] at l2), fun d' i' o' b' e1 e2 => ?_, h.ρΦ, h.Φok, h.Bok, fun d' f' p' e => ?_, fun d1 f1 p1 d2 f2 p2 c e e' k1 k2 q1 q2 => ?_, fun d' f' p' y e => ?_, h.ρsame⟩, hle⟩
  · obtain ⟨a1, a2, n', m', hs, hl⟩ := h.ρlt d' i' b' e
    obtain ⟨m'', hs', _⟩ := hsz hs
    exact ⟨a1, a2, n', m'', hs', hl⟩
  · rw [hobj] at e1
    obtain ⟨y, hy, hO⟩ := h.obj d' i' o' b' e1 e2
    exact ⟨y, hy, hO.mono (hle.restr d')⟩
  · rw [hfam] at e
    by_cases hc : d' = d ∧ f' = f
    · obtain ⟨rfl, rfl⟩ := hc
      simp only [and_self, if_true, Option.some.injEq] at e; subst e
      exact ⟨b, xs.length, by simp [Gh.addκ], hb, xs, zs, ty, fz, hΦ, rfl, hx, hz⟩
    · simp only [hc, if_false] at e
      obtain ⟨c, e', k1, k2, ys, z', t', f'', k3, k4, k5, k6⟩ := h.fam d' f' p' e
      exact ⟨c, e', hle.κ _ _ _ _ k1, k2, ys, z', t', f'', k3, k4, k5, k6⟩
  · rw [hfam] at k1 k2
    rcases hκ q1 with ⟨rfl, rfl, rfl, hy1⟩ | ⟨hc1, r1⟩ <;> rcases hκ q2 with ⟨rfl, rfl, rfl, hy2⟩ | ⟨hc2, r2⟩
    · exact ⟨rfl, rfl⟩
    · simp only [hc2, if_false] at k2
      cases hy1; exact (hfresh _ _ _ _ k2 r2).elim
    · simp only [hc1, if_false] at k1
      cases hy2; exact (hfresh _ _ _ _ k1 r1).elim
    · simp only [hc1, hc2, if_false] at k1 k2
      exact h.famInj _ _ _ _ _ _ _ _ _ k1 k2 r1 r2
  · rcases hκ e with ⟨rfl, rfl, rfl, _⟩ | ⟨hc, r⟩
    · refine ⟨⟨m, _, hs2, by omega⟩, fun q hq => ?_⟩
      rw [hfam] at hq; simp only [and_self, if_true, Option.some.injEq] at hq; omega
    · obtain ⟨⟨n', m', hs, hl⟩, hq⟩ := h.κlt d' f' p' y r
      obtain ⟨m'', hs', hle'⟩ := hsz hs
      refine ⟨⟨n', m'', hs', by omega⟩, fun q hq' => hq q ?_⟩
      rw [hfam] at hq'; simpa [hc] using hq'

/-- A family that nobody appends to any more. -/
theorem Rel.dropFam (h : Rel w0 D g H w) {d f p : Nat} (hf : H.fam d f = some p) : Rel w0 D g (H.setFam d f none) w := by
  have hfam : ∀ {d' f' p'}, (H.setFam d f none).fam d' f' = some p' → H.fam d' f' = some p' := by
    intro d' f' p' e
    rw [Hp.fam_setFam ⟨p, hf⟩] at e
    by_cases hc : d' = d ∧ f' = f
    · simp [hc] at e
    · simpa [hc] using e
  refine ⟨by rw [Hp.setFam_len]; exact h.depth, h.below, fun d' i' b' e => ?_, fun d1 i1 d2 i2 b e1 e2 l1 l2 => h.ρinj _ _ _ _ _ e1 e2 (by rwa [Hp.obj_setFam] at l1) (by rwa [Hp.obj_setFam] at l2), fun d' i' o' b' e1 e2 => ?_, h.ρΦ, h.Φok, h.Bok, fun d' f' p' e => h.fam _ _ _ (hfam e),
    fun d1 f1 p1 d2 f2 p2 c e e' k1 k2 q1 q2 => h.famInj _ _ _ _ _ _ _ _ _ (hfam k1) (hfam k2) q1 q2, fun d' f' p' y e => ?_, h.ρsame⟩
  · rw [Hp.sizes_setFam]; exact h.ρlt d' i' b' e
  · rw [Hp.obj_setFam] at e1; exact h.obj d' i' o' b' e1 e2
  · obtain ⟨⟨n', m', hs, hl⟩, hq⟩ := h.κlt d' f' p' y e
    exact ⟨⟨n', m', by rw [Hp.sizes_setFam]; exact hs, hl⟩, fun q hq' => hq q (hfam hq')⟩

/-- A family grows in place. -/
theorem Rel.growFam (h : Rel w0 D g H w) {d f p q b e : Nat} {xs news zs zs' : List Value} {ty : TypeId} {fz : Nat × Nat} {w' : World} (hf : H.fam d f = some p) (hpq : p < q)
    (hκ : g.κ d f p = some (b, e)) (hΦ : g.Φ b = some xs) (he : xs.length = e) (hb : w0.heap.size ≤ b) (hx : w.heap[b]? = some (.cells ⟨xs ++ zs⟩ ty fz)) (hz : fzOK fz (xs.length + zs.length))
    (hl : news.length + zs'.length = zs.length) (hw : w'.heap[b]? = some (.cells ⟨xs ++ news ++ zs'⟩ ty fz)) (hsz : w'.heap.size = w.heap.size)
    (hne : ∀ c, c ≠ b → w'.heap[c]? = w.heap[c]?) (hos : w'.os = w.os) (hta : w'.tape = w.tape) (hou : w'.output = w.output) :
    Rel w0 D ({ g with Φ := fun c => if c = b then some (xs ++ news) else g.Φ c }.addκ d f q (b, e + news.length)) (H.setFam d f (some q)) w' ∧
    g.le ({ g with Φ := fun c => if c = b then some (xs ++ news) else g.Φ c }.addκ d f q (b, e + news.length)) := by
  have hκn : g.κ d f q = none := by
    cases e' : g.κ d f q with
    | none => rfl
    | some y =>
      have := (h.κlt _ _ _ _ e').2 p hf
      omega
  have hle : g.le ({ g with Φ := fun c => if c = b then some (xs ++ news) else g.Φ c }.addκ d f q (b, e + news.length)) := by
    refine Gh.le.trans ?_ (Gh.le_addκ (by exact hκn))
    refine ⟨fun _ _ _ e => e, fun c ys hc => ?_, fun _ _ _ _ e => e, fun _ _ e => e⟩
    by_cases hcb : c = b
    · subst hcb; rw [hΦ] at hc; cases hc; exact ⟨news, by simp⟩
    · exact ⟨[], by simp [hcb, hc]⟩
  have hbelow : Below w0.heap.size w0 w' := h.below.trans ⟨hos, hta, hou, by omega, fun k hk => hne k (by omega)⟩
  have hκ' : ∀ {d' f' p' y}, ({ g with Φ := fun c => if c = b then some (xs ++ news) else g.Φ c }.addκ d f q (b, e + news.length)).κ d' f' p' = some y →
      (d' = d ∧ f' = f ∧ p' = q ∧ y = (b, e + news.length)) ∨ g.κ d' f' p' = some y := by
    intro d' f' p' y e'
    simp only [Gh.addκ] at e'
    by_cases hc : d' = d ∧ f' = f ∧ p' = q
    · simp only [hc, and_self, if_true, Option.some.injEq] at e'; exact .inl ⟨hc.1, hc.2.1, hc.2.2, e'.symm⟩
    · simp only [hc, if_false] at e'; exact .inr e'
  refine ⟨⟨by rw [Hp.setFam_len]; exact h.depth, hbelow, fun d' i' b' e' => ?_, fun d1 i1 d2 i2 b e1 e2 l1 l2 => h.ρinj _ _ _ _ _ e1 e2 (by rwa [Hp.obj_setFam] at l1) (by rwa [Hp.obj_setFam] at l2), fun d' i' o' b' e1 e2 => ?_, fun d' i' b' e' => ?_, fun c ys e' => ?_, fun c n e' => ?_, fun d' f' p' e' => ?_, fun d1 f1 p1 d2 f2 p2 c e1 e2 k1 k2 q1 q2 => ?_, fun d' f' p' y e' => ?_, h.ρsame⟩, hle⟩
  · rw [Hp.sizes_setFam, hsz]; exact h.ρlt d' i' b' e'
  · rw [Hp.obj_setFam] at e1
    have hcb : b' ≠ b := fun hc => by
      have := h.ρΦ _ _ _ e2; rw [hc, hΦ] at this; cases this
    obtain ⟨y, hy, hO⟩ := h.obj d' i' o' b' e1 e2
    exact ⟨y, by rw [hne b' hcb]; exact hy, hO.mono (hle.restr d')⟩
  · have hk := h.ρΦ _ _ _ e'
    have hcb : b' ≠ b := fun hc => by rw [hc, hΦ] at hk; cases hk
    simpa [Gh.addκ, hcb] using hk
  · simp only [Gh.addκ] at e'
    by_cases hc : c = b
    · subst hc; simp only [if_true, Option.some.injEq] at e'; subst e'
      exact ⟨zs', ty, fz, hw⟩
    · simp only [hc, if_false] at e'
      obtain ⟨z', t', f', hy⟩ := h.Φok c ys e'; exact ⟨z', t', f', by rw [hne c hc]; exact hy⟩
  · obtain ⟨c', t', f', hy, hs⟩ := h.Bok c n e'
    by_cases hc : c = b
    · subst hc; rw [hx] at hy; cases hy
      exact ⟨_, ty, fz, hw, by rw [← hs]; simp; omega⟩
    · exact ⟨c', t', f', by rw [hne c hc]; exact hy, hs⟩
  · rw [Hp.fam_setFam ⟨p, hf⟩] at e'
    by_cases hc : d' = d ∧ f' = f
    · obtain ⟨rfl, rfl⟩ := hc
      simp only [and_self, if_true, Option.some.injEq] at e'; subst e'
      refine ⟨b, e + news.length, by simp [Gh.addκ], hb, xs ++ news, zs', ty, fz, by simp [Gh.addκ], by simp [he], hw, ?_⟩
      have : (xs ++ news).length + zs'.length = xs.length + zs.length := by simp; omega
      rw [this]; exact hz
    · simp only [hc, if_false] at e'
      obtain ⟨c, e1, k1, k2, ys, z', t', f'', k3, k4, k5, k6⟩ := h.fam d' f' p' e'
      have hcb : c ≠ b := fun h' => by
        subst h'; exact hc (h.famInj _ _ _ _ _ _ _ _ _ e' hf k1 hκ)
      exact ⟨c, e1, hle.κ _ _ _ _ k1, k2, ys, z', t', f'', by simpa [Gh.addκ, hcb] using k3, k4, by rw [hne c hcb]; exact k5, k6⟩
  · have back : ∀ {d' f' p' e3}, (H.setFam d f (some q)).fam d' f' = some p' → ({ g with Φ := fun c => if c = b then some (xs ++ news) else g.Φ c }.addκ d f q (b, e + news.length)).κ d' f' p' = some (c, e3) →
        ∃ p'' e'', H.fam d' f' = some p'' ∧ g.κ d' f' p'' = some (c, e'') := by
      intro d' f' p' e3 k r
      rw [Hp.fam_setFam ⟨p, hf⟩] at k
      by_cases hc : d' = d ∧ f' = f
      · obtain ⟨rfl, rfl⟩ := hc
        simp only [and_self, if_true, Option.some.injEq] at k; subst k
        rcases hκ' r with ⟨_, _, _, hy⟩ | hy
        · cases hy; exact ⟨p, e, hf, hκ⟩
        · rw [hκn] at hy; cases hy
      · simp only [hc, if_false] at k
        rcases hκ' r with ⟨h1, h2, _⟩ | hy
        · exact (hc ⟨h1, h2⟩).elim
        · exact ⟨p', e3, k, hy⟩
    obtain ⟨_, _, a1, a2⟩ := back k1 q1
    obtain ⟨_, _, b1, b2⟩ := back k2 q2
    exact h.famInj _ _ _ _ _ _ _ _ _ a1 b1 a2 b2
  · rcases hκ' e' with ⟨rfl, rfl, rfl, _⟩ | r
    · obtain ⟨⟨n', m', hs, hl'⟩, _⟩ := h.κlt _ _ _ _ hκ
      refine ⟨⟨n', m', by rw [Hp.sizes_setFam]; exact hs, hl'⟩, fun r hr => ?_⟩
      rw [Hp.fam_setFam ⟨p, hf⟩] at hr; simp only [and_self, if_true, Option.some.injEq] at hr; omega
    · obtain ⟨⟨n', m', hs, hl'⟩, hq⟩ := h.κlt _ _ _ _ r
      refine ⟨⟨n', m', by rw [Hp.sizes_setFam]; exact hs, hl'⟩, fun t ht => ?_⟩
      rw [Hp.fam_setFam ⟨p, hf⟩] at ht
      by_cases hc : d' = d ∧ f' = f
      · obtain ⟨rfl, rfl⟩ := hc
        simp only [and_self, if_true, Option.some.injEq] at ht
        have := hq p hf; omega
      · simp only [hc, if_false] at ht; exact hq t ht
end

end Go.Abs
