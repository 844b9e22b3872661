/- A frame is made, and left. -/
import Derived.Test.YtokjbfjkmboehaaGreatAbsI
set_option linter.unusedVariables false
set_option linter.unusedSimpArgs false
namespace Go.Abs
open Go.RowKit

section
variable {P : Program} {w0 w : World} {D : Nat} {g : Gh} {H : Hp}

theorem push_fr {H : Hp} {d : Nat} (hd : d ≤ H.stk.length) : (aPush H).fr d = H.fr d := by
  cases d with
  | zero => rfl
  | succ d =>
    simp only [Hp.fr, aPush, stkGet]
    rw [if_neg (by omega)]
theorem push_new {H : Hp} : (aPush H).fr (H.stk.length + 1) = some Fr.empty := by
  simp [Hp.fr, aPush, stkGet]
theorem pop_fr {H : Hp} {d : Nat} (hd : d < H.stk.length) : (aPop H).fr d = H.fr d := by
  cases d with
  | zero => rfl
  | succ d =>
    obtain ⟨gl, stk⟩ := H
    cases stk with
    | nil => simp at hd
    | cons f fs =>
      simp only [List.length_cons] at hd
      simp only [Hp.fr, aPop, List.tail_cons, stkGet]
      rw [if_neg (by omega)]
theorem pop_none {H : Hp} {d : Nat} (hd : H.stk.length ≤ d) (h0 : 0 < H.stk.length) : (aPop H).fr d = none := by
  cases he : (aPop H).fr d with
  | none => rfl
  | some f =>
    have := Hp.fr_le he
    simp [aPop] at this
    omega

theorem push_obj {H : Hp} {d i : Nat} {o : AO} (h : (aPush H).obj d i = some o) : d ≤ H.stk.length ∧ H.obj d i = some o := by
  have hd : d ≤ (aPush H).stk.length := by
    obtain ⟨n, m, hs, _⟩ := Hp.obj_lt h
    exact Hp.sizes_le hs
  simp only [aPush, List.length_cons] at hd
  by_cases hc : d = H.stk.length + 1
  · subst hc; simp [Hp.obj, push_new, Fr.empty] at h
  · have hd' : d ≤ H.stk.length := by omega
    refine ⟨hd', ?_⟩
    unfold Hp.obj at h ⊢
    rwa [push_fr hd'] at h
theorem push_fam {H : Hp} {d f p : Nat} (h : (aPush H).fam d f = some p) : d ≤ H.stk.length ∧ H.fam d f = some p := by
  have hd : d ≤ (aPush H).stk.length := by
    obtain ⟨n, m, hs, _⟩ := Hp.fam_lt h
    exact Hp.sizes_le hs
  simp only [aPush, List.length_cons] at hd
  by_cases hc : d = H.stk.length + 1
  · subst hc; simp [Hp.fam, push_new, Fr.empty] at h
  · have hd' : d ≤ H.stk.length := by omega
    refine ⟨hd', ?_⟩
    unfold Hp.fam at h ⊢
    rwa [push_fr hd'] at h
theorem push_sizes {H : Hp} {d : Nat} (hd : d ≤ H.stk.length) : (aPush H).sizes d = H.sizes d := by
  unfold Hp.sizes; rw [push_fr hd]

theorem Rel.push (h : Rel w0 D g H w) : Rel w0 (D + 1) g (aPush H) w := by
  have hlive : ∀ {d i b}, g.ρ d i = some b → (aPush H).obj d i = H.obj d i := by
    intro d i b e
    have hd := h.ρd e
    rw [← h.depth] at hd
    unfold Hp.obj; rw [push_fr hd]
  refine ⟨by simp [aPush, h.depth], h.below, fun d i b e => ?_, fun d i d' i' b e e' l l' => ?_, fun d i o b e1 e2 => ?_, h.ρΦ, h.Φok, h.Bok, fun d f p e => ?_, fun d f p d' f' p' b e e' k k' => ?_, fun d f p x e => ?_, h.ρsame⟩
  · obtain ⟨a1, a2, n, m, hs, hl⟩ := h.ρlt d i b e
    exact ⟨a1, a2, n, m, by rw [push_sizes (Hp.sizes_le hs)]; exact hs, hl⟩
  · rw [hlive e] at l; rw [hlive e'] at l'
    exact h.ρinj _ _ _ _ _ e e' l l'
  · exact h.obj d i o b (push_obj e1).2 e2
  · exact h.fam d f p (push_fam e).2
  · exact h.famInj _ _ _ _ _ _ _ _ _ (push_fam k).2 (push_fam k').2
  · obtain ⟨⟨n, m, hs, hl⟩, hq⟩ := h.κlt d f p x e
    exact ⟨⟨n, m, by rw [push_sizes (Hp.sizes_le hs)]; exact hs, hl⟩, fun q hq' => hq q (push_fam hq').2⟩

/-! ### Leaving -/

/-- Does an object of the frame that is left lie in a block? -/
def leftIn (D : Nat) (g : Gh) (H : Hp) (b : Nat) (cs : List V) : Prop := ∃ i, H.obj (D + 1) i = some (.cells cs) ∧ g.ρ (D + 1) i = some b
def rowOf (w : World) (b : Nat) : List Value :=
  match w.heap[b]? with
  | some (.cells c _ _) => c.toList
  | _ => []
open Classical in
/-- The rows of the frame that is left are written no more. -/
noncomputable def Gh.frozen (g : Gh) (D : Nat) (H : Hp) (w : World) : Gh :=
  { g with Φ := fun b => if h : ∃ cs, leftIn D g H b cs then some ((rowOf w b).take h.choose.length) else g.Φ b }

theorem frozen_of (h : Rel w0 (D + 1) g H w) {i b : Nat} {cs : List V} (ho : H.obj (D + 1) i = some (.cells cs)) (hb : g.ρ (D + 1) i = some b) :
    (g.frozen D H w).Φ b = some ((rowOf w b).take cs.length) := by
  have hex : ∃ cs, leftIn D g H b cs := ⟨cs, i, ho, hb⟩
  simp only [Gh.frozen, dif_pos hex]
  obtain ⟨i', ho', hb'⟩ := hex.choose_spec
  obtain ⟨_, rfl⟩ := h.ρinj _ _ _ _ _ hb hb' (by rw [ho]; simp) (by rw [ho']; simp)
  rw [ho] at ho'
  have : cs = hex.choose := by simpa using ho'
  rw [← this]
theorem frozen_not (h : Rel w0 (D + 1) g H w) {b : Nat} {xs : List Value} (hx : g.Φ b = some xs) : (g.frozen D H w).Φ b = some xs := by
  have hex : ¬ ∃ cs, leftIn D g H b cs := by
    rintro ⟨cs, i, ho, hb⟩
    rw [h.ρΦ _ _ _ hb] at hx; cases hx
  simp only [Gh.frozen, dif_neg hex]; exact hx
theorem Gh.le_frozen (h : Rel w0 (D + 1) g H w) : g.le (g.frozen D H w) :=
  ⟨fun _ _ _ e => e, fun b xs e => ⟨[], by rw [frozen_not h e]; simp⟩, fun _ _ _ _ e => e, fun _ _ e => e⟩

theorem Rel.pop (h : Rel w0 (D + 1) g H w) : Rel w0 D ((g.frozen D H w).restr D) (aPop H) w := by
  have hle := Gh.le_frozen h
  have hlen : H.stk.length = D + 1 := h.depth
  have hobj : ∀ {d i o}, (aPop H).obj d i = some o → d ≤ D ∧ H.obj d i = some o := by
    intro d i o e
    have hd : d ≤ D := by
      obtain ⟨n, m, hs, _⟩ := Hp.obj_lt e
      have := Hp.sizes_le hs
      simp [aPop, hlen] at this; exact this
    refine ⟨hd, ?_⟩
    unfold Hp.obj at e ⊢
    rwa [pop_fr (by omega)] at e
  have hfam : ∀ {d f p}, (aPop H).fam d f = some p → d ≤ D ∧ H.fam d f = some p := by
    intro d f p e
    have hd : d ≤ D := by
      obtain ⟨n, m, hs, _⟩ := Hp.fam_lt e
      have := Hp.sizes_le hs
      simp [aPop, hlen] at this; exact this
    refine ⟨hd, ?_⟩
    unfold Hp.fam at e ⊢
    rwa [pop_fr (by omega)] at e
  have hsz : ∀ {d}, d ≤ D → (aPop H).sizes d = H.sizes d := by
    intro d hd; unfold Hp.sizes; rw [pop_fr (by omega)]
  have hρ : ∀ {d i b}, ((g.frozen D H w).restr D).ρ d i = some b → d ≤ D ∧ g.ρ d i = some b := fun e => Gh.restr_ρ.1 e
  have hκ : ∀ {d f p x}, ((g.frozen D H w).restr D).κ d f p = some x → d ≤ D ∧ g.κ d f p = some x := fun e => Gh.restr_κ.1 e
  have hlive : ∀ {d i b}, g.ρ d i = some b → d ≤ D → (aPop H).obj d i = H.obj d i := by
    intro d i b e hd
    unfold Hp.obj; rw [pop_fr (by omega)]
  refine ⟨by simp [aPop, hlen], h.below, fun d i b e => ?_, fun d i d' i' b e e' l l' => ?_, fun d i o b e1 e2 => ?_, fun d i b e => ?_, fun b xs e => ?_, h.Bok, fun d f p e => ?_, fun d f p d' f' p' b e e' k k' q q' => ?_, fun d f p x e => ?_, fun d i d' i' b e e' => h.ρsame _ _ _ _ _ (hρ e).2 (hρ e').2⟩
  · obtain ⟨hd, hb⟩ := hρ e
    obtain ⟨a1, a2, n, m, hs, hl⟩ := h.ρlt d i b hb
    exact ⟨a1, a2, n, m, by rw [hsz hd]; exact hs, hl⟩
  · obtain ⟨hd, hb⟩ := hρ e
    obtain ⟨hd', hb'⟩ := hρ e'
    rw [hlive hb hd] at l; rw [hlive hb' hd'] at l'
    exact h.ρinj _ _ _ _ _ hb hb' l l'
  · obtain ⟨hd, hb⟩ := hρ e2
    obtain ⟨x, hx, hO⟩ := h.obj d i o b (hobj e1).2 hb
    refine ⟨x, hx, ?_⟩
    rw [Gh.restr_restr _ hd]
    exact hO.mono (hle.restr d)
  · obtain ⟨hd, hb⟩ := hρ e
    have hex : ¬ ∃ cs, leftIn D g H b cs := by
      rintro ⟨cs, i', ho', hb'⟩
      have := h.ρsame _ _ _ _ _ hb hb'
      omega
    show (g.frozen D H w).Φ b = none
    simp only [Gh.frozen, dif_neg hex]
    exact h.ρΦ d i b hb
  · have e' : (g.frozen D H w).Φ b = some xs := e
    by_cases hex : ∃ cs, leftIn D g H b cs
    · obtain ⟨cs, i, ho, hb⟩ := hex
      rw [frozen_of h ho hb] at e'
      obtain ⟨x, hx, ys, zs, ty, fz, rfl, hyr, _⟩ := h.obj _ i _ b ho hb
      simp only [Option.some.injEq, rowOf, hx] at e'
      refine ⟨(ys ++ zs).drop cs.length, ty, fz, ?_⟩
      rw [hx, ← e', List.take_append_drop]
    · simp only [Gh.frozen, dif_neg hex] at e'
      exact h.Φok b xs e'
  · obtain ⟨hd, e1⟩ := hfam e
    obtain ⟨b, e', k1, k2, xs, zs, ty, fz, k3, r⟩ := h.fam d f p e1
    exact ⟨b, e', Gh.restr_κ.2 ⟨hd, k1⟩, k2, xs, zs, ty, fz, frozen_not h k3, r⟩
  · exact h.famInj _ _ _ _ _ _ _ _ _ (hfam k).2 (hfam k').2 (hκ q).2 (hκ q').2
  · obtain ⟨hd, e1⟩ := hκ e
    obtain ⟨⟨n, m, hs, hl⟩, hq⟩ := h.κlt d f p x e1
    exact ⟨⟨n, m, by rw [hsz hd]; exact hs, hl⟩, fun q hq' => hq q (hfam hq').2⟩

theorem freezeC_spec (h : Rel w0 (D + 1) g H w) {v v' : V} {x : Value} (hf : freezeC D H v = some v') (hv : VR g v x) : VR (g.frozen D H w) v' x := by
  have hle := Gh.le_frozen h
  unfold freezeC at hf
  split at hf
  · rename_i d i off len s
    split at hf
    · simp only [Option.some.injEq] at hf; subst hf; exact hv.mono hle
    · rename_i hd
      split at hf
      · rename_i cs ho
        split at hf
        · rename_i hl
          split at hf
          · rename_i ys' hfit
            simp only [Option.some.injEq] at hf; subst hf
            simp only [VR] at hv
            obtain ⟨b, cap, n, hb, rfl, hlc, hB, hn⟩ := hv
            have hd' : d = D + 1 := by have := h.ρd hb; omega
            subst hd'
            obtain ⟨o, hx, ys, zs, ty, fz, rfl, hyr, _⟩ := h.obj _ i _ b ho hb
            have hyl := hyr.length
            have hrow : (g.frozen D H w).Φ b = some ys := by
              rw [frozen_of h ho hb]
              simp only [rowOf, hx]
              rw [List.take_append_of_le_length (by omega), List.take_of_length_le (by omega)]
            simp only [VR]
            refine ⟨some ⟨b, off, none⟩, cap, (ys.drop off).take (len * s), rfl, hlc, ?_, (fun e => by cases e), (fun a e => by cases e; rfl), (fun _ => ⟨b, off, rfl, ys, hrow, fun j y hj => ?_⟩), trivial⟩
            · have h1 : VRL g ((cs.drop off).take (len * s)) ((ys.drop off).take (len * s)) := ((hyr.mono (Gh.restr_le _ _)).drop).take
              exact (VRL.fit hfit h1).mono (hle.restr 0)
            · rw [List.getElem?_take] at hj
              split at hj
              · rw [List.getElem?_drop] at hj; exact hj
              · cases hj
          · cases hf
        · cases hf
      · cases hf
  · simp only [Option.some.injEq] at hf; subst hf; exact hv.mono hle
theorem freezeL_spec (h : Rel w0 (D + 1) g H w) : ∀ {vs vs' : List V} {xs : List Value}, freezeL D H vs = some vs' → VRL g vs xs → VRL (g.frozen D H w) vs' xs
  | [], _, _, hf, hv => by simp only [freezeL, Option.some.injEq] at hf; subst hf; simpa [VRL] using hv
  | v :: vs, _, _, hf, hv => by
    simp only [freezeL] at hf
    simp only [VRL] at hv
    obtain ⟨y, ys, rfl, h1, h2⟩ := hv
    split at hf
    · rename_i v' hv'
      split at hf
      · rename_i vs' hvs'
        simp only [Option.some.injEq] at hf; subst hf
        exact VRL.cons (freezeC_spec h hv' h1) (freezeL_spec h hvs' h2)
      · cases hf
    · cases hf
theorem freezeA_spec (h : Rel w0 (D + 1) g H w) {v v' : V} {x : Value} (hf : freezeA D H v = some v') (hv : VR g v x) : VR (g.frozen D H w) v' x := by
  unfold freezeA at hf
  split at hf
  · rename_i cs
    split at hf
    · rename_i cs' hcs
      simp only [Option.some.injEq] at hf; subst hf
      simp only [VR] at hv ⊢
      obtain ⟨ys, rfl, h1⟩ := hv
      exact ⟨ys, rfl, freezeL_spec h hcs h1⟩
    · cases hf
  · exact freezeC_spec h hf hv
theorem freezeAs_spec (h : Rel w0 (D + 1) g H w) : ∀ {vs vs' : List V} {xs : List Value}, freezeAs D H vs = some vs' → VRL g vs xs → VRL (g.frozen D H w) vs' xs
  | [], _, _, hf, hv => by simp only [freezeAs, Option.some.injEq] at hf; subst hf; simpa [VRL] using hv
  | v :: vs, _, _, hf, hv => by
    simp only [freezeAs] at hf
    simp only [VRL] at hv
    obtain ⟨y, ys, rfl, h1, h2⟩ := hv
    split at hf
    · rename_i v' hv'
      split at hf
      · rename_i vs' hvs'
        simp only [Option.some.injEq] at hf; subst hf
        exact VRL.cons (freezeA_spec h hv' h1) (freezeAs_spec h hvs' h2)
      · cases hf
    · cases hf

theorem tupled_spec {g : Gh} {vs : List V} {xs : List Value} (h : VRL g vs xs) : VR g (tupled vs) (if h : (⟨xs⟩ : Array Value).size = 1 then (⟨xs⟩ : Array Value)[0] else .tuple ⟨xs⟩) := by
  have hl := h.length
  unfold tupled
  split
  · rename_i v
    obtain ⟨x, rfl, hx⟩ := h.one
    simpa using hx
  · rename_i hne
    have : ¬ (⟨xs⟩ : Array Value).size = 1 := by
      intro e
      simp only [List.size_toArray] at e
      rw [e] at hl
      obtain ⟨v, rfl⟩ := List.length_eq_one_iff.1 hl.symm
      exact hne v rfl
    rw [dif_neg this]
    simp only [VR]
    exact ⟨xs, rfl, h⟩

/-- A function is left. -/
theorem leave_spec {gc : Gh} {Hc : Hp} (hc : gc.restr D = gc) (h : Rel w0 (D + 1) g H w) (hE : Eff gc g (aPush Hc) H) (hdep : Hc.stk.length = D) {keep : Bool} {vs : List V} {xs : List Value} {r : V} {H' : Hp} (hv : VRL g vs xs) (hl : leave keep D vs H = some (r, H')) :
    ∃ g', Rel w0 D g' H' w ∧ VR g' r (if h : (⟨xs⟩ : Array Value).size = 1 then (⟨xs⟩ : Array Value)[0] else .tuple ⟨xs⟩) ∧ Eff gc g' Hc H' := by
  unfold leave at hl
  split at hl
  · rename_i vs' hfr
    split at hl
    · rename_i v hfit
      simp only [Option.some.injEq, Prod.mk.injEq] at hl
      obtain ⟨rfl, rfl⟩ := hl
      have h1 := freezeAs_spec h hfr hv
      have h2 : VR ((g.frozen D H w).restr D) v _ := VR.fit hfit (tupled_spec h1)
      refine ⟨_, h.pop, ?_, ⟨⟨?_, fun d i n m hs hlt hn => ?_⟩, fun d n m hs => ?_⟩⟩
      · cases keep with
        | true => exact h2
        | false => exact h2.eraseV
      · have := (hE.le.trans (Gh.le_frozen h)).restr D
        rwa [hc] at this
      · have hd := Hp.sizes_le hs
        have := hE.grow.unborn d i n m (by rw [push_sizes hd]; exact hs) hlt hn
        simp only [Gh.restr]
        split
        · exact this
        · rfl
      · have hd := Hp.sizes_le hs
        obtain ⟨n', m', hs', hle⟩ := hE.sizes d n m (by rw [push_sizes hd]; exact hs)
        refine ⟨n', m', ?_, hle⟩
        unfold Hp.sizes at hs' ⊢
        rw [pop_fr (by rw [h.depth]; omega)]; exact hs'
    · cases hl
  · cases hl
end

end Go.Abs
