/- Operations that turn the heap: stores, what is made, maps. -/
import Derived.Test.YtokjbfjkmboehaaGreatAbsM
set_option linter.unusedVariables false
set_option linter.unusedSimpArgs false
namespace Go.Abs
open Go.RowKit

/-- What a step that turns the heap leaves: what is known grows, the heap's objects become more. -/
structure Eff (g g' : Gh) (H H' : Hp) : Prop where
  grow : Grow g g' H
  sizes : ∀ d n m, H.sizes d = some (n, m) → ∃ n' m', H'.sizes d = some (n', m') ∧ n ≤ n'

theorem Grow.trans {g g' g'' : Gh} {H : Hp} (a : Grow g g' H) (b : Grow g' g'' H) : Grow g g'' H :=
  ⟨a.le.trans b.le, fun d i n m hs hl hn => b.unborn d i n m hs hl (a.unborn d i n m hs hl hn)⟩
theorem Eff.of_grow {g g' : Gh} {H : Hp} (a : Grow g g' H) : Eff g g' H H := ⟨a, fun d n m h => ⟨n, m, h, Nat.le_refl _⟩⟩
theorem Eff.refl (g : Gh) (H : Hp) : Eff g g H H := .of_grow (.refl g H)
theorem Eff.trans {g g' g'' : Gh} {H H' H'' : Hp} (a : Eff g g' H H') (b : Eff g' g'' H' H'') : Eff g g'' H H'' := by
  refine ⟨⟨a.grow.le.trans b.grow.le, fun d i n m hs hl hn => ?_⟩, fun d n m hs => ?_⟩
  · obtain ⟨n', m', hs', hle⟩ := a.sizes d n m hs
    exact b.grow.unborn d i n' m' hs' (by omega) (a.grow.unborn d i n m hs hl hn)
  · obtain ⟨n', m', hs', hle⟩ := a.sizes d n m hs
    obtain ⟨n'', m'', hs'', hle'⟩ := b.sizes d n' m' hs'
    exact ⟨n'', m'', hs'', by omega⟩
theorem Eff.le {g g' : Gh} {H H' : Hp} (a : Eff g g' H H') : g.le g' := a.grow.le
/-- The heap's objects are as many as they were. -/
theorem Eff.of_same {g g' : Gh} {H H' : Hp} (hle : g.le g') (hρ : ∀ d i, g'.ρ d i = g.ρ d i) (hs : ∀ d n m, H.sizes d = some (n, m) → ∃ m', H'.sizes d = some (n, m')) : Eff g g' H H' :=
  ⟨.of_ρ hle hρ, fun d n m h => by obtain ⟨m', h'⟩ := hs d n m h; exact ⟨n, m', h', Nat.le_refl _⟩⟩

section
variable {P : Program} {w0 w : World} {D : Nat} {g : Gh} {H : Hp}

/-! ### Cells laid into a row -/

theorem oneL_spec : ∀ {cs : List V} {ys : List Value}, oneL cs = true → VRL g cs ys → ∀ y ∈ ys, y.oneCell' = true
  | [], _, _, h => by simp only [VRL] at h; subst h; simp
  | c :: cs, _, ho, h => by
    simp only [oneL, Bool.and_eq_true] at ho
    simp only [VRL] at h
    obtain ⟨y, ys, rfl, h1, h2⟩ := h
    intro z hz
    rcases List.mem_cons.1 hz with rfl | hz
    · cases c <;> simp only [oneC, Bool.false_eq_true, false_and] at ho <;> simp only [VR] at h1
      all_goals first
        | (subst h1; rfl)
        | (obtain ⟨_, _, _, _, rfl, _⟩ := h1; rfl)
        | (obtain ⟨_, _, _, rfl, _⟩ := h1; rfl)
        | (obtain ⟨_, _, rfl, _⟩ := h1; rfl)
        | (obtain ⟨_, _, rfl⟩ := h1; rfl)
    · exact oneL_spec ho.2 h2 z hz

theorem setAll_append {α : Type} : ∀ (vs : List α) (ys zs : List α) (off : Nat), off + vs.length ≤ ys.length → setAll (ys ++ zs) off vs = setAll ys off vs ++ zs
  | [], _, _, _, _ => rfl
  | v :: vs, ys, zs, off, h => by
    simp only [List.length_cons] at h
    simp only [setAll]
    rw [List.set_append, if_pos (by omega), setAll_append vs _ zs (off + 1) (by simp; omega)]
/-- Cells laid right behind others. -/
theorem setAll_behind {α : Type} : ∀ (vs : List α) (ys zs : List α), vs.length ≤ zs.length → setAll (ys ++ zs) ys.length vs = ys ++ vs ++ zs.drop vs.length
  | [], ys, zs, _ => by simp [setAll]
  | v :: vs, ys, z :: zs, h => by
    simp only [List.length_cons] at h
    simp only [setAll]
    rw [List.set_append, if_neg (by omega)]
    simp only [Nat.sub_self, List.set_cons_zero]
    have := setAll_behind vs (ys ++ [v]) zs (by omega)
    simp only [List.length_append, List.length_cons, List.length_nil, List.append_assoc, List.cons_append, List.nil_append] at this
    rw [this]
    simp
  | v :: vs, ys, [], h => by simp at h

/-- The model's writing of cells into a row. -/
theorem run_storeRow {b o : Nat} {ty : TypeId} {fz : Nat × Nat} : ∀ (vs : List Value) (i : Nat) (full : List Value) (w : World), w.heap[b]? = some (.cells ⟨full⟩ ty fz) → o + i + vs.length ≤ full.length → fzOK fz full.length →
    (∀ v ∈ vs, v.oneCell' = true) → ∃ w', (storeCells ⟨b, o, none⟩ vs i).run P w = .ok () w' ∧ w'.heap[b]? = some (.cells ⟨setAll full (o + i) vs⟩ ty fz) ∧ w'.heap.size = w.heap.size ∧ (∀ c, c ≠ b → w'.heap[c]? = w.heap[c]?) ∧
      w'.os = w.os ∧ w'.tape = w.tape ∧ w'.output = w.output
  | [], i, full, w, hx, hl, hz, h1 => ⟨w, rfl, hx, rfl, fun _ _ => rfl, rfl, rfl, rfl⟩
  | v :: vs, i, full, w, hx, hl, hz, h1 => by
    simp only [List.length_cons] at hl
    have hlt : o + i < full.length := by omega
    have hcell : w.cell? ⟨b, o + i, none⟩ = some full[o + i] := by rw [cell_of hx]; simp [hlt]
    have hfro : w.frozen? ⟨b, o + i, none⟩ = false := by
      have := hz (o + i) hlt
      obtain ⟨lo, hi⟩ := fz
      simp only [World.frozen?, hx, Bool.and_eq_false_iff, decide_eq_false_iff_not]
      simp only at this
      omega
    have hset : (w.setCell ⟨b, o + i, none⟩ v).heap[b]? = some (.cells ⟨full.set (o + i) v⟩ ty fz) := by
      simp [World.setCell, Array.getElem?_modify, hx]
    have hoth : ∀ c, c ≠ b → (w.setCell ⟨b, o + i, none⟩ v).heap[c]? = w.heap[c]? := by
      intro c hc
      simp only [World.setCell, Array.getElem?_modify]
      rw [if_neg (Ne.symm hc)]
    obtain ⟨w', e1, e2, e3, e4, e5, e6, e7⟩ := run_storeRow (b := b) (o := o) vs (i + 1) (full.set (o + i) v) (w.setCell ⟨b, o + i, none⟩ v) hset (by simp; omega) (by simpa using hz) (fun x hx => h1 x (by simp [hx]))
    refine ⟨w', ?_, ?_, ?_, fun c hc => ?_, e5, e6, e7⟩
    · simp only [storeCells, Sem.run_bind, addr_add]
      rw [run_store P w _ v _ (h1 v (by simp)), hcell]
      simp only [hfro, Bool.false_eq_true, if_false, Result.andThen_ok]
      exact e1
    · rw [e2, show o + (i + 1) = o + i + 1 by omega]; rfl
    · rw [e3]; simp [World.setCell]
    · rw [e4 c hc, hoth c hc]

/-- A value as a longer-lived cell takes it. -/
theorem adopt_spec (h : Rel w0 D g H w) {d0 : Nat} {v v' : V} {H' : Hp} {x : Value} (hv : VR g v x) (ha : adopt d0 v H = some (v', H')) :
    ∃ g', Rel w0 D g' H' w ∧ Eff g g' H H' ∧ VR (g'.restr d0) v' x ∧ (∀ d i, H'.obj d i = H.obj d i) ∧ (∀ d i, g'.ρ d i = g.ρ d i) := by
  have plain : ∀ v1, fitV d0 v = some v1 → v1 = v' → H = H' → ∃ g', Rel w0 D g' H' w ∧ Eff g g' H H' ∧ VR (g'.restr d0) v' x ∧ (∀ d i, H'.obj d i = H.obj d i) ∧ (∀ d i, g'.ρ d i = g.ρ d i) := by
    intro v1 hf e1 e2; subst e1; subst e2
    exact ⟨g, h, .refl _ _, VR.fit hf hv, fun _ _ => rfl, fun _ _ => rfl⟩
  unfold adopt at ha
  split at ha
  · rename_i len cs d f p
    split at ha
    · rename_i hd
      simp only [Option.some.injEq, Prod.mk.injEq] at ha
      exact plain _ (by simp [fitV, hd]) ha.1 ha.2
    · rename_i hd
      split at ha
      · rename_i hfam
        split at ha
        · rename_i f' H1 hn
          simp only [Option.some.injEq, Prod.mk.injEq] at ha
          obtain ⟨rfl, rfl⟩ := ha
          obtain ⟨b, e, hκ, hb0, xs, zs, ty, fz, hΦ, hxe, hx, hz⟩ := h.fam d f p hfam
          have h1 := h.dropFam hfam
          have hnofam : ∀ d' f' p' e', (H.setFam d f none).fam d' f' = some p' → g.κ d' f' p' ≠ some (b, e') := by
            intro d' f'' p' e' k1 k2
            rw [Hp.fam_setFam ⟨p, hfam⟩] at k1
            by_cases hc : d' = d ∧ f'' = f
            · simp [hc] at k1
            · simp only [hc, if_false] at k1
              exact hc (h.famInj _ _ _ _ _ _ _ _ _ k1 hfam k2 hκ)
          obtain ⟨h2, hle⟩ := h1.newFam hn hb0 hΦ hx hz hnofam
          obtain ⟨q1, q2, q3, q4, ⟨m, q5, q6⟩, q7⟩ := Hp.newFam_spec hn
          refine ⟨_, h2, Eff.of_same hle (fun _ _ => rfl) (fun d' n m' hs => ?_), ?_, fun d' i' => by rw [q3, Hp.obj_setFam], fun _ _ => rfl⟩
          · rw [← Hp.sizes_setFam (d := d) (f := f) (p := none)] at hs
            by_cases hc : d' = d0
            · subst hc; rw [q5] at hs; cases hs; exact ⟨_, q6⟩
            · exact ⟨m', by rw [q7 d' hc]; exact hs⟩
          · simp only [VR] at hv ⊢
            obtain ⟨base, cap, ys, rfl, hl, hc, s1, s2, s3, s4⟩ := hv
            refine ⟨base, cap, ys, rfl, hl, ?_, s1, s2, fun hy => ?_, ?_⟩
            · rw [Gh.restr_restr _ (Nat.zero_le _)]; exact hc.mono (hle.restr 0)
            · obtain ⟨b', o', k1, k2⟩ := s3 hy; exact ⟨b', o', k1, k2⟩
            · obtain ⟨b', o', n, s, k1, k2, k3, k4, k5, k6⟩ := s4
              rw [hκ] at k2; cases k2
              refine ⟨b, o', n, s, k1, ?_, k3, k4, k5, k6⟩
              simp [Gh.restr, Gh.addκ, hxe]
        · cases ha
      · simp only [Option.some.injEq, Prod.mk.injEq] at ha
        exact plain _ (by simp [fitV, hd]) ha.1 ha.2
  · split at ha
    · rename_i v1 hf
      simp only [Option.some.injEq, Prod.mk.injEq] at ha
      exact plain _ hf ha.1 ha.2
    · cases ha

theorem allInt_iff : ∀ {cs : List V}, allInt cs = true ↔ ∀ v ∈ cs, ∃ k n, v = .int k n
  | [] => by simp [allInt]
  | v :: vs => by
    cases v with
    | int k n => simp only [allInt, List.mem_cons, forall_eq_or_imp]; rw [allInt_iff]; simp
    | _ => simp [allInt]
theorem okOver_int {cs new : List V} (h : okOver cs new = true) (hi : allInt cs = true) : allInt new = true := by
  unfold okOver at h
  split at h
  · assumption
  · simp [hi] at h
theorem mem_setAll {α : Type} : ∀ {vs cs : List α} {off : Nat} {x : α}, x ∈ setAll cs off vs → x ∈ cs ∨ x ∈ vs
  | [], cs, off, x, h => .inl h
  | v :: vs, cs, off, x, h => by
    simp only [setAll] at h
    rcases mem_setAll h with h | h
    · rcases List.mem_or_eq_of_mem_set h with h | h
      · exact .inl h
      · exact .inr (by simp [h])
    · exact .inr (by simp [h])
theorem allInt_setAll {cs vs : List V} {off : Nat} (h : allInt vs = true) (k : allInt cs = true) : allInt (setAll cs off vs) = true :=
  allInt_iff.2 fun v hv => (mem_setAll hv).elim (allInt_iff.1 k v) (allInt_iff.1 h v)
theorem allInt_append {cs vs : List V} (k : allInt cs = true) (h : allInt vs = true) : allInt (cs ++ vs) = true :=
  allInt_iff.2 fun v hv => (List.mem_append.1 hv).elim (allInt_iff.1 k v) (allInt_iff.1 h v)

theorem sim_store {t : TypeId} {n : Nat} {p v r : V} {x y : Value} {H' : Hp} (h : Rel w0 D g H w) (hn : tSize P t = some n) (hp : VR g p x) (hv : VR g v y) (hr : pStore n p v H = some (r, H')) :
    ∃ g' w', (Instr.storeAt t x y).run P w = .ok () w' ∧ r = .undef ∧ Rel w0 D g' H' w' ∧ Eff g g' H H' := by
  unfold pStore at hr
  split at hr
  · rename_i H1 hst
    simp only [Option.some.injEq, Prod.mk.injEq] at hr
    obtain ⟨rfl, rfl⟩ := hr
    cases p with
    | ptr d i off =>
      simp only [aStore] at hst
      split at hst
      · rename_i v' H2 had
        obtain ⟨g', h2, hE, hv2, hob, hρ⟩ := adopt_spec h hv had
        split at hst
        · rename_i cs ho
          split at hst
          · rename_i hcond
            obtain ⟨c1, c2, c3, c4⟩ := hcond
            simp only [Option.some.injEq] at hst; subst hst
            simp only [VR] at hp
            obtain ⟨b, hb, rfl⟩ := hp
            have hb' : g'.ρ d i = some b := by rw [hρ]; exact hb
            obtain ⟨ob, hx, ys, zs, ty, fz, rfl, hyr, hfz, hI⟩ := h2.obj d i _ b ho hb'
            have hu : v' ≠ .unk := by rintro rfl; simp [V.cells, oneL, oneC] at c3
            have hcv := hv2.cells hu
            have hcl := hcv.length
            have hyl := hyr.length
            obtain ⟨w', e1, e2, e3, e4, e5, e6, e7⟩ := run_storeRow (P := P) (o := off) y.cells.toList 0 (ys ++ zs) w hx (by simp at hcl ⊢; omega) (by simpa using hfz) (oneL_spec c3 hcv)
            refine ⟨g', w', ?_, rfl, ?_, hE.trans (.of_same (.refl _) (fun _ _ => rfl) (fun d' n' m' hs => ⟨m', by rw [Hp.sizes_setObj]; exact hs⟩))⟩
            · simp only [Instr.storeAt, storeVar, Instr.sureAddr, Sem.run_bind, Sem.run_pure, Result.andThen_ok, run_size hn]
              rw [if_neg (by simp at hcl; omega)]
              exact e1
            · refine h2.setObj hb' (by rw [ho]; simp) hx e2 e3 e4 e5 e6 e7 (fun c ty' fz' e => ?_) ?_
              · cases e; exact ⟨_, ty, rfl, by simp [setAll_length]⟩
              · rw [Nat.add_zero, setAll_append _ _ _ _ (by simp at hcl ⊢; omega)]
                exact ⟨_, zs, ty, fz, rfl, hyr.setAll hcv, by rw [setAll_length]; exact hfz, hI.imp id (fun hi => allInt_setAll (okOver_int c4 hi) hi)⟩
          · cases hst
        · cases hst
      · cases hst
    | _ => simp [aStore] at hst
  · cases hr

/-! ### What is made -/

/-- A new object, and its row in memory. -/
theorem sim_new (h : Rel w0 D g H w) {d i : Nat} {cs : List V} {H' : Hp} (hn : H.newObj d (.cells cs) = some (i, H')) {ys zs : List Value} (hr : VRL (g.restr d) cs ys) (ty : TypeId) (fz : Nat × Nat) (hfz : fzOK fz (ys.length + zs.length)) (hI : fz = (0, 0) ∨ allInt cs = true) :
    ∃ g', Rel w0 D g' H' (w.alloc (.cells ⟨ys ++ zs⟩ ty fz)) ∧ Eff g g' H H' ∧ g'.ρ d i = some w.heap.size ∧ g'.B w.heap.size = some (ys.length + zs.length) := by
  obtain ⟨h1, hρn⟩ := h.hoist hn
  obtain ⟨q1, q2, q3, q4, ⟨m, q5, q6⟩, q7, q8⟩ := Hp.newObj_spec hn
  obtain ⟨h2, hle⟩ := h1.born (d := d) (i := i) (o := .cells cs) (by rw [q3]; simp) hρn (ys ++ zs) ty fz ⟨ys, zs, ty, fz, rfl, hr, hfz, hI⟩
  refine ⟨_, h2, ⟨⟨hle, fun d' i' n' m' hs hl hu => ?_⟩, fun d' n' m' hs => ?_⟩, by simp [Gh.addρ], by simp [Gh.addρ]⟩
  · simp only [Gh.addρ]
    by_cases hc : d' = d ∧ i' = i
    · obtain ⟨rfl, rfl⟩ := hc; rw [q5] at hs; cases hs; exact (Nat.lt_irrefl _ hl).elim
    · simp only [hc, if_false]; exact hu
  · by_cases hc : d' = d
    · subst hc; rw [q5] at hs; cases hs; exact ⟨_, _, q6, by omega⟩
    · exact ⟨n', m', by rw [q7 d' hc]; exact hs, Nat.le_refl _⟩
theorem sim_newMap (h : Rel w0 D g H w) {d i : Nat} {H' : Hp} (hn : H.newObj d (.map []) = some (i, H')) :
    ∃ g', Rel w0 D g' H' (w.alloc (.map #[] 0)) ∧ Eff g g' H H' ∧ g'.ρ d i = some w.heap.size := by
  obtain ⟨h1, hρn⟩ := h.hoist hn
  obtain ⟨q1, q2, q3, q4, ⟨m, q5, q6⟩, q7, q8⟩ := Hp.newObj_spec hn
  obtain ⟨h2, hle⟩ := h1.bornMap (d := d) (i := i) (o := .map []) (by rw [q3]; simp) hρn (.map #[] 0) ⟨[], 0, rfl, by simp [ER]⟩
  refine ⟨_, h2, ⟨⟨hle, fun d' i' n' m' hs hl hu => ?_⟩, fun d' n' m' hs => ?_⟩, by simp [Gh.addM]⟩
  · simp only [Gh.addM]
    by_cases hc : d' = d ∧ i' = i
    · obtain ⟨rfl, rfl⟩ := hc; rw [q5] at hs; cases hs; exact (Nat.lt_irrefl _ hl).elim
    · simp only [hc, if_false]; exact hu
  · by_cases hc : d' = d
    · subst hc; rw [q5] at hs; cases hs; exact ⟨_, _, q6, by omega⟩
    · exact ⟨n', m', by rw [q7 d' hc]; exact hs, Nat.le_refl _⟩

theorem sim_alloc {t : TypeId} {d : Nat} {z r : V} {H' : Hp} (h : Rel w0 D g H w) (hz : tZero P t = some z) (hr : pAlloc d z.cells H = some (r, H')) :
    ∃ x g' w', (Instr.alloc t true (.tuple #[])).run P w = .ok x w' ∧ VR g' r x ∧ Rel w0 D g' H' w' ∧ Eff g g' H H' := by
  unfold pAlloc at hr
  split at hr
  · rename_i i H1 hn
    simp only [Option.some.injEq, Prod.mk.injEq] at hr
    obtain ⟨rfl, rfl⟩ := hr
    obtain ⟨c, rfl, hrz⟩ := run_zero (w := w) hz
    obtain ⟨g', q1, q2, q3, q4⟩ := sim_new h hn (ofConst_cells (g.restr d) c) (zs := []) t (0, 0) (fzOK_zero _) (.inl rfl)
    refine ⟨.pointer (some ⟨w.heap.size, 0, none⟩), g', _, ?_, by simp only [VR]; exact ⟨_, q3, rfl⟩, q1, q2⟩
    simp only [Instr.alloc, Sem.run_bind, hrz, Result.andThen_ok, newVar, newRow, run_newObj, Sem.run_pure]
    rw [List.append_nil]; rfl
  · cases hr

theorem fitV_unk {d : Nat} {v v' : V} (h : fitV d v = some v') : v' ≠ .unk := by
  rintro rfl
  cases v with
  | sl n cs t =>
    cases t with
    | room d' f p => simp only [fitV] at h; split at h <;> cases h
    | _ => simp [fitV] at h
  | ptr d' i o => simp only [fitV] at h; split at h <;> cases h
  | sref d' i o l s => simp only [fitV] at h; split at h <;> cases h
  | mapr d' i => simp only [fitV] at h; split at h <;> cases h
  | fn f a c =>
    simp only [fitV] at h
    split at h
    · split at h <;> cases h
    · cases h
  | agg cs => simp only [fitV] at h; split at h <;> cases h
  | tup cs => simp only [fitV] at h; split at h <;> cases h
  | _ => simp [fitV] at h

theorem sim_box {t : TypeId} {d : Nat} {v r : V} {y : Value} {H' : Hp} (h : Rel w0 D g H w) (hv : VR g v y) (hr : pBox d v H = some (r, H')) :
    ∃ x g' w', (Instr.box t y).run P w = .ok x w' ∧ VR g' r x ∧ Rel w0 D g' H' w' ∧ Eff g g' H H' := by
  unfold pBox at hr
  split at hr
  · rename_i v' hf
    split at hr
    · rename_i i H1 hn
      simp only [Option.some.injEq, Prod.mk.injEq] at hr
      obtain ⟨rfl, rfl⟩ := hr
      have hu := fitV_unk hf
      obtain ⟨g', q1, q2, q3, q4⟩ := sim_new h hn ((VR.fit hf hv).cells hu) (zs := []) t (0, 0) (fzOK_zero _) (.inl rfl)
      refine ⟨.pointer (some ⟨w.heap.size, 0, none⟩), g', _, ?_, by simp only [VR]; exact ⟨_, q3, rfl⟩, q1, q2⟩
      simp only [Instr.box, Sem.run_bind, Result.andThen_ok, newVar, newRow, run_newObj, Sem.run_pure]
      rw [List.append_nil]; rfl
    · cases hr
  · cases hr

theorem sim_makeMap {t : TypeId} {d : Nat} {rv : Option Value} {r : V} {H' : Hp} (h : Rel w0 D g H w) (hrv : rv = none ∨ ∃ k e kd n, P.underlying t = some (.map k e) ∧ rv = some (.int kd n)) (hr : pMakeMap d H = some (r, H')) :
    ∃ x g' w', (Instr.makeMap t rv).run P w = .ok x w' ∧ VR g' r x ∧ Rel w0 D g' H' w' ∧ Eff g g' H H' := by
  unfold pMakeMap at hr
  split at hr
  · rename_i i H1 hn
    simp only [Option.some.injEq, Prod.mk.injEq] at hr
    obtain ⟨rfl, rfl⟩ := hr
    obtain ⟨g', q1, q2, q3⟩ := sim_newMap h hn
    refine ⟨.map (some w.heap.size), g', _, ?_, by simp only [VR]; exact ⟨_, q3, rfl⟩, q1, q2⟩
    rcases hrv with rfl | ⟨k, e, kd, n, hu, rfl⟩
    · simp only [Instr.makeMap, Sem.run_bind, Result.andThen_ok, run_newObj, Sem.run_pure]; rfl
    · simp only [Instr.makeMap, Sem.run_bind, run_under hu, asInt, asIntOf, Result.andThen_ok, run_newObj, Sem.run_pure]; rfl
  · cases hr
end

end Go.Abs
