/- Operations that turn the heap: append, and what the function may write itself. -/
import Derived.Test.YtokjbfjkmboehaaGreatAbsG
set_option linter.unusedVariables false
set_option linter.unusedSimpArgs false
namespace Go.Abs
open Go.RowKit

section
variable {P : Program} {w0 w : World} {D : Nat} {g : Gh} {H : Hp}

theorem SL.grown {g : Gh} {b o : Nat} {ys news : List Value} {len cap n s d f p : Nat} (hs : 0 < s) {nB : Nat} (hy : (ys ++ news).length = (len + n) * s) (hseg : g.seg b o (ys ++ news)) (hκ : g.κ d f p = some (b, o + (ys ++ news).length)) (hB : g.B b = some nB)
    (hfit : o + cap * s ≤ nB) : SL g (some ⟨b, o, none⟩) (ys ++ news) (len + n) cap (.room d f p) :=
  ⟨(fun e => by cases e), (fun a e => by cases e; rfl), (fun _ => ⟨b, o, rfl, hseg⟩), ⟨b, o, nB, s, rfl, hκ, hB, hs, hy, hfit⟩⟩

/-- A slice is made anew, with room behind it. -/
theorem newRoom (h : Rel w0 D g H w) {D' f len s : Nat} {H' : Hp} {cs : List V} {ys zs : List Value} {ty : TypeId} {ncap : Nat} (hn : H.newFam D' len = some (f, H')) (hr : VRL (g.restr 0) cs ys) (hs : 0 < s) (hy : ys.length = len * s) (hle : len ≤ ncap) (hz : ys.length + zs.length = ncap * s) :
    ∃ g', VR g' (.sl len cs (.room D' f len)) (.slice (some ⟨w.heap.size, 0, none⟩) len ncap) ∧ Rel w0 D g' H' (w.alloc (.cells ⟨ys ++ zs⟩ ty)) ∧ Eff g g' H H' := by
  obtain ⟨h1, hle1⟩ := h.commit ys zs ty (0, 0)
  obtain ⟨q1, q2, q3, q4, ⟨m, q5, q6⟩, q7⟩ := Hp.newFam_spec hn
  obtain ⟨h2, hle2⟩ := h1.newFam hn (b := w.heap.size) (xs := ys) (zs := zs) (ty := ty) (fz := (0, 0)) h.below.size (by simp [Gh.addΦ]) heap_alloc_new (fzOK_zero _) (by
    intro d' f' p' e' k1 k2
    obtain ⟨b, e, k3, _, _, _, _, _, _, _, k4, _⟩ := h.fam d' f' p' k1
    have k2' : g.κ d' f' p' = some (w.heap.size, e') := k2
    rw [k3] at k2'; cases k2'
    exact Nat.lt_irrefl _ (heap_lt k4))
  refine ⟨_, ?_, h2, Eff.of_same (hle1.trans hle2) (fun _ _ => rfl) (fun d' n m' hs' => ?_)⟩
  · simp only [VR]
    refine ⟨_, ncap, ys, rfl, hle, hr.mono ((hle1.trans hle2).restr 0), (fun e => by cases e), (fun a e => by cases e; rfl), (fun _ => ⟨_, _, rfl, ((Gh.addΦ_seg _ _ _ _).mono hle2)⟩), ?_⟩
    refine ⟨w.heap.size, 0, ys.length + zs.length, s, rfl, by simp [Gh.addκ], by simp [Gh.addκ, Gh.addΦ], hs, hy, by omega⟩
  · by_cases hc : d' = D'
    · subst hc; rw [q5] at hs'; cases hs'; exact ⟨_, q6⟩
    · exact ⟨m', by rw [q7 d' hc]; exact hs'⟩

theorem sim_append {own : Bool} {O D' s by_ : Nat} {t u ty : TypeId} {ats : Array TypeId} {td : TypeDesc} {v v2 r : V} {x y : Value} {H' : Hp} (h : Rel w0 D g H w) (h0 : ats[0]? = some t) (h1 : ats[1]? = some u) (hte : tElem P t = some (s, by_))
    (htd : P.underlying u = some td) (hni : ∀ k, td ≠ .int k) (hv : VR g v x) (hv2 : VR g v2 y) (hr : aAppend own O D' s by_ v v2 H = some (r, H')) :
    ∃ z g' w', (Builtin.append_ ats ty #[x, y]).run P w = .ok z w' ∧ VR g' r z ∧ Rel w0 D g' H' w' ∧ Eff g g' H H' := by
  obtain ⟨e, z0, i0, hu, hz0, hsz0, hi0, hby0⟩ := tElem_spec hte
  have hsz : tSize P e = some s := by
    obtain ⟨_, _, _, h2, _⟩ := tZ_spec hz0 w
    rw [h2, hsz0]
  unfold aAppend at hr
  split at hr
  · cases hr
  · rename_i n ysa hsrc
    obtain ⟨news, hnr, hnl, hrd⟩ := source_spec (P := P) h hv2 hsrc
    split at hr
    · rename_i len cs t'
      split at hr
      · rename_i hc0
        obtain ⟨hcl, hs0, hby⟩ := hc0
        have hv' := hv
        obtain ⟨ys, hcr', hyl', hold⟩ := source_spec (P := P) (s := s) (n := len) (ys := cs) h hv (by simp [aSource, hcl])
        simp only [VR] at hv
        obtain ⟨base, cap, ys0, rfl, hle, hcr, s1, s2, s3, s4⟩ := hv
        have hyl : ys0.length = len * s := by rw [hcr.length, hcl]
        split at hr
        · rename_i hn0
          simp only [Option.some.injEq, Prod.mk.injEq] at hr
          obtain ⟨rfl, rfl⟩ := hr
          subst hn0
          have : news = [] := List.eq_nil_of_length_eq_zero (by omega)
          subst this
          refine ⟨.slice base (len + 0) cap, g, w, ?_, hv', h, .refl _ _⟩
          rw [run_append_fits h0 h1 hu hsz htd hni (hrd w rfl).1 (hrd w rfl).2 (by omega)]
          cases base <;> rfl
        · rename_i hn0
          have hlen : (ys ++ news).length = (len + n) * s := by rw [List.length_append, hyl', hnl, Nat.add_mul]
          have hcn : VRL (g.restr 0) (cs ++ ysa) (ys ++ news) := hcr'.append hnr
          -- a new row
          have grow : ¬ len + n ≤ cap → ∃ zs ncap, len + n ≤ ncap ∧ (ys ++ news).length + zs.length = ncap * s ∧ (Builtin.append_ ats ty #[.slice base len cap, y]).run P w = .ok (.slice (some ⟨w.heap.size, 0, none⟩) (len + n) ncap) (w.drew.alloc (.cells ⟨ys ++ news ++ zs⟩ e)) := by
            intro hbig
            obtain ⟨zs, ncap, q1, q2, q3⟩ := run_append_grows (ty := ty) h0 h1 hte hu htd hni (hrd w rfl).1 (hrd w rfl).2 (hrd w.drew rfl).2 (hold w.drew rfl).2 hbig hle hby hs0
            refine ⟨zs, ncap, q1, ?_, q3⟩
            rw [hlen, q2, ← Nat.add_mul]; congr 1; omega
          have fresh : ∀ hcap : ¬ len + n ≤ cap, (if own then
            (match H.newObj O (.cells (cs ++ ysa)) with
             | some (i, H') => some (V.sref O i 0 (len + n) s, H')
             | none => none)
          else
            (match H.newFam D' (len + n) with
             | some (f, H') => some (.sl (len + n) (cs ++ ysa) (.room D' f (len + n)), H')
             | none => none)) = some (r, H') → ∃ z g' w', (Builtin.append_ ats ty #[.slice base len cap, y]).run P w = .ok z w' ∧ VR g' r z ∧ Rel w0 D g' H' w' ∧ Eff g g' H H' := by
            intro hcap hr
            obtain ⟨zs, ncap, q1, q2, q3⟩ := grow hcap
            split at hr
            · split at hr
              · rename_i i H1 hn
                simp only [Option.some.injEq, Prod.mk.injEq] at hr
                obtain ⟨rfl, rfl⟩ := hr
                obtain ⟨g', p1, p2, p3, p4⟩ := sim_new h.drew hn (hcn.mono (Gh.restr_mono g (Nat.zero_le _))) (zs := zs) e (0, 0) (fzOK_zero _) (.inl rfl)
                refine ⟨_, g', _, q3, ?_, p1, p2⟩
                simp only [VR]
                exact ⟨_, ncap, _, p3, rfl, q1, p4, by rw [q2]; omega⟩
              · cases hr
            · split at hr
              · rename_i f H1 hn
                simp only [Option.some.injEq, Prod.mk.injEq] at hr
                obtain ⟨rfl, rfl⟩ := hr
                obtain ⟨g', p1, p2, p3⟩ := newRoom h.drew hn hcn hs0 hlen q1 q2
                exact ⟨_, g', _, q3, p1, p2, p3⟩
              · cases hr
          split at hr
          · cases hr
          · rename_i d f p
            split at hr
            · rename_i hcond
              obtain ⟨hfam, hlen0, hone⟩ := hcond
              simp only [Option.some.injEq, Prod.mk.injEq] at hr
              obtain ⟨rfl, rfl⟩ := hr
              obtain ⟨b, e', hκ, hb0, xs, zs, ty', fz, hΦ, hxe, hx, hfz⟩ := h.fam d f p hfam
              obtain ⟨b', o, nB, s', hbase, k2, k3, k4, k5, k6⟩ := s4
              rw [hκ] at k2
              simp only [Option.some.injEq, Prod.mk.injEq] at k2
              obtain ⟨rfl, rfl⟩ := k2
              have hss : s' = s := by
                rw [hyl] at k5
                exact (Nat.eq_of_mul_eq_mul_left hlen0 k5).symm
              subst hss
              subst hbase
              obtain ⟨cB, tB, fB, hB1, hB2⟩ := h.Bok b nB k3
              rw [hx] at hB1; cases hB1
              simp only [List.size_toArray, List.length_append] at hB2
              by_cases hfit : len + n ≤ cap
              · have hroom : news.length ≤ zs.length := by
                  have : (len + n) * s' ≤ cap * s' := Nat.mul_le_mul_right _ hfit
                  rw [Nat.add_mul] at this
                  omega
                obtain ⟨w', e1, e2, e3, e4, e5, e6, e7⟩ := run_storeRow (P := P) (o := o + len * s') news 0 (xs ++ zs) w hx (by simp; omega) (by simpa using hfz) (oneL_spec hone hnr)
                have hat : o + len * s' + 0 = xs.length := by omega
                rw [hat, setAll_behind _ _ _ hroom] at e2
                have hpq : p < p + n := Nat.lt_add_of_pos_right (Nat.pos_of_ne_zero hn0)
                have hzz : news.length + (zs.drop news.length).length = zs.length := by rw [List.length_drop]; omega
                obtain ⟨p1, p2⟩ := h.growFam (q := p + n) (news := news) (zs' := zs.drop news.length) hfam hpq hκ hΦ hxe hb0 hx hfz hzz e2 e3 e4 e5 e6 e7
                refine ⟨.slice (some ⟨b, o, none⟩) (len + n) cap, _, w', ?_, ?_, p1, .of_same p2 (fun _ _ => rfl) (fun d' n' m' hs => ⟨m', by rw [Hp.sizes_setFam]; exact hs⟩)⟩
                · rw [run_append_fits h0 h1 hu hsz htd hni (hrd w rfl).1 (hrd w rfl).2 hfit]
                  simp only [addr_add, e1, Result.andThen_ok]
                · simp only [VR]
                  have hyy : VRL (g.restr 0) (cs ++ ysa) (ys0 ++ news) := hcr.append hnr
                  have hlen0' : (ys0 ++ news).length = (len + n) * s' := by rw [List.length_append, hyl, hnl, Nat.add_mul]
                  refine ⟨_, cap, ys0 ++ news, rfl, hfit, hyy.mono (p2.restr 0), ?_⟩
                  refine SL.grown hs0 hlen0' ?_ (by simp [Gh.addκ]; omega) (nB := nB) (by simpa [Gh.addκ] using k3) k6
                  refine ⟨xs ++ news, by simp [Gh.addκ], fun j yv hj => ?_⟩
                  rw [List.getElem?_append] at hj ⊢
                  by_cases hjl : j < ys0.length
                  · rw [if_pos hjl] at hj
                    have hne : ys0 ≠ [] := by intro h; rw [h] at hjl; simp at hjl
                    obtain ⟨b2, o2, hb2, full, hf2, hseg⟩ := s3 hne
                    cases hb2
                    rw [hΦ] at hf2; cases hf2
                    rw [if_pos (by omega)]
                    exact hseg j yv hj
                  · rw [if_neg hjl] at hj
                    rw [if_neg (by omega)]
                    rw [show o + j - xs.length = j - ys0.length by omega]; exact hj
              · obtain ⟨zs2, ncap, q1, q2, q3⟩ := grow hfit
                obtain ⟨c1, hle1⟩ := h.drew.commit (ys ++ news) zs2 e (0, 0)
                have hpq : p < p + n := Nat.lt_add_of_pos_right (Nat.pos_of_ne_zero hn0)
                obtain ⟨c2, hle2⟩ := c1.moveFam (q := p + n) (b := w.heap.size) (xs := ys ++ news) (zs := zs2) (ty := e) (fz := (0, 0)) hfam hpq h.below.size (by simp [Gh.addΦ]) heap_alloc_new (fzOK_zero _) (by
                  intro d' f' p' e' k1' k2'
                  obtain ⟨b3, e3, k3', _, _, _, _, _, _, _, k4', _⟩ := h.fam d' f' p' k1'
                  have k5' : g.κ d' f' p' = some (w.heap.size, e') := k2'
                  rw [k3'] at k5'; cases k5'
                  exact Nat.lt_irrefl _ (heap_lt k4'))
                refine ⟨_, _, _, q3, ?_, c2, .of_same (hle1.trans hle2) (fun _ _ => rfl) (fun d' n' m' hs => ⟨m', by rw [Hp.sizes_setFam]; exact hs⟩)⟩
                simp only [VR]
                refine ⟨_, ncap, ys ++ news, rfl, q1, hcn.mono ((hle1.trans hle2).restr 0), ?_⟩
                exact SL.grown hs0 hlen ((Gh.addΦ_seg _ _ _ _).mono hle2) (by simp [Gh.addκ]) (nB := (ys ++ news).length + zs2.length) (by simp [Gh.addκ, Gh.addΦ]) (by omega)
            · cases hr
          · rename_i hnd hnr
            have hcap : ¬ len + n ≤ cap := by
              cases t' with
              | nil => obtain ⟨_, e2⟩ := s1 s4; rw [e2]; exact Nat.not_le.2 (Nat.add_pos_right _ (Nat.pos_of_ne_zero hn0))
              | full => simp only at s4; rw [s4]; exact Nat.not_le.2 (Nat.lt_add_of_pos_right (Nat.pos_of_ne_zero hn0))
              | dead => exact (hnd rfl).elim
              | room d f p => exact (hnr d f p rfl).elim
            exact fresh hcap hr
      · cases hr
    · rename_i d i off len s'
      split at hr
      · rename_i hc0
        obtain ⟨rfl, rfl, hs0, hby⟩ := hc0
        split at hr
        · rename_i hn0
          simp only [Option.some.injEq, Prod.mk.injEq] at hr
          obtain ⟨rfl, rfl⟩ := hr
          subst hn0
          have : news = [] := List.eq_nil_of_length_eq_zero (by omega)
          subst this
          have hv' := hv
          simp only [VR] at hv
          obtain ⟨b, cap, nB, hρ, rfl, hle, hB, hfitB⟩ := hv
          refine ⟨.slice (some ⟨b, 0, none⟩) (len + 0) cap, g, w, ?_, hv', h, .refl _ _⟩
          rw [run_append_fits h0 h1 hu hsz htd hni (hrd w rfl).1 (hrd w rfl).2 (by omega)]
          rfl
        · rename_i hn0
          split at hr
          · rename_i cs ho
            split at hr
            · rename_i hcond
              obtain ⟨hcl, hone, hok⟩ := hcond
              split at hr
              · rename_i i' H1 hn
                simp only [Option.some.injEq, Prod.mk.injEq] at hr
                obtain ⟨rfl, rfl⟩ := hr
                simp only [VR] at hv
                obtain ⟨b, cap, nB, hρ, rfl, hle, hB, hfitB⟩ := hv
                obtain ⟨ob, hx, ys, zs, ty', fz, rfl, hyr, hfz, hI⟩ := h.obj d i _ b ho hρ
                have hyl : ys.length = len * s' := by rw [hyr.length, hcl]
                obtain ⟨cB, tB, fB, hB1, hB2⟩ := h.Bok b nB hB
                rw [hx] at hB1; cases hB1
                simp only [List.size_toArray, List.length_append] at hB2
                have hlen : (ys ++ news).length = (len + n) * s' := by rw [List.length_append, hyl, hnl, Nat.add_mul]
                have hcn : VRL (g.restr d) (cs ++ ysa) (ys ++ news) := hyr.append (hnr.mono (Gh.restr_mono g (Nat.zero_le _)))
                by_cases hfit : len + n ≤ cap
                · have hroom : news.length ≤ zs.length := by
                    have : (len + n) * s' ≤ cap * s' := Nat.mul_le_mul_right _ hfit
                    rw [Nat.add_mul] at this
                    omega
                  obtain ⟨w', e1, e2, e3, e4, e5, e6, e7⟩ := run_storeRow (P := P) (o := 0 + len * s') news 0 (ys ++ zs) w hx (by simp; omega) (by simpa using hfz) (oneL_spec hone hnr)
                  have hat : 0 + len * s' + 0 = ys.length := by omega
                  rw [hat, setAll_behind _ _ _ hroom] at e2
                  have k1 := h.setObj (o := .dead) hρ (by rw [ho]; simp) hx e2 e3 e4 e5 e6 e7 (fun c ty2 fz2 e => by cases e; exact ⟨_, ty', rfl, by simp; omega⟩) trivial
                  obtain ⟨k2, k3⟩ := k1.alias hρ (fun d2 i2 e => by
                    by_cases hd : H.obj d2 i2 = some .dead
                    · rw [Hp.obj_setObj]; split
                      · rename_i hc; obtain ⟨rfl, rfl⟩ := hc; simp [ho]
                      · exact hd
                    · obtain ⟨rfl, rfl⟩ := h.ρinj _ _ _ _ _ e hρ hd (by rw [ho]; simp)
                      rw [Hp.obj_setObj]; simp [ho]) hn e2 ⟨ys ++ news, zs.drop news.length, ty', fz, rfl, hcn, by
                        have : (ys ++ news).length + (zs.drop news.length).length = ys.length + zs.length := by simp; omega
                        rw [this]; exact hfz, hI.imp id (fun hi => allInt_append hi (okOver_int hok hi))⟩
                  refine ⟨.slice (some ⟨b, 0, none⟩) (len + n) cap, _, w', ?_, ?_, k2, (Eff.of_same (.refl _) (fun _ _ => rfl) (fun d' n' m' hs => ⟨m', by rw [Hp.sizes_setObj]; exact hs⟩)).trans k3⟩
                  · rw [run_append_fits h0 h1 hu hsz htd hni (hrd w rfl).1 (hrd w rfl).2 hfit]
                    simp only [addr_add, e1, Result.andThen_ok]
                  · simp only [VR]
                    exact ⟨b, cap, nB, by simp [Gh.addM], rfl, hfit, hB, hfitB⟩
                · have holds : (Builtin.firstCells s' len (.slice (some ⟨b, 0, none⟩) len cap)).run P w.drew = .ok ⟨ys⟩ w.drew := by
                    simp only [Builtin.firstCells]
                    rw [run_loadCells (w := w.drew) hx (by simp; omega)]
                    congr 2
                    rw [List.drop_zero, List.take_append_of_le_length (by omega), List.take_of_length_le (by omega)]
                  obtain ⟨zs2, ncap, q1, q2, q3⟩ := run_append_grows (ty := ty) h0 h1 hte hu htd hni (hrd w rfl).1 (hrd w rfl).2 (hrd w.drew rfl).2 holds hfit hle hby hs0
                  have k1 := h.drew.kill d i
                  have q2' : (ys ++ news).length + zs2.length = ncap * s' := by
                    rw [hlen, q2, ← Nat.add_mul]; congr 1; omega
                  obtain ⟨g', p1, p2, p3, p4⟩ := sim_new k1 hn hcn (zs := zs2) e (0, 0) (fzOK_zero _) (.inl rfl)
                  refine ⟨_, g', _, q3, ?_, p1, (Eff.of_same (.refl _) (fun _ _ => rfl) (fun d' n' m' hs => ⟨m', by rw [Hp.sizes_setObj]; exact hs⟩)).trans p2⟩
                  simp only [VR]
                  exact ⟨_, ncap, _, p3, rfl, q1, p4, by rw [q2']; omega⟩
              · cases hr
            · cases hr
          · cases hr
      · cases hr
    · cases hr

theorem sim_convOwn {O : Nat} {src dst : TypeId} {c : CK} {v r : V} {x : Value} {H' : Hp} (h : Rel w0 D g H w) (hc : tConv P src dst = some c) (hv : VR g v x) (hr : pConvOwn O c v H = some (r, H')) :
    ∃ z g' w', (convert src dst x).run P w = .ok z w' ∧ VR g' r z ∧ Rel w0 D g' H' w' ∧ Eff g g' H H' := by
  have rest : (match pConv c v H with | some v => some (v, H) | none => none) = some (r, H') → ∃ z g' w', (convert src dst x).run P w = .ok z w' ∧ VR g' r z ∧ Rel w0 D g' H' w' ∧ Eff g g' H H' := by
    intro hr
    split at hr
    · rename_i v' hp
      simp only [Option.some.injEq, Prod.mk.injEq] at hr
      obtain ⟨rfl, rfl⟩ := hr
      obtain ⟨z, g', w', a1, a2, a3, a4⟩ := sim_conv h hc hv hp
      exact ⟨z, g', w', a1, a2, a3, .of_grow a4⟩
    · cases hr
  cases c with
  | toBytes =>
    have hs := tConv_spec hc
    obtain ⟨h1, e, h2, h3⟩ := hs
    cases v with
    | str s =>
      simp only [pConvOwn] at hr
      split at hr
      · rename_i hl
        split at hr
        · rename_i i H1 hn
          simp only [Option.some.injEq, Prod.mk.injEq] at hr
          obtain ⟨rfl, rfl⟩ := hr
          simp only [VR] at hv; subst hv
          obtain ⟨zs, cap, c1, c2, hrun⟩ := run_stringToBytes (P := P) (w := w) (e := e) hl
          have hfz : fzOK (cap, cap + 1) ((s.map fun b => Value.int .u8 b.toNat).length + zs.length) := by
            intro o ho hh; simp at ho; omega
          obtain ⟨g', p1, p2, p3, p4⟩ := sim_new h.drew hn (bytes_rel (g := g.restr O) s) (zs := zs) e (cap, cap + 1) hfz (.inr (allInt_iff.2 (by simp)))
          refine ⟨.slice (some ⟨w.heap.size, 0, none⟩) s.length cap, g', _, ?_, ?_, p1, p2⟩
          · simp only [convert, Sem.run_bind, run_under h1, run_under h2, Result.andThen_ok, run_under h3]
            exact hrun
          · simp only [VR]
            exact ⟨_, cap, _, p3, rfl, c1, p4, by simp; omega⟩
        · cases hr
      · cases hr
    | _ => simp [pConvOwn] at hr
  | toInt k => exact rest hr
  | same => exact rest hr
  | toStr => exact rest hr

theorem sim_makeSliceOwn {O : Nat} {t e : TypeId} {z : List V} {by_ : Nat} {l c r : V} {x y : Value} {H' : Hp} (h : Rel w0 D g H w) (hu : P.underlying t = some (.slice e)) (hz : tZ P e = some z) (hb : tBytes P e = some by_) (hl : VR g l x) (hc : VR g c y)
    (hr : pMakeSlOwn O z by_ l c H = some (r, H')) : ∃ u g' w', (Instr.makeSlice t x y).run P w = .ok u w' ∧ VR g' r u ∧ Rel w0 D g' H' w' ∧ Eff g g' H H' := by
  unfold pMakeSlOwn at hr
  split at hr
  · rename_i li
    split at hr
    · rename_i ci
      split at hr
      · rename_i hcond
        obtain ⟨c0, c1, c2, c3⟩ := hcond
        subst c1
        split at hr
        · rename_i i H1 hn
          simp only [Option.some.injEq, Prod.mk.injEq] at hr
          obtain ⟨rfl, rfl⟩ := hr
          simp only [VR] at hl hc
          subst hl; subst hc
          obtain ⟨zs, hzr, hzl, hrun⟩ := run_makeSlice (w := w) hu hz hb c0 (Int.le_refl _) c2 c3
          have hle0 : Gh.le ⟨fun _ _ => none, fun _ => none, fun _ _ _ => none, fun _ => none⟩ (g.restr O) := ⟨fun _ _ _ h => by simp at h, fun _ _ h => by simp at h, fun _ _ _ _ h => by simp at h, fun _ _ h => by simp at h⟩
          obtain ⟨g', p1, p2, p3, p4⟩ := sim_new h hn (rep_rel (hzr.mono hle0) li.toNat) (zs := []) e (0, 0) (fzOK_zero _) (.inl rfl)
          refine ⟨_, g', _, hrun, ?_, by rw [List.append_nil] at p1; exact p1, p2⟩
          simp only [VR]
          refine ⟨_, li.toNat, _, p3, rfl, Nat.le_refl _, p4, ?_⟩
          have : (List.replicate li.toNat zs).flatten.length = li.toNat * z.length := by simp [List.length_flatten, hzl]
          simp only [List.length_nil, Nat.add_zero, this]; omega
        · cases hr
      · cases hr
    · cases hr
  · cases hr
end

end Go.Abs
