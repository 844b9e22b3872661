/- Operations that turn the heap: append. -/
import Derived.Test.YtokjbfjkmboehaaGreatAbsF
set_option linter.unusedVariables false
set_option linter.unusedSimpArgs false
namespace Go.Abs
open Go.RowKit

section
variable {P : Program} {w0 w : World} {D : Nat} {g : Gh} {H : Hp}

/-- A family goes on in another block. -/
theorem Rel.moveFam (h : Rel w0 D g H w) {d f p q b : Nat} {xs zs : List Value} {ty : TypeId} {fz : Nat × Nat} (hf : H.fam d f = some p) (hpq : p < q)
    (hb : w0.heap.size ≤ b) (hΦ : g.Φ b = some xs) (hx : w.heap[b]? = some (.cells ⟨xs ++ zs⟩ ty fz)) (hz : fzOK fz (xs.length + zs.length))
    (hfresh : ∀ d f p e, H.fam d f = some p → g.κ d f p ≠ some (b, e)) :
    Rel w0 D (g.addκ d f q (b, xs.length)) (H.setFam d f (some q)) w ∧ g.le (g.addκ d f q (b, xs.length)) := by
  have hκn : g.κ d f q = none := by
    cases e' : g.κ d f q with
    | none => rfl
    | some y =>
      have := (h.κlt _ _ _ _ e').2 p hf
      omega
  have hle : g.le (g.addκ d f q (b, xs.length)) := Gh.le_addκ hκn
  have hκ' : ∀ {d' f' p' y}, (g.addκ d f q (b, xs.length)).κ d' f' p' = some y → (d' = d ∧ f' = f ∧ p' = q ∧ y = (b, xs.length)) ∨ g.κ d' f' p' = some y := by
    intro d' f' p' y e
    simp only [Gh.addκ] at e
    by_cases hc : d' = d ∧ f' = f ∧ p' = q
    · simp only [hc, and_self, if_true, Option.some.injEq] at e; exact .inl ⟨hc.1, hc.2.1, hc.2.2, e.symm⟩
    · simp only [hc, if_false] at e; exact .inr e
  have hfs : ∀ {d' f' p'}, (H.setFam d f (some q)).fam d' f' = some p' → (d' = d ∧ f' = f ∧ p' = q) ∨ (¬ (d' = d ∧ f' = f) ∧ H.fam d' f' = some p') := by
    intro d' f' p' e
    rw [Hp.fam_setFam ⟨p, hf⟩] at e
    by_cases hc : d' = d ∧ f' = f
    · simp only [hc, and_self, if_true, Option.some.injEq] at e; exact .inl ⟨hc.1, hc.2, e.symm⟩
    · simp only [hc, if_false] at e; exact .inr ⟨hc, e⟩
  refine ⟨⟨by rw [Hp.setFam_len]; exact h.depth, h.below, fun d' i' b' e => ?_, fun d1 i1 d2 i2 b e1 e2 l1 l2 => h.ρinj _ _ _ _ _ e1 e2 (by rwa [Hp.obj_setFam] at l1) (by rwa [Hp.obj_setFam] at l2), fun d' i' o' b' e1 e2 => ?_, h.ρΦ, h.Φok, h.Bok, fun d' f' p' e => ?_, fun d1 f1 p1 d2 f2 p2 c e1 e2 k1 k2 q1 q2 => ?_, fun d' f' p' y e => ?_, h.ρsame⟩, hle⟩
  · rw [Hp.sizes_setFam]; exact h.ρlt d' i' b' e
  · rw [Hp.obj_setFam] at e1
    obtain ⟨y, hy, hO⟩ := h.obj d' i' o' b' e1 e2
    exact ⟨y, hy, hO.mono (hle.restr d')⟩
  · rcases hfs e with ⟨rfl, rfl, rfl⟩ | ⟨hc, e'⟩
    · exact ⟨b, xs.length, by simp [Gh.addκ], hb, xs, zs, ty, fz, hΦ, rfl, hx, hz⟩
    · obtain ⟨c, e1, k1, k2, r⟩ := h.fam d' f' p' e'
      exact ⟨c, e1, hle.κ _ _ _ _ k1, k2, r⟩
  · rcases hfs k1 with ⟨rfl, rfl, rfl⟩ | ⟨hc1, k1'⟩ <;> rcases hfs k2 with ⟨rfl, rfl, rfl⟩ | ⟨hc2, k2'⟩
    · exact ⟨rfl, rfl⟩
    · rcases hκ' q2 with ⟨h1, h2, _⟩ | q2'
      · exact (hc2 ⟨h1, h2⟩).elim
      · rcases hκ' q1 with ⟨_, _, _, hy⟩ | q1'
        · cases hy; exact (hfresh _ _ _ _ k2' q2').elim
        · rw [hκn] at q1'; cases q1'
    · rcases hκ' q1 with ⟨h1, h2, _⟩ | q1'
      · exact (hc1 ⟨h1, h2⟩).elim
      · rcases hκ' q2 with ⟨_, _, _, hy⟩ | q2'
        · cases hy; exact (hfresh _ _ _ _ k1' q1').elim
        · rw [hκn] at q2'; cases q2'
    · rcases hκ' q1 with ⟨h1, h2, _⟩ | q1'
      · exact (hc1 ⟨h1, h2⟩).elim
      · rcases hκ' q2 with ⟨h1, h2, _⟩ | q2'
        · exact (hc2 ⟨h1, h2⟩).elim
        · exact h.famInj _ _ _ _ _ _ _ _ _ k1' k2' q1' q2'
  · rcases hκ' e with ⟨rfl, rfl, rfl, _⟩ | r
    · obtain ⟨_, _, k1, _⟩ := h.fam _ _ _ hf
      obtain ⟨⟨n', m', hs, hl'⟩, _⟩ := h.κlt _ _ _ _ k1
      refine ⟨⟨n', m', by rw [Hp.sizes_setFam]; exact hs, hl'⟩, fun r hr => ?_⟩
      rw [Hp.fam_setFam ⟨p, hf⟩] at hr; simp only [and_self, if_true, Option.some.injEq] at hr; omega
    · obtain ⟨⟨n', m', hs, hl'⟩, hq⟩ := h.κlt _ _ _ _ r
      refine ⟨⟨n', m', by rw [Hp.sizes_setFam]; exact hs, hl'⟩, fun t ht => ?_⟩
      rcases hfs ht with ⟨rfl, rfl, rfl⟩ | ⟨hc, ht'⟩
      · have := hq p hf; omega
      · exact hq t ht'

/-- A new object takes the block of one that is used no more. -/
theorem Rel.alias (h : Rel w0 D g H w) {d i b : Nat} {o : AO} {x : Obj} {H' : Hp} {di : Nat} (hb : g.ρ d di = some b) (hnl : ∀ d2 i2, g.ρ d2 i2 = some b → H.obj d2 i2 = some .dead)
    (hn : H.newObj d o = some (i, H')) (hx : w.heap[b]? = some x) (hr : OR (g.restr d) o x) :
    Rel w0 D (g.addM d i b) H' w ∧ Eff g (g.addM d i b) H H' := by
  obtain ⟨h1, hρn⟩ := h.hoist hn
  obtain ⟨q1, q2, q3, q4, ⟨m, q5, q6⟩, q7, q8⟩ := Hp.newObj_spec hn
  have hle : g.le (g.addM d i b) := Gh.le_addM hρn
  have hρ : ∀ {d' i' c}, (g.addM d i b).ρ d' i' = some c → (d' = d ∧ i' = i ∧ c = b) ∨ (¬ (d' = d ∧ i' = i) ∧ g.ρ d' i' = some c) := by
    intro d' i' c e
    simp only [Gh.addM] at e
    by_cases hc : d' = d ∧ i' = i
    · simp only [hc, and_self, if_true, Option.some.injEq] at e; exact .inl ⟨hc.1, hc.2, e.symm⟩
    · simp only [hc, if_false] at e; exact .inr ⟨hc, e⟩
  have hdead : ∀ {d2 i2}, g.ρ d2 i2 = some b → ¬ (d2 = d ∧ i2 = i) → H'.obj d2 i2 = some .dead := by
    intro d2 i2 e hc
    rw [q3]; simp only [hc, if_false]; exact hnl _ _ e
  refine ⟨⟨h1.depth, h1.below, fun d' i' c e => ?_, fun d1 i1 d2 i2 c e1 e2 l1 l2 => ?_, fun d' i' o' c e1 e2 => ?_, fun d' i' c e => ?_, h1.Φok, h1.Bok, h1.fam, h1.famInj, h1.κlt, fun d1 i1 d2 i2 c e1 e2 => ?_⟩, ⟨⟨hle, fun d' i' n' m' hs hl hu => ?_⟩, fun d' n' m' hs => ?_⟩⟩
  · rcases hρ e with ⟨rfl, rfl, rfl⟩ | ⟨_, e'⟩
    · obtain ⟨a1, a2, _⟩ := h1.ρlt _ _ _ hb
      exact ⟨a1, a2, _, _, q6, by omega⟩
    · exact h1.ρlt d' i' c e'
  · rcases hρ e1 with ⟨rfl, rfl, hc1⟩ | ⟨n1, k1⟩ <;> rcases hρ e2 with ⟨rfl, rfl, hc2⟩ | ⟨n2, k2⟩
    · exact ⟨rfl, rfl⟩
    · subst hc1; exact (l2 (hdead k2 n2)).elim
    · subst hc2; exact (l1 (hdead k1 n1)).elim
    · exact h1.ρinj _ _ _ _ _ k1 k2 l1 l2
  · rcases hρ e2 with ⟨rfl, rfl, rfl⟩ | ⟨n2, k2⟩
    · rw [q3] at e1; simp only [and_self, if_true, Option.some.injEq] at e1; subst e1
      exact ⟨x, hx, hr.mono (hle.restr _)⟩
    · obtain ⟨y, hy, hO⟩ := h1.obj d' i' o' c e1 k2; exact ⟨y, hy, hO.mono (hle.restr _)⟩
  · rcases hρ e with ⟨rfl, rfl, rfl⟩ | ⟨_, k⟩
    · exact h1.ρΦ _ _ _ hb
    · exact h1.ρΦ d' i' c k
  · rcases hρ e1 with ⟨rfl, rfl, hc1⟩ | ⟨n1, k1⟩ <;> rcases hρ e2 with ⟨rfl, rfl, hc2⟩ | ⟨n2, k2⟩
    · rfl
    · subst hc1; exact h1.ρsame _ _ _ _ _ hb k2
    · subst hc2; exact (h1.ρsame _ _ _ _ _ hb k1).symm
    · exact h1.ρsame _ _ _ _ _ k1 k2
  · simp only [Gh.addM]
    by_cases hc : d' = d ∧ i' = i
    · obtain ⟨rfl, rfl⟩ := hc; rw [q5] at hs; cases hs; exact (Nat.lt_irrefl _ hl).elim
    · simp only [hc, if_false]; exact hu
  · by_cases hc : d' = d
    · subst hc; rw [q5] at hs; cases hs; exact ⟨_, _, q6, by omega⟩
    · exact ⟨n', m', by rw [q7 d' hc]; exact hs, Nat.le_refl _⟩

/-! ### The model's append -/

theorem growBy_le (n : Nat) : ∀ (r c : Nat), Builtin.growBy n r c ≤ max c (n + (n + 768) / 4)
  | 0, c => by simp only [Builtin.growBy]; exact Nat.le_max_left _ _
  | r + 1, c => by
    simp only [Builtin.growBy]
    split
    · exact Nat.le_max_left _ _
    · have := growBy_le n r (c + (c + 768) / 4)
      omega
theorem nextcap_le {need cap : Nat} (h : cap < need) : Builtin.nextslicecap need cap ≤ 2 * need + 192 := by
  unfold Builtin.nextslicecap
  split
  · omega
  · split
    · omega
    · have := growBy_le need 4 cap
      omega
theorem nextcap_fits {need cap b : Nat} (h : cap < need) (hb : need * (b + 1) ≤ mostBytes) : ¬ (Builtin.nextslicecap need cap * b > 2 ^ 48) := by
  have h1 := nextcap_le h
  have h2 : Builtin.nextslicecap need cap * b ≤ (2 * need + 192) * b := Nat.mul_le_mul_right _ h1
  have h3 : (2 * need + 192) * b = 2 * (need * b) + 192 * b := by rw [Nat.add_mul, Nat.mul_assoc]
  have h4 : need * b ≤ mostBytes := Nat.le_trans (Nat.mul_le_mul_left _ (Nat.le_succ b)) hb
  have h5 : b ≤ need * (b + 1) := by
    calc b ≤ b + 1 := Nat.le_succ b
      _ = 1 * (b + 1) := by rw [Nat.one_mul]
      _ ≤ need * (b + 1) := Nat.mul_le_mul_right _ (by omega)
  unfold mostBytes at h4 hb
  omega

theorem tElem_spec {t : TypeId} {s by_ : Nat} (h : tElem P t = some (s, by_)) : ∃ e z i, P.underlying t = some (.slice e) ∧ tZ P e = some z ∧ s = z.length ∧ P.info? e = some i ∧ i.bytes = by_ := by
  unfold tElem at h
  split at h
  · rename_i e hu
    split at h
    · rename_i z hz
      split at h
      · rename_i b hb
        simp only [Option.some.injEq, Prod.mk.injEq] at h
        obtain ⟨rfl, rfl⟩ := h
        unfold tBytes at hb
        split at hb
        · rename_i i hi; cases hb; exact ⟨e, z, i, hu, hz, rfl, hi, rfl⟩
        · cases hb
      · cases h
    · cases h
  · cases h

/-- What an append is told to add. -/
theorem source_spec (h : Rel w0 D g H w) {s n : Nat} {v : V} {ys : List V} {x : Value} (hv : VR g v x) (hs : aSource s v H = some (n, ys)) :
    ∃ news, VRL (g.restr 0) ys news ∧ news.length = n * s ∧ ∀ w1 : World, w1.heap = w.heap → (Builtin.lenOf x).run P w1 = .ok n w1 ∧ (Builtin.firstCells s n x).run P w1 = .ok ⟨news⟩ w1 := by
  have rd : ∀ (base : Option Addr) (cap : Nat) (news : List Value), x = .slice base n cap → news.length = n * s → (base = none → news = [] ∧ cap = 0) → (∀ a, base = some a → a.spot = none) →
      (news ≠ [] → ∃ b o full ty fz, base = some ⟨b, o, none⟩ ∧ w.heap[b]? = some (.cells ⟨full⟩ ty fz) ∧ o + news.length ≤ full.length ∧ (full.drop o).take news.length = news) →
      ∀ w1 : World, w1.heap = w.heap → (Builtin.lenOf x).run P w1 = .ok n w1 ∧ (Builtin.firstCells s n x).run P w1 = .ok ⟨news⟩ w1 := by
    intro base cap news hx hl h1 h2 h3 w1 hw1
    subst hx
    refine ⟨rfl, ?_⟩
    cases base with
    | none =>
      obtain ⟨e1, e2⟩ := h1 rfl
      subst e1
      rfl
    | some a =>
      simp only [Builtin.firstCells]
      by_cases hn : news = []
      · subst hn
        have : n * s = 0 := by simpa using hl.symm
        rw [this]; rfl
      · obtain ⟨b, o, full, ty, fz, e1, e2, e3, e4⟩ := h3 hn
        cases e1
        rw [← hl, run_loadCells (by rw [hw1]; exact e2) e3, e4]
  unfold aSource at hs
  split at hs
  · rename_i m cs t
    split at hs
    · rename_i hl
      simp only [Option.some.injEq, Prod.mk.injEq] at hs
      obtain ⟨rfl, rfl⟩ := hs
      obtain ⟨base, cap, news, rfl, hle, hcr, hb1, hb2, hb3, hr0⟩ := slice_cells' h hv (.inl ⟨t, rfl⟩)
      have hnl : news.length = m * s := by rw [hcr.length, hl]
      exact ⟨news, hr0 ⟨t, rfl⟩, hnl, rd base cap news rfl hnl hb1 hb2 hb3⟩
    · cases hs
  · rename_i bs
    split at hs
    · rename_i h1
      subst h1
      simp only [Option.some.injEq, Prod.mk.injEq] at hs
      obtain ⟨rfl, rfl⟩ := hs
      simp only [VR] at hv; subst hv
      refine ⟨bs.map fun b => .int .u8 b.toNat, bytes_rel bs, by simp, fun w1 _ => ⟨rfl, ?_⟩⟩
      have : (⟨⟨bs⟩⟩ : ByteArray).extract 0 bs.length = ⟨⟨bs⟩⟩ := by
        apply ByteArray.ext
        simp
      simp only [Builtin.firstCells, this]
      simp
    · cases hs
  · rename_i d i off m s'
    split at hs
    · rename_i hss
      subst hss
      split at hs
      · rename_i cs ho
        split at hs
        · rename_i hl
          split at hs
          · rename_i ys' hf
            simp only [Option.some.injEq, Prod.mk.injEq] at hs
            obtain ⟨rfl, rfl⟩ := hs
            obtain ⟨base, cap, news, rfl, hle, hcr, hb1, hb2, hb3, _⟩ := slice_cells' h hv (.inr ⟨d, i, off, s', cs, rfl, ho, hl, rfl⟩)
            have hnl : news.length = m * s' := by rw [hcr.length]; simp; omega
            exact ⟨news, VRL.fit hf hcr, hnl, rd base cap news rfl hnl hb1 hb2 hb3⟩
          · cases hs
        · cases hs
      · cases hs
    · cases hs
  · cases hs

theorem run_append_fits {t u ty e : TypeId} {ats : Array TypeId} {td : TypeDesc} {base : Option Addr} {len cap s n : Nat} {y : Value} {news : List Value} (h0 : ats[0]? = some t) (h1 : ats[1]? = some u) (hu : P.underlying t = some (.slice e)) (hs : tSize P e = some s)
    (htd : P.underlying u = some td) (hni : ∀ k, td ≠ .int k) (hl : (Builtin.lenOf y).run P w = .ok n w) (hc : (Builtin.firstCells s n y).run P w = .ok ⟨news⟩ w) (hfit : len + n ≤ cap) :
    (Builtin.append_ ats ty #[.slice base len cap, y]).run P w = ((match base with | some a => storeCells (a.add (len * s)) news | none => pure () : Sem Unit).run P w).andThen fun _ w' => .ok (.slice base (len + n) cap) w' := by
  have hz : (match td with | .int _ => true | _ => false) = false := by cases td <;> first | rfl | (exact (hni _ rfl).elim)
  simp only [Builtin.append_, h0, h1, List.getElem?_toArray, List.getElem?_cons_zero, List.getElem?_cons_succ, Sem.run_bind, run_under hu, Result.andThen_ok, run_size hs, run_under htd, Sem.run_pure, hz, Bool.false_eq_true, if_false, hl, if_pos hfit, Bool.not_false, if_true, hc]
  cases base with
  | none => rfl
  | some a => simp only [Sem.run_bind]; rfl

theorem run_append_grows {t u ty e : TypeId} {ats : Array TypeId} {td : TypeDesc} {base : Option Addr} {len cap s by_ n : Nat} {y : Value} {olds news : List Value} (h0 : ats[0]? = some t) (h1 : ats[1]? = some u) (hte : tElem P t = some (s, by_)) (hu : P.underlying t = some (.slice e))
    (htd : P.underlying u = some td) (hni : ∀ k, td ≠ .int k) (hl : (Builtin.lenOf y).run P w = .ok n w) (hc : (Builtin.firstCells s n y).run P w = .ok ⟨news⟩ w) (hc' : (Builtin.firstCells s n y).run P w.drew = .ok ⟨news⟩ w.drew) (ho : (Builtin.firstCells s len (.slice base len cap)).run P w.drew = .ok ⟨olds⟩ w.drew)
    (hbig : ¬ len + n ≤ cap) (hle : len ≤ cap) (hby : (len + n) * (by_ + 1) ≤ mostBytes) (hs0 : 0 < s) :
    ∃ zs ncap, len + n ≤ ncap ∧ zs.length = (ncap - (len + n)) * s ∧ (Builtin.append_ ats ty #[.slice base len cap, y]).run P w = .ok (.slice (some ⟨w.heap.size, 0, none⟩) (len + n) ncap) (w.drew.alloc (.cells ⟨olds ++ news ++ zs⟩ e)) := by
  obtain ⟨e', z, i, hu', hz, rfl, hi, rfl⟩ := tElem_spec hte
  rw [hu] at hu'; cases hu'
  obtain ⟨c, hzc, hrz, hsz, hcs⟩ := tZ_spec hz w.drew
  have hnt : (match td with | .int _ => true | _ => false) = false := by cases td <;> first | rfl | (exact (hni _ rfl).elim)
  have hf : (Question.appendCap (len + n) cap e).forced = false := rfl
  have hcut : len + n ≤ (Question.appendCap (len + n) cap e).cut (w.tape w.drawn (.appendCap (len + n) cap e)) := by show len + n ≤ len + n + _; omega
  have hnx := nextcap_fits (need := len + n) (cap := cap) (by omega) hby
  have hmost : ¬ (((len + n : Nat) : Int) > IntKind.i64.max ∧ (False ∨ i.bytes = 0)) := by
    rintro ⟨hgt, _⟩
    have : (len + n) ≤ mostBytes := Nat.le_trans (Nat.le_mul_of_pos_right _ (Nat.succ_pos _)) hby
    unfold mostBytes at this
    have hm : IntKind.i64.max = 9223372036854775807 := rfl
    rw [hm] at hgt
    omega
  refine ⟨(List.replicate ((Question.appendCap (len + n) cap e).cut (w.tape w.drawn (.appendCap (len + n) cap e)) - (len + n)) c.cells.toList).flatten, _, hcut, by simp [hcs], ?_⟩
  have hw : ({ w with drawn := w.drawn + 1 } : World) = w.drew := rfl
  simp only [Builtin.append_, h0, h1, List.getElem?_toArray, List.getElem?_cons_zero, List.getElem?_cons_succ, Sem.run_bind, run_under hu, Result.andThen_ok, run_size hsz, run_under htd, Sem.run_pure, hnt, Bool.false_eq_true, if_false, hl, if_neg hbig, Bool.not_false, if_true,
    run_info hi, hmost, hnx, run_choose, hf, hw, run_askRoom, ho, hc', hrz, newRow, run_newObj]
  have hzr := range_map_rep c.cells ((Question.appendCap (len + n) cap e).cut (w.tape w.drawn (.appendCap (len + n) cap e)) - (len + n))
  simp only [Builtin.zeroCells, hzr]
  simp only [List.append_toArray]
  rfl
end

end Go.Abs
