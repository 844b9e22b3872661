/- Regions that draw their order: every order does as the text's. -/
import Derived.Test.YtokjbfjkmboehaaGreatAbsD
set_option linter.unusedVariables false
set_option linter.unusedSimpArgs false
namespace Go.Abs
open Go.RowKit

section
variable {P : Program} {pol : Pol} {call : Oracle} {f : FuncId} {D : Nat} {ops : Array Oper}

theorem mem_zip {o : Oper} {i : Nat} (h : ops[i]? = some o) : (o, i) ∈ ops.toList.zipIdx := by
  rw [List.mem_zipIdx_iff_getElem?]; simpa using h

theorem draw_back {own : Bool} {bs : List Nat} (h : drawOK own ops bs = true) : ∀ i o, ops[i]? = some o → ∀ e ∈ o.after, Region.binds .any e = true → e.on < i := by
  intro i o ho e he hb
  simp only [drawOK, Bool.and_eq_true, List.all_eq_true] at h
  have := h.1 (o, i) (mem_zip ho) e (by simpa using he)
  simpa [hb] using this
theorem draw_pair {own : Bool} {bs : List Nat} (h : drawOK own ops bs = true) {i j : Nat} {oi oj : Oper} (hij : i < j) (hi : ops[i]? = some oi) (hj : ops[j]? = some oj) :
    (kindOf own oj.op = .eff → kindOf own oi.op = .eff → (bs.getD j 0).testBit i = true) ∧ (∀ t, oj.dst = some t → (oi.dst = some t ∨ t ∈ tmpsOf ops oi) → (bs.getD j 0).testBit i = true) ∧
    (∀ t, oi.dst = some t → t ∈ tmpsOf ops oj → (bs.getD j 0).testBit i = true) := by
  simp only [drawOK, Bool.and_eq_true, List.all_eq_true] at h
  have := h.2 (oj, j) (mem_zip hj) (oi, i) (mem_zip hi)
  simp only [hij, decide_true, Bool.not_true, Bool.false_or, Bool.and_eq_true] at this
  obtain ⟨h1, h2, h3⟩ := this
  refine ⟨fun a b => ?_, fun t ht hor => ?_, fun t ht hm => ?_⟩
  · simpa [a, b] using h1
  · rw [ht] at h2
    simp only [Bool.or_eq_true, Bool.not_eq_true', Bool.or_eq_false_iff, beq_eq_false_iff_ne, ne_eq] at h2
    rcases h2 with ⟨n1, n2⟩ | h2
    · rcases hor with ho | hm
      · exact (n1 ho).elim
      · have : (tmpsOf ops oi).contains t = true := by simpa using hm
        rw [this] at n2; cases n2
    · exact h2
  · rw [ht] at h3
    simp only [Bool.or_eq_true, Bool.not_eq_true'] at h3
    rcases h3 with n | h3
    · have : (tmpsOf ops oj).contains t = true := by simpa using hm
      rw [this] at n; cases n
    · exact h3

/-- The last listed operation that writes a temporary told its value. -/
def Cur (ops : Array Oper) (v : Nat → V) (T0 : List V) (L : Nat → Prop) (t : Nat) (u : V) : Prop :=
  (∃ j o, ops[j]? = some o ∧ L j ∧ o.dst = some t ∧ u = v j ∧ ∀ j' o', ops[j']? = some o' → L j' → o'.dst = some t → j' ≤ j) ∨
  ((∀ j o, ops[j]? = some o → L j → o.dst ≠ some t) ∧ u = nth T0 t)

theorem Cur.unique {v : Nat → V} {T0 : List V} {L L' : Nat → Prop} {t : Nat} {u u' : V} (h : Cur ops v T0 L t u) (h' : Cur ops v T0 L' t u') (he : ∀ j o, ops[j]? = some o → o.dst = some t → (L j ↔ L' j)) : u = u' := by
  rcases h with ⟨j, o, a1, a2, a3, a4, a5⟩ | ⟨a1, a2⟩ <;> rcases h' with ⟨j', o', b1, b2, b3, b4, b5⟩ | ⟨b1, b2⟩
  · have h1 := a5 j' o' b1 ((he j' o' b1 b3).2 b2) b3
    have h2 := b5 j o a1 ((he j o a1 a3).1 a2) a3
    have : j = j' := by omega
    subst this; rw [a4, b4]
  · exact (b1 j o a1 ((he j o a1 a3).1 a2) a3).elim
  · exact (a1 j' o' b1 ((he j' o' b1 b3).2 b2) b3).elim
  · rw [a2, b2]

theorem nth_ge : ∀ {T : List V} {t : Nat}, T.length ≤ t → nth T t = .undef := by
  intro T t h
  rw [nth_eq, List.getElem?_eq_none h]; rfl
theorem put_length (T : List V) (dst : Option Tmp) (v : V) : (put T dst v).length = T.length := by
  cases dst with
  | none => rfl
  | some d => simp [put, upd_eq]
theorem nth_put_same {T : List V} {t : Nat} {v : V} (h : t < T.length) : nth (put T (some t) v) t = v := by
  simp [put, upd_eq, nth_eq, h]
theorem nth_put_ne {T : List V} {dst : Option Tmp} {t : Nat} {v : V} (h : dst ≠ some t) : nth (put T dst v) t = nth T t := by
  cases dst with
  | none => rfl
  | some d =>
    have hne : d ≠ t := fun e => h (by rw [e])
    simp [put, upd_eq, nth_eq, List.getElem?_set, hne]
theorem ext_nth {a b : List V} (hl : a.length = b.length) (h : ∀ t, t < a.length → nth a t = nth b t) : a = b := by
  apply List.ext_getElem?
  intro t
  by_cases ht : t < a.length
  · have := h t ht
    rw [nth_eq, nth_eq] at this
    simp only [List.getElem?_eq_getElem ht, List.getElem?_eq_getElem (hl ▸ ht), Option.getD_some] at this
    rw [List.getElem?_eq_getElem ht, List.getElem?_eq_getElem (hl ▸ ht), this]
  · rw [List.getElem?_eq_none (by omega), List.getElem?_eq_none (by omega)]

/-- The lists of temporaries in the text's order. -/
theorem cur_text {v : Nat → V} {T0 : List V} {Tn : Nat → List V} (h0 : Tn 0 = T0) (hs : ∀ j o, ops[j]? = some o → Tn (j + 1) = put (Tn j) o.dst (v j)) : ∀ i, i ≤ ops.size → (Tn i).length = T0.length ∧ ∀ t, t < T0.length → Cur ops v T0 (fun j => j < i) t (nth (Tn i) t)
  | 0, _ => ⟨by rw [h0], fun t ht => .inr ⟨fun j o _ h => (Nat.not_lt_zero _ h).elim, by rw [h0]⟩⟩
  | i + 1, hi => by
    obtain ⟨h1, h2⟩ := cur_text h0 hs i (by omega)
    have ho : ops[i]? = some ops[i] := by simp [show i < ops.size by omega]
    rw [hs i _ ho]
    refine ⟨by rw [put_length, h1], fun t ht => ?_⟩
    by_cases hd : ops[i].dst = some t
    · rw [hd, nth_put_same (by omega)]
      exact .inl ⟨i, _, ho, Nat.lt_succ_self i, hd, rfl, fun j' o' _ h _ => by omega⟩
    · rw [nth_put_ne hd]
      rcases h2 t ht with ⟨j, o, a1, a2, a3, a4, a5⟩ | ⟨a1, a2⟩
      · refine .inl ⟨j, o, a1, by omega, a3, a4, fun j' o' b1 b2 b3 => ?_⟩
        by_cases hji : j' = i
        · subst hji; rw [ho] at b1; cases b1; exact (hd b3).elim
        · exact a5 j' o' b1 (by omega) b3
      · refine .inr ⟨fun j o b1 b2 b3 => ?_, a2⟩
        by_cases hji : j = i
        · subst hji; rw [ho] at b1; cases b1; exact hd b3
        · exact a1 j o b1 (by omega) b3

theorem Eff.born {g0 g : Gh} {H0 H : Hp} (h : Eff g0 g H0 H) {g' : Gh} {d idx b : Nat} (hle : g.le g') (hρ : ∀ d' i', ¬ (d' = d ∧ i' = idx) → g'.ρ d' i' = g.ρ d' i') (hb : ∀ n m, H0.sizes d = some (n, m) → n ≤ idx) : Eff g0 g' H0 H := by
  refine ⟨⟨h.grow.le.trans hle, fun d' i n m hs hl hu => ?_⟩, h.sizes⟩
  have hne : ¬ (d' = d ∧ i = idx) := by
    rintro ⟨rfl, rfl⟩
    have := hb n m hs; omega
  rw [hρ d' i hne]
  exact h.grow.unborn d' i n m hs hl hu

/-- What holds when some of the operations are done. -/
structure InvD (P : Program) (pol : Pol) (f : FuncId) (D : Nat) (ops : Array Oper) (w0 : World) (g0 : Gh) (H0 : Hp) (Fx : Array Value → Prop) (base : Nat) (T0 : List V) (v : Nat → V) (SS : List Hp) (listed : Array Bool) (a : Act) (w : World) : Prop where
  size : listed.size = ops.size
  closed : ∀ i o, ops[i]? = some o → listed.getD i false = true → ∀ e ∈ o.after, Region.binds .any e = true → listed.getD e.on false = true
  st : ∃ g TL S, SS[countOf (fun j o => (kindOf (pol.own f) o.op == .eff) && listed.getD j false) 0 ops.toList]? = some S ∧ Rel w0 D g S w ∧ TR g TL a.tmps ∧ TL.length = T0.length ∧ (∀ t, t < T0.length → Cur ops v T0 (fun j => listed.getD j false = true) t (nth TL t)) ∧ Eff g0 g H0 S ∧
    (∃ n m, S.sizes (place pol f D) = some (n, m) ∧ base + cntK pol f ops .alloc ops.size ≤ n) ∧ (∀ i o, ops[i]? = some o → kindOf (pol.own f) o.op = .alloc → listed.getD i false = false → g.ρ (place pol f D) (base + cntK pol f ops .alloc i) = none)
  defers : a.defers = []
  fx : Fx a.tmps

theorem getD_set {l : Array Bool} {i j : Nat} : (l.setIfInBounds i true).getD j false = if i = j ∧ j < l.size then true else l.getD j false := by
  simp only [Array.getD_eq_getD_getElem?, Array.getElem?_setIfInBounds]
  by_cases h : i = j
  · subst h
    by_cases h2 : i < l.size <;> simp [h2]
  · simp [h]
theorem getD_lt {l : Array Bool} {i : Nat} (h : i < l.size) : l.getD i true = l.getD i false := by simp [Array.getD, h]

theorem draw_any {w0 : World} {g0 : Gh} {H0 : Hp} {Fx : Array Value → Prop} (hcall : CallOK P call) (hok : drawOK (pol.own f) ops (befs [] ops.toList) = true) {base : Nat} {T0 : List V} {v : Nat → V} {Tn : Nat → List V} {SS : List Hp} {RR : List Rec} {Kc : List V → Hp → Option (V × Hp)} {res : V × Hp} {Q : Exit → Act → World → Prop}
    (hF : ∀ o ∈ ops.toList, Leaves Fx o.dst) (hK : ∀ T H a w, Kc T H = some res → Inv w0 D g0 H0 Fx T H a w → Q .normal a w) (hT0 : Tn 0 = T0) (hbase : ∀ n m, H0.sizes (place pol f D) = some (n, m) → n ≤ base)
    (hops : ∀ j o, ops[j]? = some o → OpF P pol call f D ops (befs [] ops.toList) base SS RR j o (Tn j) (Tn (j + 1)) (v j))
    (hfin : ∃ S, SS[cntK pol f ops .eff ops.size]? = some S ∧ Kc (Tn ops.size) S = some res)
    (hchk : ∀ r ∈ RR, ∀ k S, SS[k]? = some S → r.lo ≤ k → k ≤ r.hi → k ≠ r.at_ → aSame P ops r S = true) (hSS : SS.length = cntK pol f ops .eff ops.size + 1) :
    ∀ (fuel : Nat) (listed : Array Bool) (a : Act) (w : World), InvD P pol f D ops w0 g0 H0 Fx base T0 v SS listed a w → countOf (fun j _ => listed.getD j false) 0 ops.toList + fuel = ops.size → wpAny P .any ops Q fuel listed a w := by
  have hback := draw_back hok
  have htext := cur_text (ops := ops) hT0 (fun j o ho => (hops j o ho).next)
  intro fuel
  induction fuel with
  | zero =>
    intro listed a w hI hc
    have hall : ∀ j o, ops[j]? = some o → listed.getD j false = true := by
      intro j o ho
      have := (count_all (p := fun j _ => listed.getD j false) (os := ops.toList) (i := 0)).2 (by simpa using hc) j o (by simpa using ho)
      simpa using this
    have hready : Region.ready .any ops listed = [] := by
      rw [List.eq_nil_iff_forall_not_mem]
      intro j hj
      obtain ⟨h1, o, h2, h3⟩ := mem_ready.1 hj
      have hlt : j < listed.size := by rw [hI.size]; exact (Array.getElem?_eq_some_iff.1 h2).1
      rw [getD_lt hlt, hall j o h2] at h1; cases h1
    refine ⟨hready, ?_⟩
    obtain ⟨g, TL, S, hS, hR, hT, hl, hcur, hE, _, _⟩ := hI.st
    obtain ⟨S', hS', hres⟩ := hfin
    have hcnt : countOf (fun j o => (kindOf (pol.own f) o.op == .eff) && listed.getD j false) 0 ops.toList = cntK pol f ops .eff ops.size := by
      refine count_congr (fun j o hj => ?_)
      have ho : ops[j]? = some o := by simpa using hj
      simp only [Nat.zero_add, hall j o ho]
      have : j < ops.size := (Array.getElem?_eq_some_iff.1 ho).1
      simp [this]
    rw [hcnt, hS'] at hS; cases hS
    obtain ⟨hTl, hTc⟩ := htext ops.size (Nat.le_refl _)
    have hTL : TL = Tn ops.size := ext_nth (by rw [hl, hTl]) (fun t ht => (hcur t (by omega)).unique (hTc t (by omega)) (fun j o ho _ => ⟨fun _ => (Array.getElem?_eq_some_iff.1 ho).1, fun _ => hall j o ho⟩))
    subst hTL
    exact hK _ _ a w hres ⟨⟨g, hR, hT, hE⟩, hI.defers, hI.fx⟩
  | succ fuel ih =>
    intro listed a w hI hc
    refine ⟨fun hnil => ?_, fun i hi => ?_⟩
    · -- the first that is not listed is ready
      exfalso
      have hex : ∃ j, j < ops.size ∧ listed.getD j false = false := by
        refine Classical.byContradiction fun hno => ?_
        have hall : countOf (fun j _ => listed.getD j false) 0 ops.toList = countOf (fun _ _ => true) 0 ops.toList := count_congr (fun j o hj => by
          have ho : ops[j]? = some o := by simpa using hj
          have hlt := (Array.getElem?_eq_some_iff.1 ho).1
          simp only [Nat.zero_add]
          cases hb : listed.getD j false with
          | true => rfl
          | false => exact (hno ⟨j, hlt, hb⟩).elim)
        have htrue : ∀ (os : List Oper) (i : Nat), countOf (fun _ _ => true) i os = os.length := by
          intro os
          induction os with
          | nil => intro i; rfl
          | cons o os ih => intro i; simp [countOf, ih]; omega
        rw [hall, htrue] at hc
        simp at hc
      obtain ⟨j0, hj0⟩ := hex
      obtain ⟨j, ⟨hjlt, hjn⟩, hmin⟩ := least (p := fun j => j < ops.size ∧ listed.getD j false = false) j0 hj0
      have hmem : j ∈ Region.ready .any ops listed := by
        refine mem_ready.2 ⟨by rw [getD_lt (by rw [hI.size]; exact hjlt)]; exact hjn, ops[j], by simp [hjlt], fun e he hb => ?_⟩
        have hlt := hback j ops[j] (by simp [hjlt]) e he hb
        cases hb2 : listed.getD e.on false with
        | true => rfl
        | false => exact (hmin e.on hlt ⟨by omega, hb2⟩).elim
      rw [hnil] at hmem; cases hmem
    · obtain ⟨hnl, o, ho, hready⟩ := mem_ready.1 hi
      have hlt : i < ops.size := (Array.getElem?_eq_some_iff.1 ho).1
      have hltl : i < listed.size := by rw [hI.size]; exact hlt
      rw [getD_lt hltl] at hnl
      have hmem : o ∈ ops.toList := by
        have := (Array.getElem?_eq_some_iff.1 ho).2
        rw [← this]; simp
      have hL := hF o hmem
      have hO := hops i o ho
      obtain ⟨g, TL, S, hS, hR, hT, hl, hcur, hE, hsz, hun⟩ := hI.st
      obtain ⟨hTl, hTc⟩ := htext i (by omega)
      -- who stands ahead is listed; who is listed has not this one ahead
      have hah : ∀ j, ((befs [] ops.toList).getD i 0).testBit j = true → listed.getD j false = true ∧ j < i :=
        ahead_listed hback (L := fun j => listed.getD j false = true) (fun i o ho hl e he hb => hI.closed i o ho hl e he hb) i o ho hready
      have hnah : ∀ j oj, ops[j]? = some oj → listed.getD j false = true → ((befs [] ops.toList).getD j 0).testBit i = false := by
        intro j oj hoj hlj
        cases hb : ((befs [] ops.toList).getD j 0).testBit i with
        | false => rfl
        | true =>
          have := (ahead_listed hback (L := fun j => listed.getD j false = true) (fun i o ho hl e he hb => hI.closed i o ho hl e he hb) j oj hoj (hI.closed j oj hoj hlj) i hb).1
          rw [hnl] at this; cases this
      -- the temporaries it looks at
      have hlook : ∀ t ∈ tmpsOf ops o, nth TL t = nth (Tn i) t := by
        intro t ht
        by_cases htl : t < T0.length
        · refine (hcur t htl).unique (hTc t htl) (fun j oj hoj hd => ⟨fun hlj => ?_, fun hji => ?_⟩)
          · rcases Nat.lt_trichotomy j i with h | h | h
            · exact h
            · subst h; rw [hnl] at hlj; cases hlj
            · have := (draw_pair hok h ho hoj).2.1 t hd (.inr ht)
              rw [hnah j oj hoj hlj] at this; cases this
          · exact (hah j ((draw_pair hok hji hoj ho).2.2 t hd ht)).1
        · rw [nth_ge (by rw [hl]; exact Nat.not_lt.1 htl), nth_ge (by rw [hTl]; exact Nat.not_lt.1 htl)]
      -- the window
      have hlo : loOf (pol.own f) ops (befs [] ops.toList) i ≤ countOf (fun j o => (kindOf (pol.own f) o.op == .eff) && listed.getD j false) 0 ops.toList := by
        refine count_le (fun j oj hj hp => ?_)
        simp only [Nat.zero_add, Bool.and_eq_true] at hp ⊢
        exact ⟨hp.1, (hah j hp.2).1⟩
      have hhi : countOf (fun j o => (kindOf (pol.own f) o.op == .eff) && listed.getD j false) 0 ops.toList ≤ hiOf (pol.own f) ops (befs [] ops.toList) i := by
        refine count_le (fun j oj hj hp => ?_)
        simp only [Nat.zero_add, Bool.and_eq_true, Bool.not_eq_true'] at hp ⊢
        exact ⟨hp.1, hnah j oj (by simpa using hj) hp.2⟩
      -- what holds afterwards
      have hcount : countOf (fun j _ => (listed.setIfInBounds i true).getD j false) 0 ops.toList = countOf (fun j _ => listed.getD j false) 0 ops.toList + 1 :=
        count_insert (j0 := i) (o0 := o) (by simpa using ho) (by simpa using hnl) (by simp [getD_set, hltl]) (fun j oj hj hne => by
          simp only [Nat.zero_add, getD_set]
          rw [if_neg (fun h => hne h.1.symm)])
      have hL' : ∀ j, (listed.setIfInBounds i true).getD j false = true ↔ (j = i ∨ listed.getD j false = true) := by
        intro j
        rw [getD_set]
        by_cases hj : i = j
        · subst hj; simp [hltl]
        · simp [hj, Ne.symm hj]
      have after : ∀ (x : Value) (g' : Gh) (S' : Hp) (w' : World), VR g' (v i) x → Rel w0 D g' S' w' → g.le g' → Eff g0 g' H0 S' → SS[countOf (fun j o => (kindOf (pol.own f) o.op == .eff) && (listed.setIfInBounds i true).getD j false) 0 ops.toList]? = some S' →
          (∃ n m, S'.sizes (place pol f D) = some (n, m) ∧ base + cntK pol f ops .alloc ops.size ≤ n) → (∀ j oj, ops[j]? = some oj → kindOf (pol.own f) oj.op = .alloc → j ≠ i → listed.getD j false = false → g'.ρ (place pol f D) (base + cntK pol f ops .alloc j) = none) →
          wpAny P .any ops Q fuel (listed.setIfInBounds i true) (a.put o.dst x) w' := by
        intro x g' S' w' hv' hR' hle' hE' hS' hsz' hun'
        refine ih _ _ _ ⟨by simp [hI.size], fun j oj hoj hlj e he hb => ?_, ⟨g', put TL o.dst (v i), S', hS', hR', (hT.mono hle').put hv' o.dst, by rw [put_length, hl], fun t ht => ?_, hE', hsz', fun j oj hoj hk hlj => ?_⟩, by rw [Act.put_defers']; exact hI.defers, hL a x hI.fx⟩ (by rw [hcount]; omega)
        · rw [hL'] at hlj ⊢
          right
          rcases hlj with rfl | hlj
          · rw [ho] at hoj; cases hoj; exact hready e he hb
          · exact hI.closed j oj hoj hlj e he hb
        · by_cases hd : o.dst = some t
          · rw [hd, nth_put_same (by omega)]
            refine .inl ⟨i, o, ho, (hL' i).2 (.inl rfl), hd, rfl, fun j' o' b1 b2 b3 => ?_⟩
            rcases (hL' j').1 b2 with rfl | hlj
            · exact Nat.le_refl _
            · rcases Nat.lt_or_ge i j' with h | h
              · have := (draw_pair hok h ho b1).2.1 t b3 (.inl hd)
                rw [hnah j' o' b1 hlj] at this; cases this
              · exact h
          · rw [nth_put_ne hd]
            rcases hcur t ht with ⟨j, oj, a1, a2, a3, a4, a5⟩ | ⟨a1, a2⟩
            · refine .inl ⟨j, oj, a1, (hL' j).2 (.inr a2), a3, a4, fun j' o' b1 b2 b3 => ?_⟩
              rcases (hL' j').1 b2 with rfl | hlj
              · rw [ho] at b1; cases b1; exact (hd b3).elim
              · exact a5 j' o' b1 hlj b3
            · refine .inr ⟨fun j oj b1 b2 b3 => ?_, a2⟩
              rcases (hL' j).1 b2 with rfl | hlj
              · rw [ho] at b1; cases b1; exact hd b3
              · exact a1 j oj b1 hlj b3
        · have hji : j ≠ i := fun e => by subst e; rw [(hL' j).2 (.inl rfl)] at hlj; cases hlj
          refine hun' j oj hoj hk hji ?_
          cases hb : listed.getD j false with
          | false => rfl
          | true => rw [(hL' j).2 (.inr hb)] at hlj; cases hlj
      have hsame : kindOf (pol.own f) o.op ≠ .eff → countOf (fun j o => (kindOf (pol.own f) o.op == .eff) && (listed.setIfInBounds i true).getD j false) 0 ops.toList = countOf (fun j o => (kindOf (pol.own f) o.op == .eff) && listed.getD j false) 0 ops.toList := by
        intro hk
        refine count_congr (fun j oj hj => ?_)
        simp only [Nat.zero_add, getD_set]
        by_cases hji : i = j
        · subst hji
          have hoj : ops[i]? = some oj := by simpa using hj
          rw [ho] at hoj; cases hoj
          have : (kindOf (pol.own f) o.op == .eff) = false := by simpa using hk
          simp [this]
        · simp [hji]
      have grown : ∀ {g' : Gh}, Grow g g' S → ∀ j oj, ops[j]? = some oj → kindOf (pol.own f) oj.op = .alloc → j ≠ i → listed.getD j false = false → g'.ρ (place pol f D) (base + cntK pol f ops .alloc j) = none := by
        intro g' hg j oj hoj hk hji hlj
        obtain ⟨n, m, hs, hle⟩ := hsz
        have hjlt := (Array.getElem?_eq_some_iff.1 hoj).1
        have h1 : cntK pol f ops .alloc (j + 1) = cntK pol f ops .alloc j + 1 := cntK_step hoj hk
        have h2 : cntK pol f ops .alloc (j + 1) ≤ cntK pol f ops .alloc ops.size := cntK_mono (by omega)
        exact hg.unborn _ _ n m hs (by omega) (hun j oj hoj hk hlj)
      cases hk : kindOf (pol.own f) o.op with
      | val =>
        have hv := hO.val hk
        rw [← gVal_congr hlook] at hv
        obtain ⟨x, g', w', e1, e2, e3, e4⟩ := op_val ho hR hT hv
        refine e4 _ Q (after x g' S w' e1 e2 e3.le (hE.trans (.of_grow e3)) (by rw [hsame (by rw [hk]; simp)]; exact hS) hsz (grown e3))
      | read =>
        obtain ⟨⟨S1, hS1, hv1⟩, hrec⟩ := hO.read hk
        have hv : gRead P ops o (Tn i) S = some (v i) := by
          by_cases hat : countOf (fun j o => (kindOf (pol.own f) o.op == .eff) && listed.getD j false) 0 ops.toList = cntK pol f ops .eff i
          · rw [hat, hS1] at hS; cases hS; exact hv1
          · have := hchk _ hrec _ S hS hlo hhi hat
            unfold aSame at this
            split at this
            · rename_i t hop
              simp only at hop
              rw [hop] at hk; simp [kindOf] at hk
            · exact eqO_eq this
        rw [← gRead_congr hlook] at hv
        obtain ⟨x, g', w', e1, e2, e3, e4⟩ := op_read ho hR hT hv
        refine e4 _ Q (after x g' S w' e1 e2 e3.le (hE.trans (.of_grow e3)) (by rw [hsame (by rw [hk]; simp)]; exact hS) hsz (grown e3))
      | alloc =>
        obtain ⟨hg, hvi, hrec⟩ := hO.alloc hk
        obtain ⟨t, hop⟩ : ∃ t, o.op = .alloc t := by
          cases hop : o.op with
          | alloc t => exact ⟨t, rfl⟩
          | call c =>
            rw [hop] at hk
            obtain ⟨callee, args, ats⟩ := c
            cases callee with
            | builtin b => cases b <;> simp [kindOf] at hk
            | _ => simp [kindOf] at hk
          | convert => rw [hop] at hk; simp only [kindOf] at hk; split at hk <;> cases hk
          | makeSlice => rw [hop] at hk; simp only [kindOf] at hk; split at hk <;> cases hk
          | _ => rw [hop] at hk; simp [kindOf] at hk
        have hkle : countOf (fun j o => (kindOf (pol.own f) o.op == .eff) && listed.getD j false) 0 ops.toList ≠ ops.size + 1 := by
          have := (count_all (p := fun j o => (kindOf (pol.own f) o.op == .eff) && listed.getD j false) (os := ops.toList) (i := 0)).1
          simp only [Array.length_toList] at this
          omega
        have hs := hchk _ hrec _ S hS hlo hhi hkle
        simp only [aSame, hop, hvi] at hs
        split at hs
        · rename_i z hz
          have hob := eqObj_eq hs
          obtain ⟨c, rfl, hrz⟩ := run_zero (w := w) hz
          have hu := hun i o ho hk hnl
          obtain ⟨b1, b2⟩ := hR.born hob hu c.cells.toList t (0, 0) ⟨c.cells.toList, [], t, (0, 0), by simp, ofConst_cells _ c, fzOK_zero _, .inl rfl⟩
          refine wpOp_do ho (by simp [Region.wanted, hg]) ?_
          refine upon_value (w' := w.alloc (.cells c.cells t)) (x := .pointer (some ⟨w.heap.size, 0, none⟩)) ?_ ?_
          · simp only [execOp, hop, Instr.alloc, Sem.run_bind, hrz, Result.andThen_ok, newVar, newRow, run_newObj, Sem.run_pure]; rfl
          · refine after _ _ S _ (by rw [hvi]; simp only [VR]; exact ⟨_, by simp [Gh.addρ], rfl⟩) b1 b2 (hE.born b2 (d := place pol f D) (idx := base + cntK pol f ops .alloc i) (b := 0) (fun d' i' hne => by simp only [Gh.addρ, hne, if_false]) (fun n m hs => by have := hbase n m hs; omega)) (by rw [hsame (by rw [hk]; simp)]; exact hS) hsz (fun j oj hoj hkj hji hlj => ?_)
            have hne : ¬ (place pol f D = place pol f D ∧ base + cntK pol f ops .alloc j = base + cntK pol f ops .alloc i) := by
              rintro ⟨_, he⟩
              have h1 : cntK pol f ops .alloc (j + 1) = cntK pol f ops .alloc j + 1 := cntK_step hoj hkj
              have h2 : cntK pol f ops .alloc (i + 1) = cntK pol f ops .alloc i + 1 := cntK_step ho hk
              rcases Nat.lt_or_ge j i with h | h
              · have : cntK pol f ops .alloc (j + 1) ≤ cntK pol f ops .alloc i := cntK_mono h
                omega
              · have : cntK pol f ops .alloc (i + 1) ≤ cntK pol f ops .alloc j := cntK_mono (by omega)
                omega
            show (if place pol f D = place pol f D ∧ base + cntK pol f ops .alloc j = base + cntK pol f ops .alloc i then _ else _) = none
            rw [if_neg hne]
            exact hun j oj hoj hkj hlj
        · cases hs
      | eff =>
        obtain ⟨S1, S2, hS1, hS2, hv⟩ := hO.eff hk
        have hat : countOf (fun j o => (kindOf (pol.own f) o.op == .eff) && listed.getD j false) 0 ops.toList = cntK pol f ops .eff i := by
          refine count_congr (fun j oj hj => ?_)
          have hoj : ops[j]? = some oj := by simpa using hj
          simp only [Nat.zero_add]
          cases hke : (kindOf (pol.own f) oj.op == Kind.eff) with
          | false => rfl
          | true =>
            have hke' : kindOf (pol.own f) oj.op = .eff := by simpa using hke
            simp only [Bool.true_and]
            rw [Bool.eq_iff_iff]
            simp only [decide_eq_true_eq]
            constructor
            · intro hlj
              rcases Nat.lt_trichotomy j i with h | h | h
              · exact h
              · subst h; rw [hnl] at hlj; cases hlj
              · have := (draw_pair hok h ho hoj).1 hke' hk
                rw [hnah j oj hoj hlj] at this; cases this
            · intro h
              exact (hah j ((draw_pair hok h hoj ho).1 hk hke')).1
        rw [hat, hS1] at hS; cases hS
        rw [← gEff_congr hlook] at hv
        refine op_eff hcall ho hR hT hv _ Q (fun x g' w' e1 e2 e3 => ?_)
        refine after x g' S2 w' e1 e2 e3.le (hE.trans e3) ?_ ?_ (grown e3.grow)
        · have : countOf (fun j o => (kindOf (pol.own f) o.op == .eff) && (listed.setIfInBounds i true).getD j false) 0 ops.toList = countOf (fun j o => (kindOf (pol.own f) o.op == .eff) && listed.getD j false) 0 ops.toList + 1 :=
            count_insert (j0 := i) (o0 := o) (by simpa using ho) (by simp only [Nat.zero_add, hnl, Bool.and_false]) (by simp [getD_set, hltl, hk]) (fun j oj hj hne => by
              simp only [Nat.zero_add, getD_set]
              rw [if_neg (fun h => hne h.1.symm)])
          rw [this, hat]; exact hS2
        · obtain ⟨n, m, hs, hle⟩ := hsz
          obtain ⟨n', m', hs', hle'⟩ := e3.sizes _ n m hs
          exact ⟨n', m', hs', by omega⟩

/-- Regions that draw. -/
theorem aDraw_sound (hcall : CallOK P call) : DrawOK P pol call := by
  intro w0 D g0 H0 Fx f ops Kc res Q hF hK T H a w hr ⟨⟨g, hR, hT, hE⟩, hd, hFx⟩
  unfold aDraw at hr
  split at hr
  · rename_i hok
    have hpl : place pol f D ≤ D := by
      unfold place
      split <;> omega
    obtain ⟨fr, hfr⟩ := Hp.fr_some (H := H) (d := place pol f D) (by rw [hR.depth]; exact hpl)
    obtain ⟨H1, h1, h2, h3, h4⟩ := hoist_spec (pol := pol) (f := f) hpl ops.toList H hr hR
    have hszH : H.sizes (place pol f D) = some (objCount H (place pol f D), fr.fams.length) := by
      simp [Hp.sizes, hfr, objCount]
    obtain ⟨m', h5, h6⟩ := h4 _ _ hszH
    have hc : countOf (fun _ o => kindOf (pol.own f) o.op == .alloc) 0 ops.toList = cntK pol f ops .alloc ops.size := by
      refine count_congr (fun j o hj => ?_)
      have : j < ops.size := by
        have ho : ops[j]? = some o := by simpa using hj
        exact (Array.getElem?_eq_some_iff.1 ho).1
      simp [this]
    rw [hc] at h5 h6
    obtain ⟨v, Tn, SS, RR, k1, ⟨ext, k2⟩, k3, k4, ⟨S, k5, k6⟩, k7⟩ := go_spec ops.toList 0 0 T H1 [H1] [] h1 (by simp) (by simp) (by rw [cntK_zero]; rfl) (by rw [cntK_zero]; rfl) (by rw [cntK_zero])
    obtain ⟨k8, k9⟩ := chks_spec k6
    have hz : countOf (fun j o => (kindOf (pol.own f) o.op == .eff) && (Array.replicate ops.size false).getD j false) 0 ops.toList = 0 :=
      count_zero (fun j o hj => by simp [Array.getD_eq_getD_getElem?, Array.getElem?_replicate]; intro _; split <;> rfl)
    have hz2 : countOf (fun j _ => (Array.replicate ops.size false).getD j false) 0 ops.toList = 0 :=
      count_zero (fun j o hj => by simp [Array.getD_eq_getD_getElem?, Array.getElem?_replicate]; split <;> rfl)
    have hfalse : ∀ j, (Array.replicate ops.size false).getD j false = false := by
      intro j; simp [Array.getD_eq_getD_getElem?, Array.getElem?_replicate]; split <;> rfl
    refine draw_any (w0 := w0) (g0 := g0) (H0 := H0) (Fx := Fx) hcall hok (Tn := Tn) (v := v) (SS := SS) (RR := RR) (T0 := T) (base := objCount H (place pol f D)) (res := res) hF hK k1 (fun n m hs => ?_) (fun j o ho => k7 j o (Nat.zero_le _) ho) ⟨S, k5, k8⟩ k9 k4 ops.size _ a w
      ⟨by simp, fun i o ho hl => (by rw [hfalse] at hl; cases hl), ⟨g, T, H1, by rw [hz, k2]; rfl, h2, hT, rfl, fun t ht => .inr ⟨fun j o ho hl => (by have hl' : (Array.replicate ops.size false).getD j false = true := hl; rw [hfalse] at hl'; cases hl'), rfl⟩, hE.trans h3, ⟨_, _, h5, Nat.le_refl _⟩, fun i o ho hk _ => ?_⟩, hd, hFx⟩ (by rw [hz2]; omega)
    · obtain ⟨n', m'', hs', hle⟩ := hE.sizes _ n m hs
      rw [hszH] at hs'; cases hs'; exact hle
    · have hlt := (Array.getElem?_eq_some_iff.1 ho).1
      have e1 : cntK pol f ops .alloc (i + 1) = cntK pol f ops .alloc i + 1 := cntK_step ho hk
      have e2 : cntK pol f ops .alloc (i + 1) ≤ cntK pol f ops .alloc ops.size := cntK_mono (by omega)
      exact h6 _ (by omega)
  · cases hr
end

/-- THE ABSTRACT INTERPRETER IS SOUND. -/
theorem sound {P : Program} {pol : Pol} (hm : P.follows .mixedOrders = true) (hnn : NoNum P) (hprim : ∀ f pr, pol.prim f = some pr → CallOK1 P f pr) (n : Nat) : CallOK P (acall P pol n) :=
  acall_sound hm hnn (fun _ h => aDraw_sound h) hprim n

end Go.Abs
