/- For regions that draw their order: what an operation looks at; counting; what stands ahead. -/
import Derived.Test.YtokjbfjkmboehaaGreatAbsN
set_option linter.unusedVariables false
set_option linter.unusedSimpArgs false
namespace Go.Abs
open Go.RowKit

/-! ### Equal values -/

mutual
theorem eqV_eq : ∀ {a b : V}, eqV a b = true → a = b
  | .undef, b, h => by cases b <;> simp [eqV] at h ⊢
  | .unk, b, h => by cases b <;> simp [eqV] at h ⊢
  | .bool _, b, h => by cases b <;> simp [eqV] at h ⊢; exact h
  | .int _ _, b, h => by cases b <;> simp [eqV] at h ⊢; exact h
  | .str _, b, h => by cases b <;> simp [eqV] at h ⊢; exact h
  | .nilp, b, h => by cases b <;> simp [eqV] at h ⊢
  | .ptr _ _ _, b, h => by cases b <;> simp [eqV] at h ⊢; exact ⟨h.1.1, h.1.2, h.2⟩
  | .imm a, b, h => by cases b <;> simp only [eqV, Bool.false_eq_true] at h; rw [eqL_eq h]
  | .sl _ a _, b, h => by
    cases b <;> simp only [eqV, Bool.false_eq_true, Bool.and_eq_true, beq_iff_eq, decide_eq_true_eq] at h
    rw [eqL_eq h.2, h.1.1, h.1.2]
  | .sref .., b, h => by cases b <;> simp [eqV] at h ⊢; exact ⟨h.1.1.1.1, h.1.1.1.2, h.1.1.2, h.1.2, h.2⟩
  | .nilm, b, h => by cases b <;> simp [eqV] at h ⊢
  | .mapr _ _, b, h => by cases b <;> simp [eqV] at h ⊢; exact h
  | .nilf, b, h => by cases b <;> simp [eqV] at h ⊢
  | .fn _ a c, b, h => by
    cases b <;> simp only [eqV, Bool.false_eq_true, Bool.and_eq_true, beq_iff_eq] at h
    rw [eqL_eq h.2, eqL_eq h.1.2, h.1.1]
  | .agg a, b, h => by cases b <;> simp only [eqV, Bool.false_eq_true] at h; rw [eqL_eq h]
  | .tup a, b, h => by cases b <;> simp only [eqV, Bool.false_eq_true] at h; rw [eqL_eq h]
theorem eqL_eq : ∀ {a b : List V}, eqL a b = true → a = b
  | [], b, h => by cases b <;> simp [eqL] at h ⊢
  | a :: us, b, h => by
    cases b <;> simp only [eqL, Bool.false_eq_true, Bool.and_eq_true] at h
    rw [eqV_eq h.1, eqL_eq h.2]
end
theorem eqO_eq {o : Option V} {v : V} (h : eqO o v = true) : o = some v := by
  unfold eqO at h
  split at h
  · rw [eqV_eq h]
  · cases h
theorem eqObj_eq {o : Option AO} {z : List V} (h : eqObj o z = true) : o = some (.cells z) := by
  unfold eqObj at h
  split at h
  · rw [eqL_eq h]
  · cases h

/-! ### An operation looks at its operands alone -/

section
variable {P : Program}

theorem places_congr {T T' : List V} {ps : Array (Nat × Operand)} (h : ∀ x ∈ ps.map (·.2), aEval T x = aEval T' x) : ∀ {t : TypeId} {l : List (Nat × Operand)} {r : List (Nat × Nat × Operand)}, (∀ p ∈ l, p ∈ ps.toList) → tPlaces P t l = some r →
    (r.map fun x => (x.1, x.2.1, aEval T x.2.2)) = r.map fun x => (x.1, x.2.1, aEval T' x.2.2)
  | t, [], r, _, hr => by simp only [tPlaces, Option.some.injEq] at hr; subst hr; rfl
  | t, (i, x) :: l, r, hl, hr => by
    simp only [tPlaces] at hr
    split at hr
    · split at hr
      · rename_i r' hr'
        simp only [Option.some.injEq] at hr; subst hr
        have hx : aEval T x = aEval T' x := h x (by
          have := hl (i, x) (by simp)
          exact Array.mem_map.2 ⟨(i, x), by simpa using this, rfl⟩)
        simp only [List.map_cons, hx]
        rw [places_congr h (fun p hp => hl p (by simp [hp])) hr']
      · cases hr
    · cases hr

theorem list_congr {T T' : List V} {l : Array Operand} (h : ∀ x ∈ l, aEval T x = aEval T' x) : l.toList.map (aEval T) = l.toList.map (aEval T') :=
  List.map_congr_left fun x hx => h x (by simpa using hx)
theorem opt_congr {T T' : List V} {l : Option Operand} (h : ∀ x, l = some x → aEval T x = aEval T' x) : l.map (aEval T) = l.map (aEval T') := by
  cases l with
  | none => rfl
  | some x => simp [h x rfl]
theorem args_congr {T T' : List V} {c : Call} (h : ∀ x ∈ c.operands, aEval T x = aEval T' x) : (∀ x ∈ c.args.toList, aEval T x = aEval T' x) ∧ (∀ f, c.callee = .value f → aEval T f = aEval T' f) :=
  ⟨fun x hx => h x (by simp [Call.operands]; exact .inr (by simpa using hx)), fun f hf => h f (by simp [Call.operands, hf])⟩

theorem aVal_congr {o : Oper} {T T' : List V} (h : ∀ x ∈ o.op.operands, aEval T x = aEval T' x) : aVal P o T = aVal P o T' := by
  obtain ⟨dst, op, type, pos, after, guard⟩ := o
  cases op <;> simp only [Op.operands] at h <;> simp only [aVal]
  case build t ps =>
    split
    · split
      · split
        · rename_i r hr
          rw [places_congr (ps := ps) (fun x hx => h x (by simpa using hx)) (fun p hp => hp) hr]
        · rfl
      · rfl
    · rfl
  case buildSlice t n ps =>
    split
    · split
      · split
        · rename_i r hr
          rw [places_congr (ps := ps) (fun x hx => h x (by simpa using hx)) (fun p hp => hp) hr]
        · rfl
      · rfl
    · rfl
  case makeFunc fn first captured =>
    have h1 := list_congr (l := first) (fun x hx => h x (by simp [hx]))
    have h2 := list_congr (l := captured) (fun x hx => h x (by simp [hx]))
    cases fn <;> simp only [h1, h2]
  case slice t x lo hi mx =>
    have h1 := h x (by simp)
    have h2 := opt_congr (l := lo) (fun y hy => h y (by simp [hy]))
    have h3 := opt_congr (l := hi) (fun y hy => h y (by simp [hy]))
    have h4 := opt_congr (l := mx) (fun y hy => h y (by simp [hy]))
    simp only [h1, h2, h3, h4]
  case call c =>
    obtain ⟨callee, args, ats⟩ := c
    obtain ⟨ha, hf⟩ := args_congr h
    cases callee with
    | builtin b =>
      cases b <;> simp only []
      all_goals
        rcases hl : args.toList with _ | ⟨x, _ | ⟨y, _ | ⟨z, l⟩⟩⟩ <;> simp only []
        simp only [hl] at ha
        rw [ha x (by simp), ha y (by simp)]
    | value f => rfl
    | invoke r m => rfl
  case binOp op t x y yt =>
    have h1 := h x (by simp)
    have h2 := h y (by simp)
    simp only [h1, h2]
  all_goals (first | rfl | (simp at h; simp_all; done) | (simp at h; simp only [h]; done))

theorem aRead_congr {o : Oper} {T T' : List V} {H : Hp} (h : ∀ x ∈ o.op.operands, aEval T x = aEval T' x) : aRead P o T H = aRead P o T' H := by
  obtain ⟨dst, op, type, pos, after, guard⟩ := o
  cases op <;> simp only [Op.operands] at h <;> simp only [aRead]
  case call c =>
    obtain ⟨callee, args, ats⟩ := c
    obtain ⟨ha, hf⟩ := args_congr h
    cases callee with
    | builtin b =>
      cases b <;> simp only []
      all_goals
        rcases hl : args.toList with _ | ⟨x, _ | ⟨y, l⟩⟩ <;> simp only []
        simp only [hl] at ha
        rw [ha x (by simp)]
    | value f => rfl
    | invoke r m => rfl
  all_goals (first | rfl | (simp at h; simp_all; done) | (simp at h; simp only [h]; done))

theorem aEff_congr {pol : Pol} {call : Oracle} {f : FuncId} {D : Nat} {o : Oper} {T T' : List V} {H : Hp} (h : ∀ x ∈ o.op.operands, aEval T x = aEval T' x) : aEff P pol call f D o T H = aEff P pol call f D o T' H := by
  obtain ⟨dst, op, type, pos, after, guard⟩ := o
  cases op <;> simp only [Op.operands] at h <;> simp only [aEff]
  case call c =>
    obtain ⟨callee, args, ats⟩ := c
    obtain ⟨ha, hf⟩ := args_congr h
    cases callee with
    | builtin b =>
      cases b <;> simp only []
      all_goals
        rcases hl : args.toList with _ | ⟨x, _ | ⟨y, _ | ⟨z, l⟩⟩⟩ <;> simp only []
        simp only [hl] at ha
        rw [ha x (by simp), ha y (by simp)]
    | value f =>
      simp only []
      rw [hf f rfl, List.map_congr_left ha]
    | invoke r m => rfl
  case makeMap t r =>
    cases r with
    | none => rfl
    | some x => simp only [h x (by simp)]
  all_goals (first | rfl | (simp at h; simp_all; done) | (simp at h; simp only [h]; done))

theorem tmps_of {ops : Array Oper} {o : Oper} {T T' : List V} (h : ∀ t ∈ tmpsOf ops o, nth T t = nth T' t) : (∀ x ∈ o.op.operands, aEval T x = aEval T' x) ∧ (∀ t want, guardOf ops o = some (some (t, want)) → nth T t = nth T' t) := by
  constructor
  · intro x hx
    cases x with
    | tmp t =>
      refine h t (List.mem_append_left _ (List.mem_filterMap.2 ⟨.tmp t, by simpa using hx, rfl⟩))
    | _ => rfl
  · intro t want hg
    unfold guardOf at hg
    split at hg
    · cases hg
    · rename_i j w' hj
      split at hg
      · cases hg
      · rename_i t' ht'
        simp only [Option.some.injEq, Prod.mk.injEq] at hg
        obtain ⟨rfl, rfl⟩ := hg
        exact h t' (List.mem_append_right _ (by simp [hj, ht']))
theorem gVal_congr {ops : Array Oper} {o : Oper} {T T' : List V} (h : ∀ t ∈ tmpsOf ops o, nth T t = nth T' t) : gVal P ops o T = gVal P ops o T' := by
  obtain ⟨h1, h2⟩ := tmps_of h
  unfold gVal
  split
  · exact aVal_congr h1
  · rfl
  · rename_i t want hg
    rw [h2 t want hg, aVal_congr h1]
theorem gRead_congr {ops : Array Oper} {o : Oper} {T T' : List V} {H : Hp} (h : ∀ t ∈ tmpsOf ops o, nth T t = nth T' t) : gRead P ops o T H = gRead P ops o T' H := by
  obtain ⟨h1, h2⟩ := tmps_of h
  unfold gRead
  split
  · exact aRead_congr h1
  · rfl
  · rename_i t want hg
    rw [h2 t want hg, aRead_congr h1]
theorem gEff_congr {pol : Pol} {call : Oracle} {f : FuncId} {D : Nat} {ops : Array Oper} {o : Oper} {T T' : List V} {H : Hp} (h : ∀ t ∈ tmpsOf ops o, nth T t = nth T' t) : gEff P pol call f D ops o T H = gEff P pol call f D ops o T' H := by
  obtain ⟨h1, h2⟩ := tmps_of h
  unfold gEff
  split
  · exact aEff_congr h1
  · rfl
  · rename_i t want hg
    rw [h2 t want hg, aEff_congr h1]
end

/-! ### Counting -/

theorem count_le {p q : Nat → Oper → Bool} : ∀ {os : List Oper} {i : Nat}, (∀ j o, os[j]? = some o → p (i + j) o = true → q (i + j) o = true) → countOf p i os ≤ countOf q i os
  | [], i, _ => Nat.le_refl _
  | o :: os, i, h => by
    simp only [countOf]
    have h0 := h 0 o (by simp)
    simp only [Nat.add_zero] at h0
    have ih := count_le (p := p) (q := q) (os := os) (i := i + 1) (fun j o' hj => by have := h (j + 1) o' (by simpa using hj); rwa [show i + (j + 1) = i + 1 + j by omega] at this)
    cases hp : p i o <;> cases hq : q i o <;> simp only []
    · omega
    · omega
    · rw [hq] at h0; exact absurd (h0 hp) (by simp)
    · omega
theorem count_congr {p q : Nat → Oper → Bool} {os : List Oper} {i : Nat} (h : ∀ j o, os[j]? = some o → p (i + j) o = q (i + j) o) : countOf p i os = countOf q i os :=
  Nat.le_antisymm (count_le fun j o hj hp => by rw [← h j o hj]; exact hp) (count_le fun j o hj hp => by rw [h j o hj]; exact hp)
theorem count_insert {p q : Nat → Oper → Bool} : ∀ {os : List Oper} {i j0 : Nat} {o0 : Oper}, os[j0]? = some o0 → p (i + j0) o0 = false → q (i + j0) o0 = true → (∀ j o, os[j]? = some o → j ≠ j0 → p (i + j) o = q (i + j) o) → countOf q i os = countOf p i os + 1
  | [], _, _, _, h, _, _, _ => by simp at h
  | o :: os, i, 0, o0, h, hp, hq, he => by
    simp only [List.getElem?_cons_zero, Option.some.injEq] at h; subst h
    simp only [Nat.add_zero] at hp hq
    have : countOf p (i + 1) os = countOf q (i + 1) os := count_congr (fun j o' hj => by have := he (j + 1) o' (by simpa using hj) (by omega); rwa [show i + (j + 1) = i + 1 + j by omega] at this)
    simp only [countOf, hp, hq, this]; omega
  | o :: os, i, j0 + 1, o0, h, hp, hq, he => by
    have h0 := he 0 o (by simp) (by omega)
    simp only [Nat.add_zero] at h0
    rw [show i + (j0 + 1) = i + 1 + j0 by omega] at hp hq
    have ih := count_insert (p := p) (q := q) (os := os) (i := i + 1) (j0 := j0) (by simpa using h) hp hq (fun j o' hj hne => by have := he (j + 1) o' (by simpa using hj) (by omega); rwa [show i + (j + 1) = i + 1 + j by omega] at this)
    simp only [countOf, h0, ih]; omega
theorem count_all {p : Nat → Oper → Bool} : ∀ {os : List Oper} {i : Nat}, countOf p i os ≤ os.length ∧ (countOf p i os = os.length → ∀ j o, os[j]? = some o → p (i + j) o = true)
  | [], _ => ⟨Nat.le_refl _, fun _ j o h => by simp at h⟩
  | o :: os, i => by
    obtain ⟨h1, h2⟩ := count_all (p := p) (os := os) (i := i + 1)
    simp only [countOf, List.length_cons]
    refine ⟨by split <;> omega, fun h j o' hj => ?_⟩
    cases hp : p i o with
    | false => rw [hp] at h; simp only at h; omega
    | true =>
      rw [hp] at h; simp only at h
      cases j with
      | zero => simp only [List.getElem?_cons_zero, Option.some.injEq] at hj; subst hj; exact hp
      | succ j => have := h2 (by omega) j o' (by simpa using hj); rwa [show i + (j + 1) = i + 1 + j by omega]
theorem count_zero {p : Nat → Oper → Bool} {os : List Oper} {i : Nat} (h : ∀ j o, os[j]? = some o → p (i + j) o = false) : countOf p i os = 0 := by
  have h1 : countOf p i os = countOf (fun _ _ => false) i os := count_congr h
  have h2 : ∀ (os : List Oper) (i : Nat), countOf (fun _ _ => false) i os = 0 := by
    intro os
    induction os with
    | nil => intro i; rfl
    | cons o os ih => intro i; simp [countOf, ih]
  rw [h1, h2]

/-! ### What stands ahead of an operation in every order -/

theorem bef1_bit {acc : List Nat} {j : Nat} : ∀ {es : List Edge}, (bef1 acc es).testBit j = true → ∃ e ∈ es, Region.binds .any e = true ∧ (e.on = j ∨ (acc.getD e.on 0).testBit j = true)
  | [], h => by simp [bef1] at h
  | e :: es, h => by
    simp only [bef1] at h
    split at h
    · rename_i hb
      rw [Nat.testBit_or, Nat.testBit_or] at h
      simp only [Bool.or_eq_true] at h
      rcases h with (h | h) | h
      · rw [Nat.testBit_two_pow] at h
        exact ⟨e, by simp, hb, .inl (by simpa using h)⟩
      · exact ⟨e, by simp, hb, .inr h⟩
      · obtain ⟨e', h1, h2⟩ := bef1_bit h
        exact ⟨e', by simp [h1], h2⟩
    · obtain ⟨e', h1, h2⟩ := bef1_bit h
      exact ⟨e', by simp [h1], h2⟩
theorem befs_spec : ∀ (os : List Oper) (acc : List Nat), ∃ ext, befs acc os = acc ++ ext ∧ ext.length = os.length ∧ ∀ j o, os[j]? = some o → (befs acc os).getD (acc.length + j) 0 = bef1 ((befs acc os).take (acc.length + j)) o.after.toList
  | [], acc => ⟨[], by simp [befs], rfl, fun j o h => by simp at h⟩
  | o :: os, acc => by
    obtain ⟨ext, h1, h2, h3⟩ := befs_spec os (acc ++ [bef1 acc o.after.toList])
    refine ⟨bef1 acc o.after.toList :: ext, by simp only [befs]; rw [h1]; simp, by simp [h2], fun j o' hj => ?_⟩
    simp only [befs]
    cases j with
    | zero =>
      simp only [List.getElem?_cons_zero, Option.some.injEq] at hj; subst hj
      rw [h1]
      simp [List.getD_eq_getElem?_getD, List.getElem?_append]
    | succ j =>
      have := h3 j o' (by simpa using hj)
      simpa [Nat.add_assoc, Nat.add_comm 1 j] using this

/-- In every order an operation comes behind those ahead of it. -/
theorem ahead_listed {ops : Array Oper} (hback : ∀ i o, ops[i]? = some o → ∀ e ∈ o.after, Region.binds .any e = true → e.on < i) {L : Nat → Prop} (hcl : ∀ i o, ops[i]? = some o → L i → ∀ e ∈ o.after, Region.binds .any e = true → L e.on) :
    ∀ (i : Nat) (o : Oper), ops[i]? = some o → (∀ e ∈ o.after, Region.binds .any e = true → L e.on) → ∀ j, ((befs [] ops.toList).getD i 0).testBit j = true → L j ∧ j < i := by
  intro i
  induction i using Nat.strongRecOn with
  | _ i ih =>
    intro o ho hl j hj
    obtain ⟨ext, h1, h2, h3⟩ := befs_spec ops.toList []
    have hb := h3 i o (by simpa using ho)
    simp only [List.length_nil, Nat.zero_add] at hb
    rw [hb] at hj
    obtain ⟨e, he, hbe, hor⟩ := bef1_bit hj
    have hmem : e ∈ o.after := by simpa using he
    have hlt := hback i o ho e hmem hbe
    have hLe := hl e hmem hbe
    rcases hor with rfl | hbit
    · exact ⟨hLe, hlt⟩
    · have hi : i < ops.size := (Array.getElem?_eq_some_iff.1 ho).1
      have hoe : ops[e.on]? = some ops[e.on] := by simp [show e.on < ops.size by omega]
      have hg : ((befs [] ops.toList).take i).getD e.on 0 = (befs [] ops.toList).getD e.on 0 := by
        rw [List.getD_eq_getElem?_getD, List.getD_eq_getElem?_getD, List.getElem?_take, if_pos hlt]
      rw [hg] at hbit
      obtain ⟨a1, a2⟩ := ih e.on hlt _ hoe (hcl e.on _ hoe hLe) j hbit
      exact ⟨a1, by omega⟩

end Go.Abs
