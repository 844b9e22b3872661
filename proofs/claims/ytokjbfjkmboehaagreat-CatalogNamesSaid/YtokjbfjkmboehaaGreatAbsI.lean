/- Operations in a region, one at a time. -/
import Derived.Test.YtokjbfjkmboehaaGreatAbsH
import Derived.Orders
set_option linter.unusedVariables false
set_option linter.unusedSimpArgs false
namespace Go.Abs
open Go.RowKit

/-- What a call answers, if here it answers. -/
def CallOK (P : Program) (call : Oracle) : Prop :=
  ∀ f args H r H', call f args H = some (r, H') → ∀ (w0 w : World) (D : Nat) (g : Gh) (xs : List Value), Rel w0 D g H w → VRL g args xs →
    ∀ (o : Oper) (a : Act) (K : Act → World → Prop) (Q : Exit → Act → World → Prop),
      (∀ x g' w', VR g' r x → Rel w0 D g' H' w' → Eff g g' H H' → K (a.put o.dst x) w') → o.upon P a K Q ((callFunc f ⟨xs⟩).run P w)

section
variable {P : Program} {w0 w : World} {D : Nat} {g : Gh} {H : Hp}

theorem map_two {a : Act} {args : Array Operand} {x y : Operand} (h : args.toList = [x, y]) : args.map a.eval = #[a.eval x, a.eval y] := by
  rw [map_toList, h]; rfl
theorem map_one {a : Act} {args : Array Operand} {x : Operand} (h : args.toList = [x]) : args.map a.eval = #[a.eval x] := by
  rw [map_toList, h]; rfl
theorem first_of {ats : Array TypeId} {t : TypeId} {rest : List TypeId} (h : ats.toList = t :: rest) : ats[0]? = some t := by
  have : ats.toList[0]? = some t := by rw [h]; rfl
  simpa using this
theorem second_of {ats : Array TypeId} {t u : TypeId} {rest : List TypeId} (h : ats.toList = t :: u :: rest) : ats[1]? = some u := by
  have : ats.toList[1]? = some u := by rw [h]; rfl
  simpa using this

theorem upon_value {o : Oper} {a : Act} {K : Act → World → Prop} {Q : Exit → Act → World → Prop} {r : Result Next} {x : Value} {w' : World} (h : r = .ok (.value x) w') (hk : K (a.put o.dst x) w') : o.upon P a K Q r := by
  rw [h]; exact hk
theorem upon_skip {o : Oper} {a : Act} {K : Act → World → Prop} {Q : Exit → Act → World → Prop} {r : Result Next} {w' : World} (h : r = .ok .skip w') (hk : K (a.put o.dst undef) w') : o.upon P a K Q r := by
  rw [h]; exact hk

/-- An operation that may turn the heap does as told. -/
theorem sim_eff {pol : Pol} {call : Oracle} (hcall : CallOK P call) {f : FuncId} {T : List V} {a : Act} {o : Oper} {v : V} {H' : Hp} (h : Rel w0 D g H w) (hT : TR g T a.tmps) (hv : aEff P pol call f D o T H = some (v, H'))
    (K : Act → World → Prop) (Q : Exit → Act → World → Prop) (hK : ∀ x g' w', VR g' v x → Rel w0 D g' H' w' → Eff g g' H H' → K (a.put o.dst x) w') : o.wp P a w K Q := by
  unfold Oper.wp
  unfold aEff at hv
  split at hv
  · rename_i t p x ho
    split at hv
    · rename_i n hn
      obtain ⟨g', w', e1, rfl, e2, e3⟩ := sim_store h hn (hT.eval p) (hT.eval x) hv
      exact upon_skip (by simp [execOp, ho, e1]) (hK _ g' w' (by simp [VR]) e2 e3)
    · cases hv
  · rename_i t ho
    split at hv
    · rename_i z hz
      obtain ⟨x, g', w', e1, e2, e3, e4⟩ := sim_alloc h hz hv
      exact upon_value (by simp [execOp, ho, e1]) (hK x g' w' e2 e3 e4)
    · cases hv
  · rename_i t x ho
    obtain ⟨z, g', w', e1, e2, e3, e4⟩ := sim_box (P := P) (t := t) h (hT.eval x) hv
    exact upon_value (by simp [execOp, ho, e1]) (hK z g' w' e2 e3 e4)
  · rename_i t r ho
    split at hv
    · obtain ⟨z, g', w', e1, e2, e3, e4⟩ := sim_makeMap (P := P) (t := t) (rv := none) h (.inl rfl) hv
      exact upon_value (by simp [execOp, ho, e1]) (hK z g' w' e2 e3 e4)
    · rename_i x
      split at hv
      · rename_i k e hu
        split at hv
        · rename_i kd n hx
          have hx' := hT.eval x
          rw [hx] at hx'
          simp only [VR] at hx'
          obtain ⟨z, g', w', e1, e2, e3, e4⟩ := sim_makeMap (P := P) (t := t) (rv := some (a.eval x)) h (.inr ⟨k, e, kd, n, hu, by rw [hx']⟩) hv
          exact upon_value (by simp [execOp, ho, e1]) (hK z g' w' e2 e3 e4)
        · cases hv
      · cases hv
  · rename_i t m k x ho
    split at hv
    · rename_i kk z ht
      obtain ⟨g', w', e1, rfl, e2, e3⟩ := sim_mapPut h ht (hT.eval m) (hT.eval k) (hT.eval x) hv
      exact upon_skip (by simp [execOp, ho, e1]) (hK _ g' w' (by simp [VR]) e2 e3)
    · cases hv
  · rename_i src dst x ho
    split at hv
    · rename_i c hc
      obtain ⟨z, g', w', e1, e2, e3, e4⟩ := sim_convOwn h hc (hT.eval x) hv
      exact upon_value (by simp [execOp, ho, e1]) (hK z g' w' e2 e3 e4)
    · cases hv
  · rename_i t l c ho
    split at hv
    · rename_i e hu
      split at hv
      · rename_i z hz
        split at hv
        · rename_i by_ hb
          obtain ⟨y, g', w', e1, e2, e3, e4⟩ := sim_makeSliceOwn h hu hz hb (hT.eval l) (hT.eval c) hv
          exact upon_value (by simp [execOp, ho, e1]) (hK y g' w' e2 e3 e4)
        · cases hv
      · cases hv
    · cases hv
  · rename_i args ats ho
    split at hv
    · rename_i x y hargs
      split at hv
      · rename_i t u hats
        split at hv
        · rename_i s by_ hte
          have go : ∀ (isStr : Bool) (td : TypeDesc), P.underlying u = some td → (∀ k, td ≠ .int k) → pAppend (pol.own f) (place pol f D) D s by_ isStr (aEval T x) (aEval T y) H = some (v, H') → o.upon P a K Q ((execOp a.eval o).run P w) := by
            intro isStr td htd hni hp
            have hap : aAppend (pol.own f) (place pol f D) D s by_ (aEval T x) (aEval T y) H = some (v, H') := by
              unfold pAppend at hp
              split at hp
              · rename_i bs hy
                split at hp
                · exact hy ▸ hp
                · cases hp
              · split at hp
                · cases hp
                · exact hp
            obtain ⟨z, g', w', e1, e2, e3, e4⟩ := sim_append (ty := o.type) h (first_of hats) (second_of hats) hte htd hni (hT.eval x) (hT.eval y) hap
            refine upon_value ?_ (hK z g' w' e2 e3 e4)
            simp [execOp, ho, resolve, map_two hargs, invoke, builtin, e1]
          split at hv
          · rename_i e hu
            split at hv
            · rename_i s' hs'
              split at hv
              · exact go false _ hu (fun k e => by cases e) hv
              · cases hv
            · cases hv
          · rename_i hu
            exact go true _ hu (fun k e => by cases e) hv
          · cases hv
        · cases hv
      · cases hv
    · cases hv
  · rename_i args ats ho
    split at hv
    · rename_i m k hargs
      split at hv
      · rename_i t rest hats
        split at hv
        · rename_i kk z ht
          obtain ⟨g', w', e1, rfl, e2, e3⟩ := sim_mapDel (ty := o.type) h (first_of hats) ht (hT.eval m) (hT.eval k) hv
          refine upon_value ?_ (hK _ g' w' (by simp only [VR]; exact ⟨[], rfl, VRL.nil _⟩) e2 e3)
          simp [execOp, ho, resolve, map_two hargs, invoke, builtin, e1]
        · cases hv
      · cases hv
    · cases hv
  · rename_i fv args ats ho
    have hf := hT.eval fv
    unfold pCallV at hv
    split at hv
    · rename_i fn first captured hfe
      rw [hfe] at hf
      simp only [VR] at hf
      obtain ⟨xs, ys, hfx, h1, h2⟩ := hf
      have hargs : VRL g (args.toList.map (aEval T)) (args.toList.map a.eval) := hT.evals args.toList
      have := hcall fn _ H v H' hv w0 w D g (xs ++ args.toList.map a.eval ++ ys) h ((h1.append hargs).append h2) o a K Q hK
      have he : (execOp a.eval o).run P w = (callFunc fn ⟨xs ++ args.toList.map a.eval ++ ys⟩).run P w := by
        simp only [execOp, ho, resolve, hfx, Deferred.ofValue, map_toList, Sem.run_bind, Sem.run_pure, Result.andThen_ok, invoke]
        congr 2
        simp
      rw [he]
      exact this
    · cases hv
  · cases hv

/-! ### Guards -/

theorem guard_none {ops : Array Oper} {o : Oper} (h : guardOf ops o = none) (tmps : Array Value) : Region.wanted o (yielded ops tmps) = true := by
  unfold guardOf at h
  unfold Region.wanted
  split at h
  · rename_i hg; simp [hg]
  · split at h <;> cases h
theorem guard_never {ops : Array Oper} {o : Oper} (h : guardOf ops o = some none) (tmps : Array Value) : Region.wanted o (yielded ops tmps) = false := by
  unfold guardOf at h
  unfold Region.wanted
  split at h
  · cases h
  · rename_i j want hg
    split at h
    · rename_i hn
      simp [hg, yielded, hn]
    · cases h
theorem guard_bool {ops : Array Oper} {o : Oper} {t : Tmp} {want b : Bool} (h : guardOf ops o = some (some (t, want))) {T : List V} {tmps : Array Value} (hT : TR g T tmps) (hb : nth T t = .bool b) :
    Region.wanted o (yielded ops tmps) = (b == want) := by
  have hv := hT.nth t
  rw [hb] at hv
  simp only [VR] at hv
  have ht : tmps[t]? = some (.bool b) := by
    rw [Array.getD_eq_getD_getElem?] at hv
    cases he : tmps[t]? with
    | none => rw [he] at hv; simp [undef] at hv
    | some x => rw [he] at hv; simp only [Option.getD_some] at hv; rw [hv]
  unfold guardOf at h
  unfold Region.wanted
  split at h
  · cases h
  · rename_i j want' hg
    split at h
    · cases h
    · rename_i t' ht'
      simp only [Option.some.injEq, Prod.mk.injEq] at h
      obtain ⟨rfl, rfl⟩ := h
      simp only [hg, yielded, ht', Option.bind_some, ht]
      cases b <;> cases want' <;> rfl
theorem guard_undef {ops : Array Oper} {o : Oper} {t : Tmp} {want : Bool} (h : guardOf ops o = some (some (t, want))) {T : List V} {tmps : Array Value} (hT : TR g T tmps) (hb : nth T t = .undef) :
    Region.wanted o (yielded ops tmps) = false := by
  have hv := hT.nth t
  rw [hb] at hv
  simp only [VR] at hv
  unfold guardOf at h
  unfold Region.wanted
  split at h
  · cases h
  · rename_i j want' hg
    split at h
    · cases h
    · rename_i t' ht'
      simp only [Option.some.injEq, Prod.mk.injEq] at h
      obtain ⟨rfl, rfl⟩ := h
      simp only [hg, yielded, ht', Option.bind_some]
      rw [Array.getD_eq_getD_getElem?] at hv
      cases he : tmps[t']? with
      | none => rfl
      | some x => rw [he] at hv; simp only [Option.getD_some] at hv; subst hv; rfl

theorem wpOp_skip {ops : Array Oper} {Q : Exit → Act → World → Prop} {i : Nat} {o : Oper} {a : Act} {K : Act → World → Prop} (hi : ops[i]? = some o) (hw : Region.wanted o (yielded ops a.tmps) = false) (hK : K (a.put o.dst undef) w) : wpOp P ops Q i K a w := by
  unfold wpOp
  simp only [hi, hw, Bool.false_eq_true, if_false]
  exact hK
theorem wpOp_do {ops : Array Oper} {Q : Exit → Act → World → Prop} {i : Nat} {o : Oper} {a : Act} {K : Act → World → Prop} (hi : ops[i]? = some o) (hw : Region.wanted o (yielded ops a.tmps) = true) (hK : o.wp P a w K Q) : wpOp P ops Q i K a w := by
  unfold wpOp
  simp only [hi, hw, if_true]
  exact .inl hK

theorem op_val {ops : Array Oper} {T : List V} {a : Act} {o : Oper} {v : V} {i : Nat} (hi : ops[i]? = some o) (h : Rel w0 D g H w) (hT : TR g T a.tmps) (hv : gVal P ops o T = some v) :
    ∃ x g' w', VR g' v x ∧ Rel w0 D g' H w' ∧ Grow g g' H ∧ ∀ (K : Act → World → Prop) (Q : Exit → Act → World → Prop), K (a.put o.dst x) w' → wpOp P ops Q i K a w := by
  have done : aVal P o T = some v → Region.wanted o (yielded ops a.tmps) = true → ∃ x g' w', VR g' v x ∧ Rel w0 D g' H w' ∧ Grow g g' H ∧ ∀ (K : Act → World → Prop) (Q : Exit → Act → World → Prop), K (a.put o.dst x) w' → wpOp P ops Q i K a w := by
    intro h1 h2
    obtain ⟨x, g', w', e1, e2, e3, e4⟩ := sim_val h hT h1
    exact ⟨x, g', w', e2, e3, e4, fun K Q hK => wpOp_do hi h2 (upon_value e1 hK)⟩
  have skip : Region.wanted o (yielded ops a.tmps) = false → v = .undef → ∃ x g' w', VR g' v x ∧ Rel w0 D g' H w' ∧ Grow g g' H ∧ ∀ (K : Act → World → Prop) (Q : Exit → Act → World → Prop), K (a.put o.dst x) w' → wpOp P ops Q i K a w := by
    intro h1 h2
    subst h2
    exact ⟨undef, g, w, by simp [VR], h, .refl _ _, fun K Q hK => wpOp_skip hi h1 hK⟩
  unfold gVal at hv
  split at hv
  · rename_i hg; exact done hv (guard_none hg _)
  · rename_i hg; cases hv; exact skip (guard_never hg _) rfl
  · rename_i t want hg
    unfold cond1 at hv
    split at hv
    · rename_i b hb
      split at hv
      · rename_i hbw; exact done hv (by rw [guard_bool hg hT hb, hbw])
      · rename_i hbw; cases hv; exact skip (by rw [guard_bool hg hT hb, hbw]) rfl
    · rename_i hb; cases hv; exact skip (guard_undef hg hT hb) rfl
    · cases hv

theorem op_read {ops : Array Oper} {T : List V} {a : Act} {o : Oper} {v : V} {i : Nat} (hi : ops[i]? = some o) (h : Rel w0 D g H w) (hT : TR g T a.tmps) (hv : gRead P ops o T H = some v) :
    ∃ x g' w', VR g' v x ∧ Rel w0 D g' H w' ∧ Grow g g' H ∧ ∀ (K : Act → World → Prop) (Q : Exit → Act → World → Prop), K (a.put o.dst x) w' → wpOp P ops Q i K a w := by
  have done : aRead P o T H = some v → Region.wanted o (yielded ops a.tmps) = true → ∃ x g' w', VR g' v x ∧ Rel w0 D g' H w' ∧ Grow g g' H ∧ ∀ (K : Act → World → Prop) (Q : Exit → Act → World → Prop), K (a.put o.dst x) w' → wpOp P ops Q i K a w := by
    intro h1 h2
    obtain ⟨x, g', w', e1, e2, e3, e4⟩ := sim_read h hT h1
    exact ⟨x, g', w', e2, e3, e4, fun K Q hK => wpOp_do hi h2 (upon_value e1 hK)⟩
  have skip : Region.wanted o (yielded ops a.tmps) = false → v = .undef → ∃ x g' w', VR g' v x ∧ Rel w0 D g' H w' ∧ Grow g g' H ∧ ∀ (K : Act → World → Prop) (Q : Exit → Act → World → Prop), K (a.put o.dst x) w' → wpOp P ops Q i K a w := by
    intro h1 h2
    subst h2
    exact ⟨undef, g, w, by simp [VR], h, .refl _ _, fun K Q hK => wpOp_skip hi h1 hK⟩
  unfold gRead at hv
  split at hv
  · rename_i hg; exact done hv (guard_none hg _)
  · rename_i hg; cases hv; exact skip (guard_never hg _) rfl
  · rename_i t want hg
    unfold cond1 at hv
    split at hv
    · rename_i b hb
      split at hv
      · rename_i hbw; exact done hv (by rw [guard_bool hg hT hb, hbw])
      · rename_i hbw; cases hv; exact skip (by rw [guard_bool hg hT hb, hbw]) rfl
    · rename_i hb; cases hv; exact skip (guard_undef hg hT hb) rfl
    · cases hv

theorem op_eff {pol : Pol} {call : Oracle} (hcall : CallOK P call) {f : FuncId} {ops : Array Oper} {T : List V} {a : Act} {o : Oper} {v : V} {H' : Hp} {i : Nat} (hi : ops[i]? = some o) (h : Rel w0 D g H w) (hT : TR g T a.tmps)
    (hv : gEff P pol call f D ops o T H = some (v, H')) (K : Act → World → Prop) (Q : Exit → Act → World → Prop) (hK : ∀ x g' w', VR g' v x → Rel w0 D g' H' w' → Eff g g' H H' → K (a.put o.dst x) w') : wpOp P ops Q i K a w := by
  have done : aEff P pol call f D o T H = some (v, H') → Region.wanted o (yielded ops a.tmps) = true → wpOp P ops Q i K a w := by
    intro h1 h2
    exact wpOp_do hi h2 (sim_eff hcall h hT h1 K Q hK)
  have skip : Region.wanted o (yielded ops a.tmps) = false → v = .undef → H' = H → wpOp P ops Q i K a w := by
    intro h1 h2 h3
    subst h2; subst h3
    exact wpOp_skip hi h1 (hK _ g w (by simp [VR]) h (.refl _ _))
  unfold gEff at hv
  split at hv
  · rename_i hg; exact done hv (guard_none hg _)
  · rename_i hg; cases hv; exact skip (guard_never hg _) rfl rfl
  · rename_i t want hg
    unfold cond2 at hv
    split at hv
    · rename_i b hb
      split at hv
      · rename_i hbw; exact done hv (by rw [guard_bool hg hT hb, hbw])
      · rename_i hbw; cases hv; exact skip (by rw [guard_bool hg hT hb, hbw]) rfl rfl
    · rename_i hb; cases hv; exact skip (guard_undef hg hT hb) rfl rfl
    · cases hv
end

end Go.Abs
