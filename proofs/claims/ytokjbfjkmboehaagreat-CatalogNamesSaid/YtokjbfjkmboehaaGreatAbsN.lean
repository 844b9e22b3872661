/- Calls. -/
import Derived.Test.YtokjbfjkmboehaaGreatAbsK
set_option linter.unusedVariables false
set_option linter.unusedSimpArgs false
namespace Go.Abs
open Go.RowKit

/-- What a call of one function answers. -/
def CallOK1 (P : Program) (f : FuncId) (call : List V → Hp → Option (V × Hp)) : Prop :=
  ∀ args H r H', call args H = some (r, H') → ∀ (w0 w : World) (D : Nat) (g : Gh) (xs : List Value), Rel w0 D g H w → VRL g args xs →
    ∀ (o : Oper) (a : Act) (K : Act → World → Prop) (Q : Exit → Act → World → Prop),
      (∀ x g' w', VR g' r x → Rel w0 D g' H' w' → Eff g g' H H' → K (a.put o.dst x) w') → o.upon P a K Q ((callFunc f ⟨xs⟩).run P w)

theorem CallOK.of_each {P : Program} {call : Oracle} (h : ∀ f, CallOK1 P f (call f)) : CallOK P call := fun f => h f

/-- No function of the program's is the one that the machine answers itself. -/
def NoNum (P : Program) : Prop := ∀ (f : FuncId) (fn : Func), P.funcs[f]? = some fn → fn.body.isNone = false → (fn.name == "runtime.NumGoroutine") = false

section
variable {P : Program} {w0 w : World} {D : Nat} {g : Gh} {H : Hp}

theorem run_mapM_results {a : Act} (h : Rel w0 D g H w) {T : List V} (hT : TR g T a.tmps) {f : ResultVar → Sem Value} (hf : f = (fun r => match r with | .tmp t => pure (a.tmps.getD t undef) | .cell x t => do loadVar t (← asAddr (a.tmps.getD x undef)))) :
    ∀ (rs : List ResultVar) {β : Type} (K : List V → Option β) (res : β), aResults P T H K rs = some res → ∃ vs xs, K vs = some res ∧ VRL g vs xs ∧ (rs.mapM f).run P w = .ok xs w
  | [], β, K, res, hr => by
    simp only [aResults] at hr
    exact ⟨[], [], hr, VRL.nil g, by simp⟩
  | r :: rs, β, K, res, hr => by
    simp only [aResults, ob] at hr
    split at hr
    · rename_i v hv
      obtain ⟨vs, xs, h1, h2, h3⟩ := run_mapM_results h hT hf rs _ res hr
      have one : ∃ x, (f r).run P w = .ok x w ∧ VR g v x := by
        subst hf
        cases r with
        | tmp t =>
          simp only [aResult, Option.some.injEq] at hv; subst hv
          exact ⟨_, rfl, hT.nth t⟩
        | cell x t =>
          simp only [aResult] at hv
          split at hv
          · rename_i b hb
            split at hv
            · rename_i n hn
              obtain ⟨z, e1, e2⟩ := sim_load h (hT.nth x) hb hn hv
              refine ⟨z, ?_, e2⟩
              have hx := hT.nth x
              rcases hvx : Abs.nth T x with _ | _ | _ | _ | _ | _ | ⟨d, i, off⟩ | cs | _ | _ | _ | _ | _ | _ | _ | _ <;> rw [hvx] at hv hx <;> simp only [aLoad, reduceCtorEq] at hv
              · simp only [VR] at hx
                obtain ⟨bk, _, hx⟩ := hx
                rw [hx] at e1
                simp only []
                rw [hx]
                exact e1
              · simp only [VR] at hx
                obtain ⟨bk, o, ys, hx, _⟩ := hx
                rw [hx] at e1
                simp only []
                rw [hx]
                exact e1
            · cases hv
          · cases hv
      obtain ⟨x, e1, e2⟩ := one
      exact ⟨v :: vs, x :: xs, h1, VRL.cons e2 h2, by simp [List.mapM_cons, e1, h3]⟩
    · cases hr

theorem aBody_sound {pol : Pol} {call : Oracle} (hcall : CallOK P call) (hdraw : DrawOK P pol call) (hm : P.follows .mixedOrders = true) (hnn : NoNum P) (n : Nat) (f : FuncId) : CallOK1 P f (aBody P pol call n f) := by
  intro args H r H' hr w0 w D g xs hR hargs o a K Q hK
  unfold aBody at hr
  split at hr
  · cases hr
  · rename_i fn hf
    split at hr
    · cases hr
    · rename_i c hb
      have hrun : (callFunc f ⟨xs⟩).run P w = .ok (.enter f ⟨xs⟩) w := by
        have h1 := hnn f fn hf (by simp [hb])
        have h2 : fn.body.isNone = false := by simp [hb]
        simp only [callFunc, Sem.run_bind, run_program, Result.andThen_ok, hf, h1, Bool.false_eq_true, if_false, h2]
        rfl
      rw [hrun]
      show Calls P f ⟨xs⟩ w _
      refine calls_of_wp hf hb ?_
      have hlen : args.length = xs.length := hargs.length.symm
      have hT : TR g (args ++ List.replicate (fn.ntmps - args.length) .undef) (⟨xs⟩ ++ Array.replicate (fn.ntmps - (⟨xs⟩ : Array Value).size) undef) := by
        unfold TR
        rw [Array.toList_append, Array.toList_replicate]
        simp only [List.size_toArray]
        rw [hlen]
        exact hargs.append (VRL.replicate (by simp [VR]) _)
      have hdep : H.stk.length = D := hR.depth
      have hI : Inv w0 (D + 1) g (aPush H) (fun _ => True) (args ++ List.replicate (fn.ntmps - args.length) .undef) (aPush H)
          { tmps := ⟨xs⟩ ++ Array.replicate (fn.ntmps - (⟨xs⟩ : Array Value).size) undef, defers := [] } w :=
        ⟨⟨g, hR.push, hT, .refl _ _⟩, rfl, trivial⟩
      have hr' : aCode P pol call f (D + 1) n c 0 (aLeave P (pol.keep f) fn.results.toList D) (args ++ List.replicate (fn.ntmps - args.length) .undef) (aPush H) = some (r, H') := by
        rw [← hdep]; exact hr
      refine aCode_sound (w0 := w0) hcall hdraw hm c 0 _ _ _ hr' g (aPush H) (fun _ => True) _ LeavesC.true (fun ax T1 H1 a1 w1 h1 h2 => ?_) _ w hI
      obtain ⟨⟨g1, hR1, hT1, hE1⟩, hd1, _⟩ := h2
      have fin : aResults P T1 H1 (fun vs => leave (pol.keep f) D vs H1) fn.results.toList = some (r, H') → a1.defers = [] ∧ ∃ v, (results fn a1.tmps).run P w1 = .ok v w1 ∧ K (a.put o.dst v) w1 := by
        intro hres
        refine ⟨hd1, ?_⟩
        obtain ⟨vs, ys, k1, k2, k3⟩ := run_mapM_results hR1 hT1 rfl fn.results.toList _ _ hres
        obtain ⟨g2, l1, l2, l3⟩ := leave_spec hR.restr_self hR1 hE1 hdep k2 k1
        refine ⟨_, ?_, hK _ g2 w1 l2 l1 l3⟩
        unfold results
        rw [Array.mapM_eq_mapM_toList]
        simp only [Sem.run_bind, map_eq_pure_bind, Sem.run_pure]
        exact Eq.trans (congrArg (fun r : Result (List Value) => (r.andThen fun a w' => .ok a.toArray w').andThen fun a w' => .ok (if h : a.size = 1 then a[0] else Value.tuple a) w') k3) rfl
      cases ax with
      | normal => exact fin h1
      | ret => exact fin h1
      | exit id => simp [aLeave] at h1

/-- ALL CALLS. -/
theorem acall_sound {pol : Pol} (hm : P.follows .mixedOrders = true) (hnn : NoNum P) (hdraw : ∀ call, CallOK P call → DrawOK P pol call) (hprim : ∀ f pr, pol.prim f = some pr → CallOK1 P f pr) : ∀ n, CallOK P (acall P pol n)
  | 0 => by intro f args H r H' hr; simp [acall] at hr
  | n + 1 => by
    have ih := acall_sound hm hnn hdraw hprim n
    refine CallOK.of_each (fun f => ?_)
    intro args H r H' hr
    simp only [acall] at hr
    split at hr
    · rename_i pr hp
      exact hprim f pr hp args H r H' hr
    · exact aBody_sound ih (hdraw _ ih) hm hnn n f args H r H' hr
end

end Go.Abs
