/- Calls of the kit's kind and those here. -/
import Derived.Test.YtokjbfjkmboehaaGreatAbsT
set_option linter.unusedVariables false
set_option linter.unusedSimpArgs false
namespace Go.Abs
open Go.RowKit

section
variable {P : Program}

theorem run_enter (hnn : NoNum P) {f : FuncId} {fn : Func} (hf : P.funcs[f]? = some fn) (hb : fn.body.isNone = false) (xs : List Value) (w : World) : (callFunc f ⟨xs⟩).run P w = .ok (.enter f ⟨xs⟩) w := by
  have h1 := hnn f fn hf hb
  simp only [callFunc, Sem.run_bind, run_program, Result.andThen_ok, hf, h1, Bool.false_eq_true, if_false, hb]
  rfl

/-- A contract of the kit's kind is one of the kind asked here. -/
theorem CallOK1.of_calls (hnn : NoNum P) {f : FuncId} {fn : Func} (hf : P.funcs[f]? = some fn) (hb : fn.body.isNone = false) {pr : List V → Hp → Option (V × Hp)}
    (h : ∀ args H r H', pr args H = some (r, H') → ∀ (w0 w : World) (D : Nat) (g : Gh) (xs : List Value), Rel w0 D g H w → VRL g args xs →
      Calls P f ⟨xs⟩ w fun e w' => ∃ x g', e = .returned x ∧ VR g' r x ∧ Rel w0 D g' H' w' ∧ Eff g g' H H') : CallOK1 P f pr := by
  intro args H r H' hr w0 w D g xs hR hargs o a K Q hK
  rw [run_enter hnn hf hb]
  refine (h args H r H' hr w0 w D g xs hR hargs).mono ?_
  rintro e w' ⟨x, g', rfl, h1, h2, h3⟩
  exact hK x g' w' h1 h2 h3

/-- What answers here is a contract of the kit's kind. -/
theorem CallOK.calls (hnn : NoNum P) {call : Oracle} (h : CallOK P call) {f : FuncId} {fn : Func} (hf : P.funcs[f]? = some fn) (hb : fn.body.isNone = false) {args : List V} {H H' : Hp} {r : V} (hr : call f args H = some (r, H'))
    {w0 w : World} {D : Nat} {g : Gh} {xs : List Value} (hR : Rel w0 D g H w) (hargs : VRL g args xs) :
    Calls P f ⟨xs⟩ w fun e w' => ∃ x g', e = .returned x ∧ VR g' r x ∧ Rel w0 D g' H' w' ∧ Eff g g' H H' := by
  have := h f args H r H' hr w0 w D g xs hR hargs { (default : Oper) with dst := some 0 } { tmps := #[undef], defers := [] }
    (fun a' w' => ∃ g', VR g' r (a'.tmps.getD 0 undef) ∧ Rel w0 D g' H' w' ∧ Eff g g' H H') (fun _ _ _ => False) (fun x g' w' h1 h2 h3 => ⟨g', by simpa [Act.put] using h1, h2, h3⟩)
  rw [run_enter hnn hf hb] at this
  refine Calls.mono this ?_
  intro e w' he
  cases e with
  | returned v =>
    obtain ⟨g', h1, h2, h3⟩ := he
    exact ⟨v, g', rfl, by simpa [Act.put] using h1, h2, h3⟩
  | panicked c => exact he.elim
  | outgrown => obtain ⟨_, _, hq⟩ := he; exact hq.elim

/-- Nothing is known yet. -/
def Gh.none_ : Gh := ⟨fun _ _ => none, fun _ => none, fun _ _ _ => none, fun _ => none⟩
def Hp.empty : Hp := ⟨Fr.empty, []⟩
theorem Rel.start (w : World) : Rel w 0 Gh.none_ Hp.empty w := by
  refine ⟨rfl, Below.refl _ _, fun d i b e => ?_, fun d i d' i' b e => ?_, fun d i o b e1 e2 => ?_, fun d i b e => ?_, fun b xs e => ?_, fun b n e => ?_, fun d f p e => ?_, fun d f p d' f' p' b e e' k => ?_, fun d f p x e => ?_, fun d i d' i' b e => ?_⟩
  · cases e
  · cases e
  · cases e2
  · cases e
  · cases e
  · cases e
  · have : (Hp.empty.fam d f) = none := by
      cases d with
      | zero => rfl
      | succ d => rfl
    rw [this] at e; cases e
  · have : (Hp.empty.fam d f) = none := by
      cases d with
      | zero => rfl
      | succ d => rfl
    rw [this] at k; cases k
  · cases e
  · cases e

/-- A call that answers a plain value, nothing being known ahead: the world below is as it was. -/
theorem CallOK.plain (hnn : NoNum P) {call : Oracle} (h : CallOK P call) {f : FuncId} {fn : Func} (hf : P.funcs[f]? = some fn) (hb : fn.body.isNone = false) {args : List V} {H' : Hp} {b : Bool} (hr : call f args Hp.empty = some (.bool b, H'))
    {w : World} {xs : List Value} (hargs : VRL Gh.none_ args xs) : Calls P f ⟨xs⟩ w fun e w' => e = .returned (.bool b) ∧ Below w.heap.size w w' := by
  refine (h.calls hnn hf hb hr (Rel.start w) hargs).mono ?_
  rintro e w' ⟨x, g', rfl, h1, h2, _⟩
  simp only [VR] at h1; subst h1
  exact ⟨rfl, h2.below⟩
end

end Go.Abs
