/- A primitive: slices.Clone, whatever is known of an empty slice. -/
import Derived.Test.YtokjbfjkmboehaaGreatAbsBB
set_option linter.unusedVariables false
set_option linter.unusedSimpArgs false
namespace Go.Abs
open Go.RowKit

section
variable {P : Program}

noncomputable def primClone (rf : RFn) (args : List V) (H : Hp) : Option (V × Hp) :=
  match args with
  | [.sl 0 [] _] => some (.sl 0 [] .full, H)
  | args => rBody rf (fun _ _ _ => none) 0 args H

theorem clone_ok (hm : P.follows .mixedOrders = true) (hnn : NoNum P) {pol : Pol} {f : FuncId} {fn : Func} (hf : P.funcs[f]? = some fn) (hb : fn.body.isNone = false) {d k : Nat} {rf : RFn} (hres : resolveFn P pol f d k = some rf)
    (hnil : ∀ (n c : Nat) (w : World), Calls P f #[.slice none n c] w fun e w' => e = .returned (.slice none 0 0) ∧ w' = w)
    (hzero : ∀ (a : Addr) (c : Nat) (w : World), Calls P f #[.slice (some a) 0 c] w fun e w' => ∃ b, e = .returned (.slice (some ⟨b, 0, none⟩) 0 0) ∧ Below w.heap.size w w') : CallOK1 P f (primClone rf) := by
  have hno : CallOK P (fun _ _ _ => none) := by intro f args H r H' hr; cases hr
  intro args H r H' hr
  unfold primClone at hr
  split at hr
  · rename_i t
    simp only [Option.some.injEq, Prod.mk.injEq] at hr
    obtain ⟨rfl, rfl⟩ := hr
    intro w0 w D g xs hR hargs o a K Q hK
    simp only [VRL] at hargs
    obtain ⟨x, xs', rfl, hx, rfl⟩ := hargs
    simp only [VR] at hx
    obtain ⟨base, cap, ys, rfl, hle, hc, hs⟩ := hx
    rw [run_enter hnn hf hb]
    cases base with
    | none =>
      refine (hnil 0 cap w).mono ?_
      rintro e w' ⟨rfl, rfl⟩
      exact hK _ g w' (by simp only [VR]; exact ⟨none, 0, [], rfl, Nat.le_refl _, by simp [VRL], (fun _ => ⟨rfl, rfl⟩), (fun a e => by cases e), (fun h => (h rfl).elim), rfl⟩) hR (.refl _ _)
    | some ad =>
      refine (hzero ad cap w).mono ?_
      rintro e w' ⟨b, rfl, hbw⟩
      exact hK _ g w' (by simp only [VR]; exact ⟨some ⟨b, 0, none⟩, 0, [], rfl, Nat.le_refl _, by simp [VRL], (fun e => by cases e), (fun a e => by cases e; rfl), (fun h => (h rfl).elim), rfl⟩) (hR.world hbw) (.refl _ _)
  · exact aBody_sound hno (aDraw_sound hno) hm hnn 0 f _ H r H' (rBody_ok hres hr)
end

end Go.Abs
