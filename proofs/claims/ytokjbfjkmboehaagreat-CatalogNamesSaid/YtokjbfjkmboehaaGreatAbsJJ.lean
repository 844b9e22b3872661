/- From the kit's rows to calls here: arguments, awake as a primitive. -/
import Derived.Test.YtokjbfjkmboehaaGreatAbsHH
import Derived.Test.YtokjbfjkmboehaaGreatAbsAA
import Derived.ProofKit
import Derived.OpenShut
import Derived.ShutString
import Derived.ChangeOld
import Derived.Below
import Derived.SizedLaws
import Derived.Carry
set_option linter.unusedVariables false
set_option linter.unusedSimpArgs false
namespace Go.Abs
open Go.RowKit

section
variable {P : Program}

/-- What answers true at a heap of which nothing is known answers true, and turns nothing, whenever it is called. -/
def primTrue (args : List V) (H : Hp) : Option (V × Hp) :=
  match args with
  | [] => some (.bool true, H)
  | _ => none
theorem true_ok (hnn : NoNum P) {call : Oracle} (h : CallOK P call) {f : FuncId} {fn : Func} (hf : P.funcs[f]? = some fn) (hb : fn.body.isNone = false) {H1 : Hp} (hr : call f [] Hp.empty = some (.bool true, H1)) : CallOK1 P f primTrue := by
  refine CallOK1.of_calls hnn hf hb (fun args H r H' hp w0 w D g xs hR hargs => ?_)
  unfold primTrue at hp
  split at hp
  · simp only [Option.some.injEq, Prod.mk.injEq] at hp
    obtain ⟨rfl, rfl⟩ := hp
    simp only [VRL] at hargs; subst hargs
    refine (h.plain hnn hf hb hr (VRL.nil _)).mono ?_
    rintro e w' ⟨rfl, hbw⟩
    exact ⟨_, g, rfl, by simp [VR], hR.world hbw, .refl _ _⟩
  · cases hp

def isTrue1 (o : Option (V × Hp)) : Bool :=
  match o with
  | some (.bool true, _) => true
  | _ => false
theorem isTrue1_some {o : Option (V × Hp)} (h : isTrue1 o = true) : ∃ H, o = some (.bool true, H) := by
  unfold isTrue1 at h
  split at h
  · exact ⟨_, rfl⟩
  · cases h

theorem noNum_of (h : (P.funcs.toList.all fun fn => fn.body.isNone || !(fn.name == "runtime.NumGoroutine")) = true) : NoNum P := by
  intro f fn hf hb
  have h := List.all_eq_true.1 h fn (by
    have := Array.mem_of_getElem? hf
    simpa using this)
  simpa [hb] using h

/-! ### Arguments that are structs of plain cells -/
theorem open_agg {w : World} {r : Reach} {base : Nat} {t : TypeId} {v : Value} {fs : Array Field} {ts : List TypeId} (ht : P.underlying t = some (.struct fs)) (hc : P.cellTypes P.depth t = some ts) (hn : P.cellsOf t = ts.length)
    (h : Value.okWide P w r base t v) : ∃ cs : List Value, v = .agg ⟨cs⟩ ∧ cs.length = ts.length ∧ ∀ (i : Nat) (x : Value), cs[i]? = some x → ∃ u, ts[i]? = some u ∧ Cell.okWide P w r base u x := by
  simp only [Value.okWide, ht] at h
  obtain ⟨cs, rfl, h2, ts', h3, h4, h5⟩ := h
  rw [hc] at h3; cases h3
  have hl : cs.toList.length = ts.length := by rw [Array.length_toList, h2, hn]
  refine ⟨cs.toList, by cases cs; rfl, hl, fun i x hx => ?_⟩
  obtain ⟨u, hu, hk⟩ := h5 i x (by simpa using hx)
  obtain ⟨hlt, _⟩ := List.getElem?_eq_some_iff.1 hx
  rw [Nat.mod_eq_of_lt (by omega)] at hu
  exact ⟨u, hu, hk⟩
theorem cell_int {w : World} {r : Reach} {base : Nat} {u : TypeId} {k : IntKind} {x : Value} (hu : P.underlying u = some (.int k)) (h : Cell.okWide P w r base u x) : ∃ n, x = .int k n := by
  simp only [Cell.okWide, hu] at h
  cases x <;> simp_all [Cell.ok]
theorem cell_bool {w : World} {r : Reach} {base : Nat} {u : TypeId} {x : Value} (hu : P.underlying u = some .bool) (h : Cell.okWide P w r base u x) : ∃ b, x = .bool b := by
  simp only [Cell.okWide, hu] at h
  cases x <;> simp_all [Cell.ok]
theorem cell_string {w : World} {r : Reach} {base : Nat} {u : TypeId} {x : Value} (hu : P.underlying u = some .string) (h : Cell.okWide P w r base u x) : ∃ s, x = .string s := by
  simp only [Cell.okWide, hu] at h
  cases x <;> simp_all [Cell.ok]
end
end Go.Abs
