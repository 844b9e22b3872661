/- Primitives: strings.Repeat, strings.Count of a byte. -/
import Derived.Test.YtokjbfjkmboehaaGreatAbsAA
import Derived.Lib.Repeat
import Derived.Lib.Bytealg
set_option linter.unusedVariables false
set_option linter.unusedSimpArgs false
namespace Go.Abs
open Go.RowKit

section
variable {P : Program}

def primRepeat (args : List V) (H : Hp) : Option (V × Hp) :=
  match args with
  | [.str s, .int .i64 (.ofNat c)] => match Nat.ble c 9223372036854775807 && Nat.ble (s.length * c) 140737488355328 with
    | true => some (.str (Lib.repeatL s c), H)
    | false => none
  | _ => none
def primCount (args : List V) (H : Hp) : Option (V × Hp) :=
  match args with
  | [.str s, .str [b]] => some (.int .i64 (.ofNat (Lib.countByte s b)), H)
  | _ => none

theorem repeat_ok (hnn : NoNum P) {f : FuncId} {fn : Func} (hf : P.funcs[f]? = some fn) (hb : fn.body.isNone = false)
    (hC : ∀ (s : ByteArray) (c : Nat) (w : World), c ≤ 9223372036854775807 → s.size * c ≤ 140737488355328 → Calls P f #[.string s, .int .i64 c] w fun e w' => e = .returned (.string ⟨(Lib.repeatL s.data.toList c).toArray⟩) ∧ Below w.heap.size w w') : CallOK1 P f primRepeat := by
  refine CallOK1.of_calls hnn hf hb (fun args H r H' hr w0 w D g xs hR hargs => ?_)
  unfold primRepeat at hr
  split at hr
  · rename_i s c
    split at hr
    · rename_i hck
      simp only [Option.some.injEq, Prod.mk.injEq] at hr
      obtain ⟨rfl, rfl⟩ := hr
      simp only [Bool.and_eq_true] at hck
      have h1 := Nat.le_of_ble_eq_true hck.1
      have h2 := Nat.le_of_ble_eq_true hck.2
      simp only [VRL] at hargs
      obtain ⟨x, xs', rfl, hx, y, ys', rfl, hy, rfl⟩ := hargs
      simp only [VR] at hx hy
      subst hx; subst hy
      refine (hC ⟨⟨s⟩⟩ c w h1 h2).mono ?_
      rintro e w' ⟨rfl, hbw⟩
      exact ⟨_, g, rfl, by simp [VR], hR.world hbw, .refl _ _⟩
    · cases hr
  · cases hr

theorem count_ok (hnn : NoNum P) {f : FuncId} {fn : Func} (hf : P.funcs[f]? = some fn) (hb : fn.body.isNone = false)
    (hC : ∀ (s : ByteArray) (c : UInt8) (w : World), Calls P f #[.string s, .string ⟨#[c]⟩] w fun e w' => e = .returned (.int .i64 (Lib.countByte s.data.toList c)) ∧ w' = w) : CallOK1 P f primCount := by
  refine CallOK1.of_calls hnn hf hb (fun args H r H' hr w0 w D g xs hR hargs => ?_)
  unfold primCount at hr
  split at hr
  · rename_i s b
    simp only [Option.some.injEq, Prod.mk.injEq] at hr
    obtain ⟨rfl, rfl⟩ := hr
    simp only [VRL] at hargs
    obtain ⟨x, xs', rfl, hx, y, ys', rfl, hy, rfl⟩ := hargs
    simp only [VR] at hx hy
    subst hx; subst hy
    refine (hC ⟨⟨s⟩⟩ b w).mono ?_
    rintro e w' ⟨rfl, rfl⟩
    exact ⟨_, g, rfl, by simp [VR], hR, .refl _ _⟩
  · cases hr
end

end Go.Abs
