/- The words in which functions are printed as plain Lean functions. -/
import Derived.Test.YtokjbfjkmboehaaGreatAbsT
import Derived.KernelRfl
set_option linter.unusedVariables false
namespace Go.Abs
section
variable {β : Type}
noncomputable def sv (o : Option V) (H : Hp) (K : V → Hp → Option β) : Option β :=
  Option.rec (motive := fun _ => Option β) none (fun p => K p.1 p.2) (Option.rec (motive := fun _ => Option (V × Hp)) none (fun x => some (x, H)) o)
noncomputable def se (o : Option (V × Hp)) (K : V → Hp → Option β) : Option β := Option.rec (motive := fun _ => Option β) none (fun p => K p.1 p.2) o
noncomputable def sd (o : Option (V × Hp)) (K : V → Option β) : Option β := Option.rec (motive := fun _ => Option β) none (fun p => K p.1) o
noncomputable def sn (o : Option (Nat × Hp)) (K : Hp → Option β) : Option β := Option.rec (motive := fun _ => Option β) none (fun p => K p.2) o
noncomputable def vv (o : Option V) (H : Hp) : Option (V × Hp) := Option.rec (motive := fun _ => Option (V × Hp)) none (fun x => some (x, H)) o
def same1 (o : Option (V × Hp)) (v : V) : Bool :=
  match o with
  | some p => eqV p.1 v
  | none => false
def mkMapN (x : V) (d : Nat) (H : Hp) : Option (V × Hp) :=
  match x with
  | .int _ _ => pMakeMap d H
  | _ => none
/-- Temporaries, some of them laid anew. -/
def up (l : List (Nat × V)) (G : Nat → V) (i : Nat) : V :=
  match l with
  | [] => G i
  | (j, v) :: l => match Nat.beq j i with
    | true => v
    | false => up l G i
@[simp] theorem sv_some (v : V) (H : Hp) (K : V → Hp → Option β) : sv (some v) H K = K v H := rfl
@[simp] theorem se_some (v : V) (H : Hp) (K : V → Hp → Option β) : se (some (v, H)) K = K v H := rfl
@[simp] theorem sd_some (v : V) (H : Hp) (K : V → Option β) : sd (some (v, H)) K = K v := rfl
@[simp] theorem sn_some (i : Nat) (H : Hp) (K : Hp → Option β) : sn (some (i, H)) K = K H := rfl
@[simp] theorem vv_some (v : V) (H : Hp) : vv (some v) H = some (v, H) := rfl
end
end Go.Abs
