/- slices.Clone of an empty slice that is not nil: capacity 0. -/
import Derived.Test.YtokjbfjkmboehaaGreatAbsEE
import Derived.Shelf.Slices.Clone
set_option linter.unusedVariables false
set_option linter.unusedSimpArgs false
namespace Go.Abs
open Go.RowKit Go.Shelf Go.Lib Go.Proofs

section
variable {P : Program} {ρ : Ren}
set_option maxHeartbeats 2000000 in
set_option maxRecDepth 100000 in
theorem clone_zero (L : Lays2.n16 P ρ) (a : Addr) (c : Nat) (w : World) :
    Calls P (ρ.f 16) #[.slice (some a) 0 c] w fun e w' => ∃ b, e = .returned (.slice (some ⟨b, 0, none⟩) 0 0) ∧ Below w.heap.size w w' := by
  have mixed := L.mixed; have t4 := L.t4; have a4 := L.a4; have z4 := L.z4; have v4 := L.v4; have t9 := L.t9; have a9 := L.a9; have z9 := L.z9; have v9 := L.v9; have t24 := L.t24; have a24 := L.a24; have z24 := L.z24; have v24 := L.v24
  obtain ⟨i0, hi, hz0, hz1, hz2⟩ := info_parts L.i9
  have q24 : ∀ (w : World) (a : Option Addr) (n c n' c' : Nat), (binOp .eql (ρ.t 24) (.slice a n c) (.slice none n' c')).run P w = .ok (.bool a.isNone) w := fun w a n c n' c' => Lib.run_eql_slice_nil w _ _ a n c n' c' L.t24
  have u24 : ∀ w, Sem.run P (underlying (ρ.t 24)) w = .ok (TypeDesc.slice (ρ.t 9)) w := run_underlying t24
  have hrun : ∀ (W : World) (b : Nat) ty, (Builtin.append_ #[(ρ.t 24), (ρ.t 24)] ty #[.slice (some ⟨b, 0, none⟩) 0 0, .slice (some a) 0 c]).run P W = .ok (.slice (some ⟨b, 0, none⟩) 0 0) W := by
    intro W b ty
    have hts : tSize P (ρ.t 9) = some 1 := by simp [tSize, hi, hz1]
    rw [run_append_fits (t := ρ.t 24) (u := ρ.t 24) (e := ρ.t 9) (n := 0) (news := []) rfl rfl L.t24 hts L.t24 (by intro k h; cases h) rfl (by simp only [Builtin.firstCells, loadCells]; rfl) (Nat.le_refl _)]
    rfl
  go_enter L.f16, Body2.n16_ntmps ρ
  go_wp2_with (at_builtin; refine Lib.wpList_append_run _ rfl _ _ _ _ rfl _ _ rfl rfl _ _ (hrun _ _ _) ?_)
  go_ret
  exact ⟨_, rfl, (Below.refl _ w).alloc (Nat.le_refl _) _⟩
end
end Go.Abs
