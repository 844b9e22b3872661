/- law 15: awake is true. -/
import Derived.Test.YtokjbfjkmboehaaGreatAbsUxR
set_option maxRecDepth 1000000
namespace Go.Abs
open Go.Proofs
theorem awake15 : isTrue1 (rcall primsA tabA 100000 f_girderlaw15_awake [] Hp.empty) = true := by kernel_rfl
theorem awake15_ok : CallOK1 Tryz.prog f_girderlaw15_awake primTrue := by
  obtain ⟨H, h⟩ := isTrue1_some awake15
  exact true_ok noNumP (callsA 100000) Tryz.func5 (by kernel_rfl) h
end Go.Abs
