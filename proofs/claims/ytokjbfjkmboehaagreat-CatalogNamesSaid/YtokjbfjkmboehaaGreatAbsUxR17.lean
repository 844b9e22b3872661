/- law 17: awake is true. -/
import Derived.Test.YtokjbfjkmboehaaGreatAbsUxR
set_option maxRecDepth 1000000
namespace Go.Abs
open Go.Proofs
theorem awake17 : isTrue1 (rcall primsA tabA 100000 f_girderlaw17_awake [] Hp.empty) = true := by kernel_rfl
theorem awake17_ok : CallOK1 Tryz.prog f_girderlaw17_awake primTrue := by
  obtain ⟨H, h⟩ := isTrue1_some awake17
  exact true_ok noNumP (callsA 100000) Tryz.func9 (by kernel_rfl) h
end Go.Abs
