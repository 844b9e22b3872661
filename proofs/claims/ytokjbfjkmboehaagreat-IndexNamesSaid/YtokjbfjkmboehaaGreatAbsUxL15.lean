/- IndexNames: the law's own part. -/
import Derived.Test.YtokjbfjkmboehaaGreatAbsUxR15
set_option maxRecDepth 1000000
set_option linter.unusedSimpArgs false
namespace Go.Abs
open Go.Proofs Go.RowKit
noncomputable def prims15 : List (Nat × (List V → Hp → Option (V × Hp))) := [(f_girderlaw15_awake, primTrue)]
noncomputable def tab15 : List (Nat × RFn) := [(f_girderlaw15_IndexNames, rf_girderlaw15_IndexNames), (f_index_Row, rf_index_Row), (f_index_End, rf_index_End), (f_index_Table, rf_index_Table)]
theorem tab15_ok : ∀ x ∈ tab15, ∃ d k, resolveFn Go.Proofs.Tryz.prog polR x.1 d k = some x.2 := List.forall_mem_cons.2 ⟨⟨5, 3, r_girderlaw15_IndexNames⟩, List.forall_mem_cons.2 ⟨⟨3, 2, r_index_Row⟩, List.forall_mem_cons.2 ⟨⟨3, 1, r_index_End⟩, List.forall_mem_cons.2 ⟨⟨3, 1, r_index_Table⟩, List.forall_mem_nil _⟩⟩⟩⟩
theorem calls15 (n : Nat) : CallOK Tryz.prog (rcall prims15 tab15 n) := rcall_sound mixedP noNumP (List.forall_mem_cons.2 ⟨awake15_ok, List.forall_mem_nil _⟩) tab15_ok n
theorem list_two {α : Type} : ∀ {l : List α}, l.length = 2 → ∃ x y, l = [x, y]
  | [x, y], _ => ⟨x, y, rfl⟩
variable (n : Nat)
theorem call_Row (a b : V) (H : Hp) : rcall prims15 tab15 (n + 1) f_index_Row [a, b] H = S_index_Row (rcall prims15 tab15 n) n a b H := (show _ = rBody rf_index_Row _ n [a, b] H by kernel_rfl).trans (E_index_Row _ n a b H)
theorem call_End (a : V) (H : Hp) : rcall prims15 tab15 (n + 1) f_index_End [a] H = S_index_End (rcall prims15 tab15 n) n a H := (show _ = rBody rf_index_End _ n [a] H by kernel_rfl).trans (E_index_End _ n a H)
theorem call_Table (a : V) (H : Hp) : rcall prims15 tab15 (n + 1) f_index_Table [a] H = S_index_Table (rcall prims15 tab15 n) n a H := (show _ = rBody rf_index_Table _ n [a] H by kernel_rfl).trans (E_index_Table _ n a H)
theorem call_awake (H : Hp) : rcall prims15 tab15 (n + 1) f_girderlaw15_awake [] H = some (.bool true, H) := by kernel_rfl
theorem call_law (a b c : V) (H : Hp) : rcall prims15 tab15 (n + 1) f_girderlaw15_IndexNames [a, b, c] H = S_girderlaw15_IndexNames (rcall prims15 tab15 n) n a b c H := (show _ = rBody rf_girderlaw15_IndexNames _ n [a, b, c] H by kernel_rfl).trans (E_girderlaw15_IndexNames _ n a b c H)
theorem Row_spec (a p s : Int) (H : Hp) : rcall prims15 tab15 (n + 1) f_index_Row [.int .i64 a, .agg [.int .u32 p, .int .i64 s]] H = some (.agg [.int .i64 2, .int .i64 a, .int .u32 p, .int .i64 s], H) := by
  rw [call_Row]
  simp [S_index_Row, S_index_Row_0, aPush_eq, depth_eq, pBox, fitV, fitL, V.cells, pAlloc, aLoad, pBuild, aBuild, setAll, pStore, aStore, adopt, oneL, oneC, okOver, allInt, leave, freezeAs, freezeA, freezeL, freezeC, tupled, eraseV, eraseA, eraseC]
theorem End_spec (r : Int) (hr : 0 ≤ r ∧ r < 4294967296) (H : Hp) : rcall prims15 tab15 (n + 1) f_index_End [.int .u32 r] H = some (.agg [.int .i64 3, .int .i64 r, .int .u32 0, .int .i64 0], H) := by
  have hw : wrap .i64 r = r := wrap_i64 (by omega) (by omega)
  rw [call_End]
  simp [S_index_End, S_index_End_0, aPush_eq, depth_eq, pConv, hw, pBox, fitV, fitL, V.cells, pAlloc, aLoad, pBuild, aBuild, setAll, pStore, aStore, adopt, oneL, oneC, okOver, allInt, leave, freezeAs, freezeA, freezeL, freezeC, tupled, eraseV, eraseA, eraseC]
theorem Table_spec (t : Int) (H : Hp) : rcall prims15 tab15 (n + 1) f_index_Table [.int .i64 t] H = some (.agg [.int .i64 1, .int .i64 t, .int .u32 0, .int .i64 0], H) := by
  rw [call_Table]
  simp [S_index_Table, S_index_Table_0, aPush_eq, depth_eq, pBox, fitV, fitL, V.cells, pAlloc, aLoad, pBuild, aBuild, setAll, pStore, aStore, adopt, oneL, oneC, okOver, allInt, leave, freezeAs, freezeA, freezeL, freezeC, tupled, eraseV, eraseA, eraseC]
theorem law15 (t p s r : Int) (hr : 0 ≤ r ∧ r < 4294967296) (H : Hp) : rcall prims15 tab15 (n + 2) f_girderlaw15_IndexNames [.int .i64 t, .agg [.int .u32 p, .int .i64 s], .int .u32 r] H = some (.bool true, H) := by
  rw [call_law]
  have hw : wrap .i64 r = r := wrap_i64 (by omega) (by omega)
  simp [S_girderlaw15_IndexNames, S_girderlaw15_IndexNames_0, aPush_eq, depth_eq, pBox, fitV, fitL, V.cells, call_awake, aLoad, Row_spec, pBuild, aBuild, setAll, pEq, aEq, eqCells, End_spec n r hr, Table_spec, hw]
theorem law15_calls (t p s r : Int) (hr : 0 ≤ r ∧ r < 4294967296) (W : World) : Calls Tryz.prog 3 #[.int .i64 t, .agg #[.int .u32 p, .int .i64 s], .int .u32 r] W fun e w' => e = .returned (.bool true) ∧ Below W.heap.size W w' := by
  have h := law15 0 t p s r hr Hp.empty
  have hf : Tryz.prog.funcs[f_girderlaw15_IndexNames]? = some Tryz.f3 := Tryz.func3
  have k := CallOK.plain (call := rcall prims15 tab15 (0 + 2)) noNumP (calls15 (0 + 2)) hf (by kernel_rfl) h (w := W) (xs := [.int .i64 t, .agg #[.int .u32 p, .int .i64 s], .int .u32 r])
    (VRL.cons (by simp only [VR]) (VRL.cons (by simp only [VR]; exact ⟨_, rfl, VRL.cons (by simp only [VR]) (VRL.cons (by simp only [VR]) (VRL.nil _))⟩) (VRL.cons (by simp only [VR]) (VRL.nil _))))
  exact k
end Go.Abs
