/- CatalogNames: the law's own part. -/
import Derived.Test.YtokjbfjkmboehaaGreatAbsUxR17
set_option maxRecDepth 1000000
set_option linter.unusedSimpArgs false
namespace Go.Abs
open Go.Proofs Go.RowKit
noncomputable def prims17 : List (Nat × (List V → Hp → Option (V × Hp))) := [(f_girderlaw17_awake, primTrue)]
noncomputable def tab17 : List (Nat × RFn) := [(f_girderlaw17_CatalogNames, rf_girderlaw17_CatalogNames), (f_catalog_Name, rf_catalog_Name), (f_girderlaw17_name, rf_girderlaw17_name)]
theorem tab17_ok : ∀ x ∈ tab17, ∃ d k, resolveFn Go.Proofs.Tryz.prog polR x.1 d k = some x.2 := List.forall_mem_cons.2 ⟨⟨4, 1, r_girderlaw17_CatalogNames⟩, List.forall_mem_cons.2 ⟨⟨6, 1, r_catalog_Name⟩, List.forall_mem_cons.2 ⟨⟨6, 1, r_girderlaw17_name⟩, List.forall_mem_nil _⟩⟩⟩
theorem calls17 (n : Nat) : CallOK Tryz.prog (rcall prims17 tab17 n) := rcall_sound mixedP noNumP (List.forall_mem_cons.2 ⟨awake17_ok, List.forall_mem_nil _⟩) tab17_ok n
variable (n : Nat)
theorem call_awake17 (H : Hp) : rcall prims17 tab17 (n + 1) f_girderlaw17_awake [] H = some (.bool true, H) := by kernel_rfl
theorem call_cname (a : V) (H : Hp) : rcall prims17 tab17 (n + 1) f_catalog_Name [a] H = S_catalog_Name (rcall prims17 tab17 n) n a H := (show _ = rBody rf_catalog_Name _ n [a] H by kernel_rfl).trans (E_catalog_Name _ n a H)
theorem call_lname (a : V) (H : Hp) : rcall prims17 tab17 (n + 1) f_girderlaw17_name [a] H = S_girderlaw17_name (rcall prims17 tab17 n) n a H := (show _ = rBody rf_girderlaw17_name _ n [a] H by kernel_rfl).trans (E_girderlaw17_name _ n a H)
theorem call_law17 (a : V) (H : Hp) : rcall prims17 tab17 (n + 1) f_girderlaw17_CatalogNames [a] H = S_girderlaw17_CatalogNames (rcall prims17 tab17 n) n a H := (show _ = rBody rf_girderlaw17_CatalogNames _ n [a] H by kernel_rfl).trans (E_girderlaw17_CatalogNames _ n a H)

def okByte (b : UInt8) : Bool := (decide (97 ≤ b.toNat) && decide (b.toNat ≤ 122)) || (decide (48 ≤ b.toNat) && decide (b.toNat ≤ 57))
def nameOK (s : List UInt8) : Bool := s.all okByte && (decide (1 ≤ s.length) && decide (s.length ≤ 16))

theorem index_str {bs : List UInt8} {i : Nat} (h : i < bs.length) : aIndexStr (.str bs) (.int .i64 (i : Int)) = some (.int .u8 (bs[i].toNat : Int)) := by
  simp only [aIndexStr]
  rw [if_pos (by omega), Int.toNat_natCast, List.getElem?_eq_getElem h]

theorem cname_round (call : Oracle) (e : Env) (n : Nat) (kN : V → V → V → Hp → Option (V × Hp)) (kR : V → Hp → Option (V × Hp)) (kX0 : V → Hp → Option (V × Hp)) (bs : List UInt8) (i : Nat) (hi : i < bs.length) (hb : bs.length < 4611686018427387904) (h : Hp) :
    S_catalog_Name_2 call e n kN kR kX0 (.str bs) (.int .i64 (bs.length : Int)) (.int .i64 (i : Int)) h = if okByte bs[i] then kN (.str bs) (.int .i64 (bs.length : Int)) (.int .i64 ((i + 1 : Nat) : Int)) h else kR (.bool false) h := by
  have hlt : ((i : Int) < (bs.length : Int)) := by omega
  have hw : wrap .i64 ((i : Int) + 1) = (i : Int) + 1 := wrap_i64 (by omega) (by omega)
  have hx := index_str hi
  generalize bs[i] = c at hx ⊢
  by_cases h1 : 97 ≤ c.toNat <;> by_cases h2 : c.toNat ≤ 122 <;> by_cases h3 : 48 ≤ c.toNat <;> by_cases h4 : c.toNat ≤ 57 <;>
    (have g1 : decide ((97 : Int) ≤ (c.toNat : Int)) = decide (97 ≤ c.toNat) := by apply decide_eq_decide.2; omega
     have g2 : decide ((c.toNat : Int) ≤ 122) = decide (c.toNat ≤ 122) := by apply decide_eq_decide.2; omega
     have g3 : decide ((48 : Int) ≤ (c.toNat : Int)) = decide (48 ≤ c.toNat) := by apply decide_eq_decide.2; omega
     have g4 : decide ((c.toNat : Int) ≤ 57) = decide (c.toNat ≤ 57) := by apply decide_eq_decide.2; omega
     simp only [S_catalog_Name_2, aBin_lss, sv_some, decide_eq_true hlt, ifB_true, hx, aBin_geq, aBin_leq, Int.ofNat_eq_natCast, Int.cast_ofNat_Int, g1, g2, g3, g4, h1, h2, h3, h4, decide_true, decide_false, cond2_true, cond2_false, cond2_true', cond2_false', cond2_undef, se_some, vv_some, pPick_true, pPick_false, aUn_not, Bool.not_true, Bool.not_false, ifB_false, aBin_add, okByte, Bool.and_true, Bool.and_false, Bool.or_true, Bool.or_false, Bool.true_or, Bool.false_or, Bool.true_and, Bool.false_and, if_true, Bool.false_eq_true, if_false, hw, Int.natCast_add, Int.natCast_one])
theorem lname_round (call : Oracle) (e : Env) (n : Nat) (kN : V → V → Hp → Option (V × Hp)) (kR : V → Hp → Option (V × Hp)) (kX0 : V → Hp → Option (V × Hp)) (bs : List UInt8) (i : Nat) (hi : i < bs.length) (hb : bs.length < 4611686018427387904) (h : Hp) :
    S_girderlaw17_name_2 call e n kN kR kX0 (.str bs) (.int .i64 (i : Int)) h = if okByte bs[i] then kN (.str bs) (.int .i64 ((i + 1 : Nat) : Int)) h else kR (.bool false) h := by
  have hlt : ((i : Int) < (bs.length : Int)) := by omega
  have hw : wrap .i64 ((i : Int) + 1) = (i : Int) + 1 := wrap_i64 (by omega) (by omega)
  have hx := index_str hi
  generalize bs[i] = c at hx ⊢
  by_cases h1 : 97 ≤ c.toNat <;> by_cases h2 : c.toNat ≤ 122 <;> by_cases h3 : 48 ≤ c.toNat <;> by_cases h4 : c.toNat ≤ 57 <;>
    (have g1 : decide ((c.toNat : Int) < 97) = !decide (97 ≤ c.toNat) := by rw [← decide_not]; apply decide_eq_decide.2; omega
     have g2 : decide ((122 : Int) < (c.toNat : Int)) = !decide (c.toNat ≤ 122) := by rw [← decide_not]; apply decide_eq_decide.2; omega
     have g3 : decide ((c.toNat : Int) < 48) = !decide (48 ≤ c.toNat) := by rw [← decide_not]; apply decide_eq_decide.2; omega
     have g4 : decide ((57 : Int) < (c.toNat : Int)) = !decide (c.toNat ≤ 57) := by rw [← decide_not]; apply decide_eq_decide.2; omega
     simp only [S_girderlaw17_name_2, pLen_str, aBin_lss, sv_some, decide_eq_true hlt, ifB_true, hx, aBin_gtr, Int.ofNat_eq_natCast, Int.cast_ofNat_Int, g1, g2, g3, g4, h1, h2, h3, h4, decide_true, decide_false, cond2_true, cond2_false, cond2_true', cond2_false', cond2_undef, se_some, vv_some, pPick_true, pPick_false, Bool.not_true, Bool.not_false, ifB_false, aBin_add, okByte, Bool.and_true, Bool.and_false, Bool.or_true, Bool.or_false, Bool.true_or, Bool.false_or, Bool.true_and, Bool.false_and, if_true, Bool.false_eq_true, if_false, hw, Int.natCast_add, Int.natCast_one])

theorem cname_loop (call : Oracle) (e : Env) (n : Nat) (kR : V → Hp → Option (V × Hp)) (kX0 : V → Hp → Option (V × Hp)) (bs : List UInt8) (hb : bs.length < 4611686018427387904) (h : Hp) : ∀ (k m : Nat), k ≤ bs.length → k < m →
    S_catalog_Name_1L call e n kR kX0 m (.str bs) (.int .i64 (bs.length : Int)) (.int .i64 ((bs.length - k : Nat) : Int)) h = if (bs.drop (bs.length - k)).all okByte then kX0 (.str bs) h else kR (.bool false) h
  | 0, m + 1, _, _ => by
    simp only [S_catalog_Name_1L, S_catalog_Name_2, aBin_lss, sv_some]
    rw [show decide (((bs.length - 0 : Nat) : Int) < (bs.length : Int)) = false from decide_eq_false (by omega)]
    simp
  | k + 1, m + 1, hk, hm => by
    have hlt : bs.length - (k + 1) < bs.length := by omega
    simp only [S_catalog_Name_1L]
    rw [cname_round call e n _ kR kX0 bs _ hlt hb h, show bs.length - (k + 1) + 1 = bs.length - k by omega, cname_loop call e n kR kX0 bs hb h k m (by omega) (by omega), List.drop_eq_getElem_cons hlt, show bs.length - (k + 1) + 1 = bs.length - k by omega]
    simp only [List.all_cons]
    by_cases hq : okByte bs[bs.length - (k + 1)] = true <;> simp [hq]
theorem lname_loop (call : Oracle) (e : Env) (n : Nat) (kR : V → Hp → Option (V × Hp)) (kX0 : V → Hp → Option (V × Hp)) (bs : List UInt8) (hb : bs.length < 4611686018427387904) (h : Hp) : ∀ (k m : Nat), k ≤ bs.length → k < m →
    S_girderlaw17_name_1L call e n kR kX0 m (.str bs) (.int .i64 ((bs.length - k : Nat) : Int)) h = if (bs.drop (bs.length - k)).all okByte then kX0 (.str bs) h else kR (.bool false) h
  | 0, m + 1, _, _ => by
    simp only [S_girderlaw17_name_1L, S_girderlaw17_name_2, pLen_str, aBin_lss, sv_some]
    rw [show decide (((bs.length - 0 : Nat) : Int) < (bs.length : Int)) = false from decide_eq_false (by omega)]
    simp
  | k + 1, m + 1, hk, hm => by
    have hlt : bs.length - (k + 1) < bs.length := by omega
    simp only [S_girderlaw17_name_1L]
    rw [lname_round call e n _ kR kX0 bs _ hlt hb h, show bs.length - (k + 1) + 1 = bs.length - k by omega, lname_loop call e n kR kX0 bs hb h k m (by omega) (by omega), List.drop_eq_getElem_cons hlt, show bs.length - (k + 1) + 1 = bs.length - k by omega]
    simp only [List.all_cons]
    by_cases hq : okByte bs[bs.length - (k + 1)] = true <;> simp [hq]

theorem len_tail (bs : List UInt8) : (decide ((1 : Int) ≤ (bs.length : Int))) = decide (1 ≤ bs.length) ∧ decide ((bs.length : Int) ≤ 16) = decide (bs.length ≤ 16) :=
  ⟨by apply decide_eq_decide.2; omega, by apply decide_eq_decide.2; omega⟩

theorem cname_spec (call : Oracle) (n : Nat) (bs : List UInt8) (hb : bs.length < 4611686018427387904) (hn : bs.length < n) (H : Hp) : S_catalog_Name call n (.str bs) H = some (.bool (nameOK bs), H) := by
  obtain ⟨l1, l2⟩ := len_tail bs
  simp only [S_catalog_Name, S_catalog_Name_0, pLen_str, sv_some, S_catalog_Name_1]
  have := cname_loop call ⟨false, placeOf 0 (H.depth + 1), H.depth + 1⟩ n (fun g2 h => leave false H.depth [g2] h) (S_catalog_Name_3 call ⟨false, placeOf 0 (H.depth + 1), H.depth + 1⟩ n fun g2 h => leave false H.depth [g2] h) bs hb (aPush H) bs.length n (Nat.le_refl _) hn
  rw [Nat.sub_self] at this
  refine this.trans ?_
  rw [List.drop_zero]
  unfold nameOK
  cases bs.all okByte
  · simp
  · by_cases h1 : 1 ≤ bs.length <;> by_cases h2 : bs.length ≤ 16 <;> simp [S_catalog_Name_3, l1, l2, h1, h2]
theorem lname_spec (call : Oracle) (n : Nat) (bs : List UInt8) (hb : bs.length < 4611686018427387904) (hn : bs.length < n) (H : Hp) : S_girderlaw17_name call n (.str bs) H = some (.bool (nameOK bs), H) := by
  obtain ⟨l1, l2⟩ := len_tail bs
  simp only [S_girderlaw17_name, S_girderlaw17_name_0, S_girderlaw17_name_1]
  have := lname_loop call ⟨false, placeOf 0 (H.depth + 1), H.depth + 1⟩ n (fun g2 h => leave false H.depth [g2] h) (S_girderlaw17_name_3 call ⟨false, placeOf 0 (H.depth + 1), H.depth + 1⟩ n fun g2 h => leave false H.depth [g2] h) bs hb (aPush H) bs.length n (Nat.le_refl _) hn
  rw [Nat.sub_self] at this
  refine this.trans ?_
  rw [List.drop_zero]
  unfold nameOK
  cases bs.all okByte
  · simp
  · by_cases h1 : 1 ≤ bs.length <;> by_cases h2 : bs.length ≤ 16 <;> simp [S_girderlaw17_name_3, l1, l2, h1, h2]

theorem law17 (bs : List UInt8) (hb : bs.length < 4611686018427387904) (H : Hp) : rcall prims17 tab17 (bs.length + 3) f_girderlaw17_CatalogNames [.str bs] H = some (.bool true, H) := by
  rw [call_law17]
  simp [S_girderlaw17_CatalogNames, S_girderlaw17_CatalogNames_0, call_awake17, call_cname, call_lname, cname_spec _ _ bs hb, lname_spec _ _ bs hb]
theorem law17_calls (s : ByteArray) (hs : s.data.toList.length < 4611686018427387904) (W : World) : Calls Tryz.prog 4 #[.string s] W fun e w' => e = .returned (.bool true) ∧ Below W.heap.size W w' := by
  have h := law17 s.data.toList hs Hp.empty
  have hf : Tryz.prog.funcs[f_girderlaw17_CatalogNames]? = some Tryz.f4 := Tryz.func4
  have k := CallOK.plain (call := rcall prims17 tab17 (s.data.toList.length + 3)) noNumP (calls17 (s.data.toList.length + 3)) hf (by kernel_rfl) h (w := W) (xs := [.string s]) (VRL.cons (by simp only [VR]) (VRL.nil _))
  exact k
end Go.Abs
