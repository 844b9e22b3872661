/- Functions as plain Lean functions, by program. -/
import Derived.Test.YtokjbfjkmboehaaGreatAbsUxP
set_option maxRecDepth 100000
set_option linter.unusedVariables false
set_option linter.unusedSimpArgs false
namespace Go.Abs
noncomputable def s_index_Row_0 : RC := (.seq (.reg [⟨.no,.box (.t P3_1),some P3_3⟩,
 ⟨.no,.alloc [(.int .i64 (.ofNat 0)),(.int .i64 (.ofNat 0)),(.int .u32 (.ofNat 0)),(.int .i64 (.ofNat 0))],some P3_4⟩])
 (.seq (.reg [⟨.no,.mv (.t P3_0),some P3_5⟩,
 ⟨.no,.load true 2 (.t P3_3),some P3_6⟩,
 ⟨.no,.build [(.int .i64 (.ofNat 0)),(.int .i64 (.ofNat 0)),(.int .u32 (.ofNat 0)),(.int .i64 (.ofNat 0))] [(0,1,(.c (.int .i64 (.ofNat 2)))),(1,1,(.t P3_5)),(2,2,(.t P3_6))],some P3_7⟩,
 ⟨.no,.store 4 (.t P3_4) (.t P3_7),none⟩])
 .ret))
noncomputable def c_index_Row_0 : RC := s_index_Row_0 
noncomputable def S_index_Row_0 (call : Oracle) (e : Env) (n : Nat) (kR : V → Hp → Option (V × Hp)) (g0 g1 : V) (h : Hp) : Option (V × Hp) :=
    se (pBox e.place g1 h) fun t3 h1 =>
    se (pAlloc e.place [(.int .i64 (.ofNat 0)),(.int .i64 (.ofNat 0)),(.int .u32 (.ofNat 0)),(.int .i64 (.ofNat 0))] h1) fun t4 h2 =>
    sv (aLoad true 2 t3 h2) h2 fun t6 h3 =>
    sv (pBuild [(.int .i64 (.ofNat 0)),(.int .i64 (.ofNat 0)),(.int .u32 (.ofNat 0)),(.int .i64 (.ofNat 0))] [(0, 1, (.int .i64 (.ofNat 2))), (1, 1, g0), (2, 2, t6)]) h3 fun t7 h4 =>
    se (pStore 4 t4 t7 h4) fun _ h5 => kR t4 h5
theorem F_index_Row_0 (call : Oracle) (e : Env) (n : Nat) (K : KT (V × Hp)) (G : Nat → V) (h : Hp) : rCode call e n (s_index_Row_0 ) K (mkF 3 0 G) h =
    se (pBox e.place (G 1) h) fun t3 h1 =>
    se (pAlloc e.place [(.int .i64 (.ofNat 0)),(.int .i64 (.ofNat 0)),(.int .u32 (.ofNat 0)),(.int .i64 (.ofNat 0))] h1) fun t4 h2 =>
    sv (aLoad true 2 t3 h2) h2 fun t6 h3 =>
    sv (pBuild [(.int .i64 (.ofNat 0)),(.int .i64 (.ofNat 0)),(.int .u32 (.ofNat 0)),(.int .i64 (.ofNat 0))] [(0, 1, (.int .i64 (.ofNat 2))), (1, 1, (G 0)), (2, 2, t6)]) h3 fun t7 h4 =>
    se (pStore 4 t4 t7 h4) fun _ h5 => K .ret (mkF 3 0 (up [(3, t3), (4, t4), (5, (G 0)), (6, t6), (7, t7)] G)) h5 := by kernel_rfl
theorem J_index_Row_0 (call : Oracle) (e : Env) (n : Nat) (K : KT (V × Hp)) (kR : V → Hp → Option (V × Hp)) (hR : ∀ G H, K .ret (mkF 3 0 G) H = kR (G 4) H) (G : Nat → V) (H : Hp) : rCode call e n c_index_Row_0 K (mkF 3 0 G) H = S_index_Row_0 call e n kR (G 0) (G 1) H := by
  refine (F_index_Row_0 call e n  K G H).trans ?_
  simp only [hR]
  kernel_rfl
noncomputable def rf_index_Row : RFn := ⟨apOf 3 0 2, mkU 3, c_index_Row_0, [.cell true 4 P3_4], 0, false, false⟩
noncomputable def S_index_Row (call : Oracle) (n : Nat) (a0 a1 : V) (H : Hp) : Option (V × Hp) := S_index_Row_0 call ⟨false, placeOf 0 (H.depth + 1), H.depth + 1⟩ n (fun g4 h => ob (aLoad true 4 g4 h) fun r0 => leave false H.depth [r0] h) a0 a1 (aPush H)
theorem E_index_Row (call : Oracle) (n : Nat) (a0 a1 : V) (H : Hp) : rBody rf_index_Row call n [a0, a1] H = S_index_Row call n a0 a1 H :=
  (show rBody rf_index_Row call n [a0, a1] H = rCode call ⟨false, placeOf 0 (H.depth + 1), H.depth + 1⟩ n c_index_Row_0 (rLeave false [.cell true 4 P3_4] H.depth) (mkF 3 0 (up [(0, a0), (1, a1)] (fun _ => .undef))) (aPush H) by kernel_rfl).trans (J_index_Row_0 call _ n _ (fun g4 h => ob (aLoad true 4 g4 h) fun r0 => leave false H.depth [r0] h) (by intro G H; kernel_rfl) _ (aPush H))
noncomputable def s_catalog_Name_3 : RC := (.seq (.reg [⟨.no,.mv (.t P6_0),some P6_29⟩,
 ⟨.no,.len .str (.t P6_29),some P6_30⟩,
 ⟨.no,.bin .geq (.t P6_30) (.c (.int .i64 (.ofNat 1))),some P6_31⟩,
 ⟨.no,.mv (.t P6_31),some P6_32⟩,
 ⟨(.on P6_32 true),.mv (.t P6_0),some P6_33⟩,
 ⟨(.on P6_32 true),.len .str (.t P6_33),some P6_34⟩,
 ⟨(.on P6_32 true),.bin .leq (.t P6_34) (.c (.int .i64 (.ofNat 16))),some P6_35⟩,
 ⟨.no,.pick (.t P6_32) (.t P6_35) (.c (.bool false)),some P6_36⟩,
 ⟨.no,.mv (.t P6_36),some P6_2⟩])
 .ret)
noncomputable def c_catalog_Name_3 : RC := s_catalog_Name_3 
noncomputable def S_catalog_Name_3 (call : Oracle) (e : Env) (n : Nat) (kR : V → Hp → Option (V × Hp)) (g0 : V) (h : Hp) : Option (V × Hp) :=
    sv (pLen .str g0 h) h fun t30 h1 =>
    sv (aBin .geq t30 (.int .i64 (.ofNat 1))) h1 fun t31 h2 =>
    se (cond2 t31 true h2 (some (g0, h2))) fun t33 h3 =>
    se (cond2 t31 true h3 (vv (pLen .str t33 h3) h3)) fun t34 h4 =>
    se (cond2 t31 true h4 (vv (aBin .leq t34 (.int .i64 (.ofNat 16))) h4)) fun t35 h5 =>
    sv (pPick t31 t35 (.bool false)) h5 fun t36 h6 => kR t36 h6
theorem F_catalog_Name_3 (call : Oracle) (e : Env) (n : Nat) (K : KT (V × Hp)) (G : Nat → V) (h : Hp) : rCode call e n (s_catalog_Name_3 ) K (mkF 6 0 G) h =
    sv (pLen .str (G 0) h) h fun t30 h1 =>
    sv (aBin .geq t30 (.int .i64 (.ofNat 1))) h1 fun t31 h2 =>
    se (cond2 t31 true h2 (some ((G 0), h2))) fun t33 h3 =>
    se (cond2 t31 true h3 (vv (pLen .str t33 h3) h3)) fun t34 h4 =>
    se (cond2 t31 true h4 (vv (aBin .leq t34 (.int .i64 (.ofNat 16))) h4)) fun t35 h5 =>
    sv (pPick t31 t35 (.bool false)) h5 fun t36 h6 => K .ret (mkF 6 0 (up [(2, t36), (29, (G 0)), (30, t30), (31, t31), (32, t31), (33, t33), (34, t34), (35, t35), (36, t36)] G)) h6 := by kernel_rfl
theorem J_catalog_Name_3 (call : Oracle) (e : Env) (n : Nat) (K : KT (V × Hp)) (kR : V → Hp → Option (V × Hp)) (hR : ∀ G H, K .ret (mkF 6 0 G) H = kR (G 2) H) (G : Nat → V) (H : Hp) : rCode call e n c_catalog_Name_3 K (mkF 6 0 G) H = S_catalog_Name_3 call e n kR (G 0) H := by
  refine (F_catalog_Name_3 call e n  K G H).trans ?_
  simp only [hR]
  kernel_rfl
noncomputable def s_catalog_Name_2 : RC := (.seq (.reg [⟨.no,.bin .lss (.t P6_7) (.t P6_6),some P6_8⟩])
 (.seq (.cond (.t P6_8) .skip
 (.exit 0))
 (.seq (.block 1 (.seq (.reg [⟨.no,.mv (.t P6_7),some P6_9⟩,
 ⟨.no,.mv (.t P6_9),some P6_3⟩])
 (.seq (.reg [⟨.no,.mv (.t P6_0),some P6_10⟩,
 ⟨.no,.mv (.t P6_3),some P6_11⟩,
 ⟨.no,.ixStr (.t P6_10) (.t P6_11),some P6_12⟩,
 ⟨.no,.mv (.t P6_12),some P6_4⟩])
 (.seq (.reg [⟨.no,.mv (.t P6_4),some P6_13⟩,
 ⟨.no,.bin .geq (.t P6_13) (.c (.int .u8 (.ofNat 97))),some P6_14⟩,
 ⟨.no,.mv (.t P6_14),some P6_15⟩,
 ⟨(.on P6_15 true),.mv (.t P6_4),some P6_16⟩,
 ⟨(.on P6_15 true),.bin .leq (.t P6_16) (.c (.int .u8 (.ofNat 122))),some P6_17⟩,
 ⟨.no,.pick (.t P6_15) (.t P6_17) (.c (.bool false)),some P6_18⟩,
 ⟨.no,.mv (.t P6_18),some P6_19⟩,
 ⟨(.on P6_19 false),.mv (.t P6_4),some P6_20⟩,
 ⟨(.on P6_19 false),.bin .geq (.t P6_20) (.c (.int .u8 (.ofNat 48))),some P6_21⟩,
 ⟨(.on P6_19 false),.mv (.t P6_21),some P6_22⟩,
 ⟨(.on P6_22 true),.mv (.t P6_4),some P6_23⟩,
 ⟨(.on P6_22 true),.bin .leq (.t P6_23) (.c (.int .u8 (.ofNat 57))),some P6_24⟩,
 ⟨(.on P6_19 false),.pick (.t P6_22) (.t P6_24) (.c (.bool false)),some P6_25⟩,
 ⟨.no,.pick (.t P6_19) (.c (.bool true)) (.t P6_25),some P6_26⟩,
 ⟨.no,.un .not (.t P6_26),some P6_27⟩])
 (.cond (.t P6_27) (.seq (.reg [⟨.no,.mv (.c (.bool false)),some P6_2⟩])
 .ret)
 .skip)))))
 (.reg [⟨.no,.bin .add (.t P6_7) (.c (.int .i64 (.ofNat 1))),some P6_28⟩,
 ⟨.no,.mv (.t P6_28),some P6_7⟩]))))
noncomputable def c_catalog_Name_2 : RC := s_catalog_Name_2 
noncomputable def S_catalog_Name_2 (call : Oracle) (e : Env) (n : Nat) (kN : V → V → V → Hp → Option (V × Hp)) (kR : V → Hp → Option (V × Hp)) (kX0 : V → Hp → Option (V × Hp)) (g0 g6 g7 : V) (h : Hp) : Option (V × Hp) :=
    sv (aBin .lss g7 g6) h fun t8 h1 =>
    ifB t8 (
      sv (aIndexStr g0 g7) h1 fun t12 h2 =>
      sv (aBin .geq t12 (.int .u8 (.ofNat 97))) h2 fun t14 h3 =>
      se (cond2 t14 true h3 (some (t12, h3))) fun t16 h4 =>
      se (cond2 t14 true h4 (vv (aBin .leq t16 (.int .u8 (.ofNat 122))) h4)) fun t17 h5 =>
      sv (pPick t14 t17 (.bool false)) h5 fun t18 h6 =>
      se (cond2 t18 false h6 (some (t12, h6))) fun t20 h7 =>
      se (cond2 t18 false h7 (vv (aBin .geq t20 (.int .u8 (.ofNat 48))) h7)) fun t21 h8 =>
      se (cond2 t18 false h8 (some (t21, h8))) fun t22 h9 =>
      se (cond2 t22 true h9 (some (t12, h9))) fun t23 h10 =>
      se (cond2 t22 true h10 (vv (aBin .leq t23 (.int .u8 (.ofNat 57))) h10)) fun t24 h11 =>
      se (cond2 t18 false h11 (vv (pPick t22 t24 (.bool false)) h11)) fun t25 h12 =>
      sv (pPick t18 (.bool true) t25) h12 fun t26 h13 =>
      sv (aUn .not t26) h13 fun t27 h14 =>
      ifB t27 ( kR (.bool false) h14)
       (
        sv (aBin .add g7 (.int .i64 (.ofNat 1))) h14 fun t28 h15 => kN g0 g6 t28 h15))
     ( kX0 g0 h1)
theorem F_catalog_Name_2 (call : Oracle) (e : Env) (n : Nat) (K : KT (V × Hp)) (G : Nat → V) (h : Hp) : rCode call e n (s_catalog_Name_2 ) K (mkF 6 0 G) h =
    sv (aBin .lss (G 7) (G 6)) h fun t8 h1 =>
    ifB t8 (
      sv (aIndexStr (G 0) (G 7)) h1 fun t12 h2 =>
      sv (aBin .geq t12 (.int .u8 (.ofNat 97))) h2 fun t14 h3 =>
      se (cond2 t14 true h3 (some (t12, h3))) fun t16 h4 =>
      se (cond2 t14 true h4 (vv (aBin .leq t16 (.int .u8 (.ofNat 122))) h4)) fun t17 h5 =>
      sv (pPick t14 t17 (.bool false)) h5 fun t18 h6 =>
      se (cond2 t18 false h6 (some (t12, h6))) fun t20 h7 =>
      se (cond2 t18 false h7 (vv (aBin .geq t20 (.int .u8 (.ofNat 48))) h7)) fun t21 h8 =>
      se (cond2 t18 false h8 (some (t21, h8))) fun t22 h9 =>
      se (cond2 t22 true h9 (some (t12, h9))) fun t23 h10 =>
      se (cond2 t22 true h10 (vv (aBin .leq t23 (.int .u8 (.ofNat 57))) h10)) fun t24 h11 =>
      se (cond2 t18 false h11 (vv (pPick t22 t24 (.bool false)) h11)) fun t25 h12 =>
      sv (pPick t18 (.bool true) t25) h12 fun t26 h13 =>
      sv (aUn .not t26) h13 fun t27 h14 =>
      ifB t27 ( K .ret (mkF 6 0 (up [(2, (.bool false)), (3, (G 7)), (4, t12), (8, t8), (9, (G 7)), (10, (G 0)), (11, (G 7)), (12, t12), (13, t12), (14, t14), (15, t14), (16, t16), (17, t17), (18, t18), (19, t18), (20, t20), (21, t21), (22, t22), (23, t23), (24, t24), (25, t25), (26, t26), (27, t27)] G)) h14)
       (
        sv (aBin .add (G 7) (.int .i64 (.ofNat 1))) h14 fun t28 h15 => K .normal (mkF 6 0 (up [(3, (G 7)), (4, t12), (7, t28), (8, t8), (9, (G 7)), (10, (G 0)), (11, (G 7)), (12, t12), (13, t12), (14, t14), (15, t14), (16, t16), (17, t17), (18, t18), (19, t18), (20, t20), (21, t21), (22, t22), (23, t23), (24, t24), (25, t25), (26, t26), (27, t27), (28, t28)] G)) h15))
     ( K (.exit 0) (mkF 6 0 (up [(8, t8)] G)) h1) := by kernel_rfl
theorem J_catalog_Name_2 (call : Oracle) (e : Env) (n : Nat) (K : KT (V × Hp)) (kN : V → V → V → Hp → Option (V × Hp)) (hN : ∀ G H, K .normal (mkF 6 0 G) H = kN (G 0) (G 6) (G 7) H) (kR : V → Hp → Option (V × Hp)) (hR : ∀ G H, K .ret (mkF 6 0 G) H = kR (G 2) H) (kX0 : V → Hp → Option (V × Hp)) (hX0 : ∀ G H, K (.exit 0) (mkF 6 0 G) H = kX0 (G 0) H) (G : Nat → V) (H : Hp) : rCode call e n c_catalog_Name_2 K (mkF 6 0 G) H = S_catalog_Name_2 call e n kN kR kX0 (G 0) (G 6) (G 7) H := by
  refine (F_catalog_Name_2 call e n  K G H).trans ?_
  simp only [hN, hR, hX0]
  kernel_rfl
noncomputable def s_catalog_Name_1 (b0 : RC) : RC := (.loop b0)
noncomputable def c_catalog_Name_1 : RC := s_catalog_Name_1 c_catalog_Name_2
noncomputable def S_catalog_Name_1L (call : Oracle) (e : Env) (n : Nat) (kR : V → Hp → Option (V × Hp)) (kX0 : V → Hp → Option (V × Hp)) : Nat → V → V → V → Hp → Option (V × Hp)
  | 0, _, _, _, _ => none
  | m + 1, g0, g6, g7, h => S_catalog_Name_2 call e n (fun g0 g6 g7 h => S_catalog_Name_1L call e n kR kX0 m g0 g6 g7 h) kR kX0 g0 g6 g7 h
noncomputable def S_catalog_Name_1 (call : Oracle) (e : Env) (n : Nat) (kR : V → Hp → Option (V × Hp)) (kX0 : V → Hp → Option (V × Hp)) (g0 g6 g7 : V) (h : Hp) : Option (V × Hp) := S_catalog_Name_1L call e n kR kX0 n g0 g6 g7 h
theorem J_catalog_Name_1L (call : Oracle) (e : Env) (n : Nat) (K : KT (V × Hp)) (kR : V → Hp → Option (V × Hp)) (hR : ∀ G H, K .ret (mkF 6 0 G) H = kR (G 2) H) (kX0 : V → Hp → Option (V × Hp)) (hX0 : ∀ G H, K (.exit 0) (mkF 6 0 G) H = kX0 (G 0) H) : ∀ (m : Nat) (G : Nat → V) (H : Hp), rLoop (fun k => rCode call e n c_catalog_Name_2 (thenT K k)) m (mkF 6 0 G) H = S_catalog_Name_1L call e n kR kX0 m (G 0) (G 6) (G 7) H
  | 0, _, _ => rfl
  | m + 1, G, H => J_catalog_Name_2 call e n (thenT K (rLoop (fun k => rCode call e n c_catalog_Name_2 (thenT K k)) m)) (S_catalog_Name_1L call e n kR kX0 m) (J_catalog_Name_1L call e n K kR hR kX0 hX0 m) kR hR kX0 hX0 G H
theorem J_catalog_Name_1 (call : Oracle) (e : Env) (n : Nat) (K : KT (V × Hp)) (kR : V → Hp → Option (V × Hp)) (hR : ∀ G H, K .ret (mkF 6 0 G) H = kR (G 2) H) (kX0 : V → Hp → Option (V × Hp)) (hX0 : ∀ G H, K (.exit 0) (mkF 6 0 G) H = kX0 (G 0) H) (G : Nat → V) (H : Hp) : rCode call e n c_catalog_Name_1 K (mkF 6 0 G) H = S_catalog_Name_1 call e n kR kX0 (G 0) (G 6) (G 7) H := J_catalog_Name_1L call e n K kR hR kX0 hX0 n G H
noncomputable def s_catalog_Name_0 (b0 b1 : RC) : RC := (.seq (.reg [⟨.no,.mv (.c (.bool false)),some P6_2⟩])
 (.seq (.seq (.reg [⟨.no,.mv (.t P6_0),some P6_5⟩,
 ⟨.no,.len .str (.t P6_5),some P6_6⟩,
 ⟨.no,.mv (.c (.int .i64 (.ofNat 0))),some P6_7⟩])
 (.block 0 b0))
 b1))
noncomputable def c_catalog_Name_0 : RC := s_catalog_Name_0 c_catalog_Name_1 c_catalog_Name_3
noncomputable def S_catalog_Name_0 (call : Oracle) (e : Env) (n : Nat) (kR : V → Hp → Option (V × Hp)) (g0 : V) (h : Hp) : Option (V × Hp) :=
    sv (pLen .str g0 h) h fun t6 h1 => S_catalog_Name_1 call e n kR (S_catalog_Name_3 call e n kR) g0 t6 (.int .i64 (.ofNat 0)) h1
theorem F_catalog_Name_0 (call : Oracle) (e : Env) (n : Nat) (b0 b1 : RC) (K : KT (V × Hp)) (G : Nat → V) (h : Hp) : rCode call e n (s_catalog_Name_0 b0 b1) K (mkF 6 0 G) h =
    sv (pLen .str (G 0) h) h fun t6 h1 => rCode call e n b0 (inT 0 (thenT K (rCode call e n b1 K))) (mkF 6 0 (up [(2, (.bool false)), (5, (G 0)), (6, t6), (7, (.int .i64 (.ofNat 0)))] G)) h1 := by kernel_rfl
theorem J_catalog_Name_0 (call : Oracle) (e : Env) (n : Nat) (K : KT (V × Hp)) (kR : V → Hp → Option (V × Hp)) (hR : ∀ G H, K .ret (mkF 6 0 G) H = kR (G 2) H) (G : Nat → V) (H : Hp) : rCode call e n c_catalog_Name_0 K (mkF 6 0 G) H = S_catalog_Name_0 call e n kR (G 0) H := by
  refine (F_catalog_Name_0 call e n c_catalog_Name_1 c_catalog_Name_3 K G H).trans ?_
  simp only [J_catalog_Name_1 call e n (inT 0 (thenT K (rCode call e n c_catalog_Name_3 K))) kR hR (S_catalog_Name_3 call e n kR) (J_catalog_Name_3 call e n K kR hR), hR]
  kernel_rfl
noncomputable def rf_catalog_Name : RFn := ⟨apOf 6 0 1, mkU 6, c_catalog_Name_0, [.t P6_2], 0, false, false⟩
noncomputable def S_catalog_Name (call : Oracle) (n : Nat) (a0 : V) (H : Hp) : Option (V × Hp) := S_catalog_Name_0 call ⟨false, placeOf 0 (H.depth + 1), H.depth + 1⟩ n (fun g2 h => leave false H.depth [g2] h) a0 (aPush H)
theorem E_catalog_Name (call : Oracle) (n : Nat) (a0 : V) (H : Hp) : rBody rf_catalog_Name call n [a0] H = S_catalog_Name call n a0 H :=
  (show rBody rf_catalog_Name call n [a0] H = rCode call ⟨false, placeOf 0 (H.depth + 1), H.depth + 1⟩ n c_catalog_Name_0 (rLeave false [.t P6_2] H.depth) (mkF 6 0 (up [(0, a0)] (fun _ => .undef))) (aPush H) by kernel_rfl).trans (J_catalog_Name_0 call _ n _ (fun g2 h => leave false H.depth [g2] h) (by intro G H; kernel_rfl) _ (aPush H))
noncomputable def rf_index_Range : RFn := ⟨apOf 7 0 5, mkU 7, (.seq (.reg [⟨.no,.box (.t P7_2),some P7_7⟩,
 ⟨.no,.mv (.c (.sl 0 [] .nil)),some P7_10⟩,
 ⟨.no,.mv (.c (.sl 0 [] .nil)),some P7_11⟩,
 ⟨.no,.mv (.c (.int .i64 (.ofNat 0))),some P7_12⟩])
 (.seq (.reg [⟨.no,.mv (.c (.sl 0 [] .nil)),some P7_13⟩])
 (.seq (.reg [⟨.no,.mv (.c (.sl 0 [] .nil)),some P7_14⟩])
 (.seq (.reg [⟨.no,.mv (.t P7_3),some P7_19⟩,
 ⟨.no,.build [(.str []),(.int .u32 (.ofNat 0)),(.int .i64 (.ofNat 0))] [(0,1,(.t P7_19))],some P7_20⟩,
 ⟨.no,.alloc [(.str []),(.int .u32 (.ofNat 0)),(.int .i64 (.ofNat 0))],some P7_15⟩,
 ⟨.no,.store 3 (.t P7_15) (.t P7_20),none⟩])
 (.seq (.reg [⟨.no,.mv (.t P7_0),some P7_22⟩,
 ⟨.no,.faddr 2 1 (.t P7_7),some P7_23⟩,
 ⟨.no,.load false 1 (.t P7_23),some P7_24⟩,
 ⟨.no,.load true 3 (.t P7_15),some P7_25⟩,
 ⟨.no,.call (.c (.fn f_tree_Seek [] [])) [(.t P7_22),(.t P7_24),(.t P7_25)],some P7_26⟩,
 ⟨.no,.mv (.t P7_26),some P7_21⟩,
 ⟨.no,.extr (.t P7_21) 0,some P7_27⟩,
 ⟨.no,.extr (.t P7_21) 1,some P7_28⟩,
 ⟨.no,.extr (.t P7_21) 2,some P7_29⟩,
 ⟨.no,.alloc [(.str []),(.int .u32 (.ofNat 0)),(.int .i64 (.ofNat 0)),(.bool false)],some P7_16⟩,
 ⟨.no,.store 4 (.t P7_16) (.t P7_27),none⟩,
 ⟨.no,.mv (.t P7_28),some P7_17⟩,
 ⟨.no,.mv (.t P7_29),some P7_18⟩])
 (.seq (.block 0 (.loop (.seq (.seq (.reg [⟨.no,.mv (.t P7_18),some P7_30⟩,
 ⟨.no,.eq .int (.t P7_30) (.c (.int .i64 (.ofNat 0))),some P7_31⟩])
 (.cond (.t P7_31) .skip
 (.exit 0)))
 (.block 1 (.seq (.reg [⟨.no,.mv (.t P7_14),some P7_32⟩,
 ⟨.no,.load true 5 (.t P7_7),some P7_33⟩,
 ⟨.no,.mv (.t P7_1),some P7_34⟩,
 ⟨.no,.load true 4 (.t P7_16),some P7_35⟩,
 ⟨.no,.mv (.t P7_17),some P7_36⟩,
 ⟨.no,.call (.c (.fn f_index_name [] [])) [(.t P7_33),(.t P7_34),(.t P7_35),(.t P7_36)],some P7_37⟩,
 ⟨.no,.build [(.int .i64 (.ofNat 0)),(.int .i64 (.ofNat 0)),(.int .u32 (.ofNat 0)),(.int .i64 (.ofNat 0)),(.int .i64 (.ofNat 0)),(.bool false)] [(0,4,(.t P7_37)),(4,1,(.c (.int .i64 (.ofNat 3))))],some P7_38⟩,
 ⟨.no,.buildSl 1 [(.int .i64 (.ofNat 0)),(.int .i64 (.ofNat 0)),(.int .u32 (.ofNat 0)),(.int .i64 (.ofNat 0)),(.int .i64 (.ofNat 0)),(.bool false)] [(0,6,(.t P7_38))],some P7_39⟩,
 ⟨.no,.app 6 48 false (.t P7_32) (.t P7_39),some P7_40⟩,
 ⟨.no,.mv (.t P7_40),some P7_14⟩])
 (.seq (.seq (.reg [⟨.no,.mv (.t P7_17),some P7_41⟩,
 ⟨.no,.un .not (.t P7_41),some P7_42⟩,
 ⟨.no,.mv (.t P7_42),some P7_43⟩,
 ⟨(.on P7_43 false),.faddr 0 3 (.t P7_16),some P7_44⟩,
 ⟨(.on P7_43 false),.faddr 0 1 (.t P7_44),some P7_45⟩,
 ⟨(.on P7_43 false),.load false 1 (.t P7_45),some P7_46⟩,
 ⟨(.on P7_43 false),.mv (.t P7_4),some P7_47⟩,
 ⟨(.on P7_43 false),.bin .gtr (.t P7_46) (.t P7_47),some P7_48⟩,
 ⟨.no,.pick (.t P7_43) (.c (.bool true)) (.t P7_48),some P7_49⟩])
 (.cond (.t P7_49) (.seq (.reg [⟨.no,.mv (.t P7_13),some P7_50⟩,
 ⟨.no,.mv (.t P7_14),some P7_51⟩,
 ⟨.no,.mv (.t P7_50),some P7_10⟩,
 ⟨.no,.mv (.t P7_51),some P7_11⟩,
 ⟨.no,.mv (.c (.int .i64 (.ofNat 0))),some P7_12⟩])
 .ret)
 .skip))
 (.seq (.seq (.reg [⟨.no,.faddr 3 1 (.t P7_16),some P7_52⟩,
 ⟨.no,.load false 1 (.t P7_52),some P7_53⟩])
 (.cond (.t P7_53) (.reg [⟨.no,.mv (.t P7_13),some P7_54⟩,
 ⟨.no,.faddr 0 3 (.t P7_16),some P7_55⟩,
 ⟨.no,.load true 3 (.t P7_55),some P7_56⟩,
 ⟨.no,.buildSl 1 [(.str []),(.int .u32 (.ofNat 0)),(.int .i64 (.ofNat 0))] [(0,3,(.t P7_56))],some P7_57⟩,
 ⟨.no,.app 3 32 false (.t P7_54) (.t P7_57),some P7_58⟩,
 ⟨.no,.mv (.t P7_58),some P7_13⟩])
 .skip))
 (.reg [⟨.no,.mv (.t P7_0),some P7_60⟩,
 ⟨.no,.faddr 2 1 (.t P7_7),some P7_61⟩,
 ⟨.no,.load false 1 (.t P7_61),some P7_62⟩,
 ⟨.no,.faddr 0 3 (.t P7_16),some P7_63⟩,
 ⟨.no,.load true 3 (.t P7_63),some P7_64⟩,
 ⟨.no,.call (.c (.fn f_tree_Behind [] [])) [(.t P7_60),(.t P7_62),(.t P7_64)],some P7_65⟩,
 ⟨.no,.mv (.t P7_65),some P7_59⟩,
 ⟨.no,.extr (.t P7_59) 0,some P7_66⟩,
 ⟨.no,.extr (.t P7_59) 1,some P7_67⟩,
 ⟨.no,.extr (.t P7_59) 2,some P7_68⟩,
 ⟨.no,.store 4 (.t P7_16) (.t P7_66),none⟩,
 ⟨.no,.mv (.t P7_67),some P7_17⟩,
 ⟨.no,.mv (.t P7_68),some P7_18⟩]))))))))
 (.seq (.reg [⟨.no,.mv (.t P7_18),some P7_69⟩,
 ⟨.no,.mv (.c (.sl 0 [] .nil)),some P7_10⟩,
 ⟨.no,.mv (.c (.sl 0 [] .nil)),some P7_11⟩,
 ⟨.no,.mv (.t P7_69),some P7_12⟩])
 .ret))))))), [.t P7_10,.t P7_11,.t P7_12], 0, false, false⟩
noncomputable def rf_txn_Manager_Begin : RFn := ⟨apOf 6 0 1, mkU 6, (.seq (.reg [⟨.no,.mv (.c (.int .i64 (.ofNat 0))),some P6_2⟩,
 ⟨.no,.mv (.c (.int .i64 (.ofNat 0))),some P6_3⟩])
 (.seq (.block 0 (.seq (.reg [⟨.no,.mv (.t P6_0),some P6_7⟩,
 ⟨.no,.eq .ptr (.t P6_7) (.c .nilp),some P6_8⟩,
 ⟨.no,.mv (.t P6_8),some P6_6⟩])
 (.cond (.t P6_6) (.seq (.reg [⟨.no,.mv (.c (.int .i64 (.ofNat 0))),some P6_2⟩,
 ⟨.no,.mv (.c (.int .i64 (.ofNat 1))),some P6_3⟩])
 .ret)
 (.seq (.reg [⟨.no,.mv (.t P6_0),some P6_10⟩,
 ⟨.no,.nilc (.t P6_10),some P6_11⟩,
 ⟨.no,.faddr 2 1 (.t P6_11),some P6_12⟩,
 ⟨.no,.load false 1 (.t P6_12),some P6_13⟩,
 ⟨.no,.len .map (.t P6_13),some P6_14⟩,
 ⟨.no,.bin .geq (.t P6_14) (.c (.int .i64 (.ofNat 64))),some P6_15⟩,
 ⟨.no,.mv (.t P6_15),some P6_9⟩])
 (.cond (.t P6_9) (.seq (.reg [⟨.no,.mv (.c (.int .i64 (.ofNat 0))),some P6_2⟩,
 ⟨.no,.mv (.c (.int .i64 (.ofNat 3))),some P6_3⟩])
 .ret)
 .skip)))))
 (.seq (.seq (.reg [⟨.no,.mv (.t P6_0),some P6_16⟩,
 ⟨.no,.nilc (.t P6_16),some P6_17⟩,
 ⟨.no,.faddr 0 1 (.t P6_17),some P6_18⟩,
 ⟨.no,.load false 1 (.t P6_18),some P6_19⟩,
 ⟨.no,.call (.c (.fn f_wal_Log_Keep [] [])) [(.t P6_19),(.c (.int .i64 (.ofNat 128)))],some P6_20⟩,
 ⟨.no,.mv (.t P6_20),some P6_4⟩])
 (.seq (.reg [⟨.no,.mv (.t P6_4),some P6_21⟩,
 ⟨.no,.ne .int (.t P6_21) (.c (.int .i64 (.ofNat 0))),some P6_22⟩])
 (.cond (.t P6_22) (.seq (.reg [⟨.no,.mv (.t P6_4),some P6_23⟩,
 ⟨.no,.mv (.c (.int .i64 (.ofNat 0))),some P6_2⟩,
 ⟨.no,.mv (.t P6_23),some P6_3⟩])
 .ret)
 .skip)))
 (.seq (.reg [⟨.no,.mv (.t P6_0),some P6_24⟩,
 ⟨.no,.nilc (.t P6_24),some P6_25⟩,
 ⟨.no,.faddr 3 1 (.t P6_25),some P6_26⟩,
 ⟨.no,.load false 1 (.t P6_26),some P6_27⟩,
 ⟨.no,.mv (.t P6_27),some P6_5⟩])
 (.seq (.reg [⟨.no,.mv (.t P6_0),some P6_28⟩,
 ⟨.no,.nilc (.t P6_28),some P6_29⟩,
 ⟨.no,.faddr 3 1 (.t P6_29),some P6_30⟩,
 ⟨.no,.load false 1 (.t P6_30),some P6_31⟩,
 ⟨.no,.bin .add (.t P6_31) (.c (.int .i64 (.ofNat 1))),some P6_32⟩,
 ⟨.no,.nilc (.t P6_28),some P6_33⟩,
 ⟨.no,.faddr 3 1 (.t P6_33),some P6_34⟩,
 ⟨.no,.store 1 (.t P6_34) (.t P6_32),none⟩])
 (.seq (.reg [⟨.no,.mv (.t P6_0),some P6_35⟩,
 ⟨.no,.nilc (.t P6_35),some P6_36⟩,
 ⟨.no,.faddr 2 1 (.t P6_36),some P6_37⟩,
 ⟨.no,.load false 1 (.t P6_37),some P6_38⟩,
 ⟨.no,.mv (.t P6_5),some P6_39⟩,
 ⟨.no,.mv (.t P6_5),some P6_40⟩,
 ⟨.no,.build [(.int .i64 (.ofNat 0)),(.int .i64 (.ofNat 0)),(.int .u64 (.ofNat 0)),(.int .u64 (.ofNat 0))] [(0,1,(.t P6_40)),(1,1,(.c (.int .i64 (.ofNat 1))))],some P6_41⟩,
 ⟨.no,.build [(.int .i64 (.ofNat 0)),(.int .i64 (.ofNat 0)),(.int .u64 (.ofNat 0)),(.int .u64 (.ofNat 0)),(.int .i64 (.ofNat 0))] [(0,4,(.t P6_41)),(4,1,(.c (.int .i64 (.ofNat 128))))],some P6_42⟩,
 ⟨.no,.box (.t P6_42),some P6_43⟩,
 ⟨.no,.mput (.int .i64) (.t P6_38) (.t P6_39) (.t P6_43),none⟩])
 (.seq (.reg [⟨.no,.mv (.t P6_5),some P6_44⟩,
 ⟨.no,.mv (.t P6_44),some P6_2⟩,
 ⟨.no,.mv (.c (.int .i64 (.ofNat 0))),some P6_3⟩])
 .ret))))))), [.t P6_2,.t P6_3], 2, false, false⟩
noncomputable def rf_catalog_Create : RFn := ⟨apOf 7 0 4, mkU 7, (.seq (.reg [⟨.no,.box (.t P7_2),some P7_6⟩,
 ⟨.no,.alloc [(.str []),(.int .i64 (.ofNat 0)),(.int .u32 (.ofNat 0)),(.int .i64 (.ofNat 0)),(.sl 0 [] .nil)],some P7_8⟩,
 ⟨.no,.mv (.c (.int .i64 (.ofNat 0))),some P7_9⟩])
 (.seq (.seq (.reg [⟨.no,.load false 1 (.t P7_6),some P7_15⟩,
 ⟨.no,.call (.c (.fn f_catalog_Name [] [])) [(.t P7_15)],some P7_16⟩,
 ⟨.no,.un .not (.t P7_16),some P7_17⟩])
 (.cond (.t P7_17) (.seq (.reg [⟨.no,.build [(.str []),(.int .i64 (.ofNat 0)),(.int .u32 (.ofNat 0)),(.int .i64 (.ofNat 0)),(.sl 0 [] .nil)] [],some P7_18⟩,
 ⟨.no,.store 5 (.t P7_8) (.t P7_18),none⟩,
 ⟨.no,.mv (.c (.int .i64 (.ofNat 170))),some P7_9⟩])
 .ret)
 .skip))
 (.seq (.seq (.reg [⟨.no,.mv (.t P7_3),some P7_19⟩,
 ⟨.no,.bin .lss (.t P7_19) (.c (.int .i64 (.ofNat 1))),some P7_20⟩,
 ⟨.no,.mv (.t P7_20),some P7_21⟩,
 ⟨(.on P7_21 false),.mv (.t P7_3),some P7_22⟩,
 ⟨(.on P7_21 false),.bin .gtr (.t P7_22) (.c (.int .i64 (.ofNat 4))),some P7_23⟩,
 ⟨.no,.pick (.t P7_21) (.c (.bool true)) (.t P7_23),some P7_24⟩])
 (.cond (.t P7_24) (.seq (.reg [⟨.no,.build [(.str []),(.int .i64 (.ofNat 0)),(.int .u32 (.ofNat 0)),(.int .i64 (.ofNat 0)),(.sl 0 [] .nil)] [],some P7_25⟩,
 ⟨.no,.store 5 (.t P7_8) (.t P7_25),none⟩,
 ⟨.no,.mv (.c (.int .i64 (.ofNat 111))),some P7_9⟩])
 .ret)
 .skip))
 (.seq (.reg [⟨.no,.mv (.t P7_0),some P7_27⟩,
 ⟨.no,.call (.c (.fn f_catalog_All [] [])) [(.t P7_27)],some P7_28⟩,
 ⟨.no,.mv (.t P7_28),some P7_26⟩,
 ⟨.no,.extr (.t P7_26) 0,some P7_29⟩,
 ⟨.no,.extr (.t P7_26) 1,some P7_30⟩,
 ⟨.no,.mv (.t P7_29),some P7_10⟩,
 ⟨.no,.mv (.t P7_30),some P7_11⟩])
 (.seq (.seq (.reg [⟨.no,.mv (.t P7_11),some P7_31⟩,
 ⟨.no,.ne .int (.t P7_31) (.c (.int .i64 (.ofNat 0))),some P7_32⟩])
 (.cond (.t P7_32) (.seq (.reg [⟨.no,.build [(.str []),(.int .i64 (.ofNat 0)),(.int .u32 (.ofNat 0)),(.int .i64 (.ofNat 0)),(.sl 0 [] .nil)] [],some P7_33⟩,
 ⟨.no,.mv (.t P7_11),some P7_34⟩,
 ⟨.no,.store 5 (.t P7_8) (.t P7_33),none⟩,
 ⟨.no,.mv (.t P7_34),some P7_9⟩])
 .ret)
 .skip))
 (.seq (.seq (.reg [⟨.no,.mv (.t P7_10),some P7_35⟩,
 ⟨.no,.fn f_catalog_Create_c1 [] [(.t P7_6)],some P7_36⟩,
 ⟨.no,.call (.c (.fn f_slices_ContainsFunc_api_Table [] [])) [(.t P7_35),(.t P7_36)],some P7_37⟩])
 (.cond (.t P7_37) (.seq (.reg [⟨.no,.build [(.str []),(.int .i64 (.ofNat 0)),(.int .u32 (.ofNat 0)),(.int .i64 (.ofNat 0)),(.sl 0 [] .nil)] [],some P7_38⟩,
 ⟨.no,.store 5 (.t P7_8) (.t P7_38),none⟩,
 ⟨.no,.mv (.c (.int .i64 (.ofNat 121))),some P7_9⟩])
 .ret)
 .skip))
 (.seq (.seq (.reg [⟨.no,.mv (.t P7_10),some P7_39⟩,
 ⟨.no,.len .sl (.t P7_39),some P7_40⟩,
 ⟨.no,.bin .geq (.t P7_40) (.c (.int .i64 (.ofNat 16))),some P7_41⟩])
 (.cond (.t P7_41) (.seq (.reg [⟨.no,.build [(.str []),(.int .i64 (.ofNat 0)),(.int .u32 (.ofNat 0)),(.int .i64 (.ofNat 0)),(.sl 0 [] .nil)] [],some P7_42⟩,
 ⟨.no,.store 5 (.t P7_8) (.t P7_42),none⟩,
 ⟨.no,.mv (.c (.int .i64 (.ofNat 3))),some P7_9⟩])
 .ret)
 .skip))
 (.seq (.reg [⟨.no,.mv (.t P7_0),some P7_44⟩,
 ⟨.no,.call (.c (.fn f_catalog_next [] [])) [(.t P7_44)],some P7_45⟩,
 ⟨.no,.mv (.t P7_45),some P7_43⟩,
 ⟨.no,.extr (.t P7_43) 0,some P7_46⟩,
 ⟨.no,.extr (.t P7_43) 1,some P7_47⟩,
 ⟨.no,.mv (.t P7_46),some P7_12⟩,
 ⟨.no,.mv (.t P7_47),some P7_11⟩])
 (.seq (.seq (.reg [⟨.no,.mv (.t P7_11),some P7_48⟩,
 ⟨.no,.ne .int (.t P7_48) (.c (.int .i64 (.ofNat 0))),some P7_49⟩])
 (.cond (.t P7_49) (.seq (.reg [⟨.no,.build [(.str []),(.int .i64 (.ofNat 0)),(.int .u32 (.ofNat 0)),(.int .i64 (.ofNat 0)),(.sl 0 [] .nil)] [],some P7_50⟩,
 ⟨.no,.mv (.t P7_11),some P7_51⟩,
 ⟨.no,.store 5 (.t P7_8) (.t P7_50),none⟩,
 ⟨.no,.mv (.t P7_51),some P7_9⟩])
 .ret)
 .skip))
 (.seq (.reg [⟨.no,.mv (.t P7_0),some P7_53⟩,
 ⟨.no,.mv (.t P7_1),some P7_54⟩,
 ⟨.no,.call (.c (.fn f_heap_Create [] [])) [(.t P7_53),(.t P7_54)],some P7_55⟩,
 ⟨.no,.mv (.t P7_55),some P7_52⟩,
 ⟨.no,.extr (.t P7_52) 0,some P7_56⟩,
 ⟨.no,.extr (.t P7_52) 1,some P7_57⟩,
 ⟨.no,.mv (.t P7_56),some P7_13⟩,
 ⟨.no,.mv (.t P7_57),some P7_11⟩])
 (.seq (.seq (.reg [⟨.no,.mv (.t P7_11),some P7_58⟩,
 ⟨.no,.ne .int (.t P7_58) (.c (.int .i64 (.ofNat 0))),some P7_59⟩])
 (.cond (.t P7_59) (.seq (.reg [⟨.no,.build [(.str []),(.int .i64 (.ofNat 0)),(.int .u32 (.ofNat 0)),(.int .i64 (.ofNat 0)),(.sl 0 [] .nil)] [],some P7_60⟩,
 ⟨.no,.mv (.t P7_11),some P7_61⟩,
 ⟨.no,.store 5 (.t P7_8) (.t P7_60),none⟩,
 ⟨.no,.mv (.t P7_61),some P7_9⟩])
 .ret)
 .skip))
 (.seq (.reg [⟨.no,.load false 1 (.t P7_6),some P7_62⟩,
 ⟨.no,.mv (.t P7_12),some P7_63⟩,
 ⟨.no,.mv (.t P7_13),some P7_64⟩,
 ⟨.no,.mv (.t P7_3),some P7_65⟩,
 ⟨.no,.build [(.str []),(.int .i64 (.ofNat 0)),(.int .u32 (.ofNat 0)),(.int .i64 (.ofNat 0)),(.sl 0 [] .nil)] [(0,1,(.t P7_62)),(1,1,(.t P7_63)),(2,1,(.t P7_64)),(3,1,(.t P7_65))],some P7_66⟩,
 ⟨.no,.alloc [(.str []),(.int .i64 (.ofNat 0)),(.int .u32 (.ofNat 0)),(.int .i64 (.ofNat 0)),(.sl 0 [] .nil)],some P7_14⟩,
 ⟨.no,.store 5 (.t P7_14) (.t P7_66),none⟩])
 (.seq (.draw [] 14 [⟨⟨.no,.load true 5 (.t P7_14),some P7_67⟩,.read,0,1⟩,
 ⟨⟨.no,.mv (.t P7_0),some P7_68⟩,.val,0,0⟩,
 ⟨⟨.no,.mv (.t P7_1),some P7_69⟩,.val,0,0⟩,
 ⟨⟨.no,.load false 1 (.t P7_6),some P7_70⟩,.read,0,0⟩,
 ⟨⟨.no,.bin .add (.c (.str [116])) (.t P7_70),some P7_71⟩,.val,0,0⟩,
 ⟨⟨.no,.mv (.t P7_12),some P7_72⟩,.val,0,0⟩,
 ⟨⟨.no,.mv (.t P7_13),some P7_73⟩,.val,0,0⟩,
 ⟨⟨.no,.conv (.toInt .i64) (.t P7_73),some P7_74⟩,.read,0,0⟩,
 ⟨⟨.no,.mv (.t P7_3),some P7_75⟩,.val,0,0⟩,
 ⟨⟨.no,.build [(.int .i64 (.ofNat 0)),(.int .i64 (.ofNat 0)),(.int .i64 (.ofNat 0))] [(0,1,(.t P7_72)),(1,1,(.t P7_74)),(2,1,(.t P7_75))],some P7_76⟩,.val,0,0⟩,
 ⟨⟨.no,.call (.c (.fn f_catalog_put [] [])) [(.t P7_68),(.t P7_69),(.t P7_71),(.t P7_76)],some P7_77⟩,.eff,0,1⟩,
 ⟨⟨.no,.store 5 (.t P7_8) (.t P7_67),none⟩,.eff,1,2⟩,
 ⟨⟨.no,.mv (.t P7_77),some P7_9⟩,.val,2,2⟩])
 .ret))))))))))))), [.cell true 5 P7_8,.t P7_9], 0, false, false⟩
noncomputable def rf_pool_New : RFn := ⟨apOf 5 0 3, mkU 5, (.seq (.reg [⟨.no,.mv (.c .nilp),some P5_6⟩,
 ⟨.no,.mv (.c (.int .i64 (.ofNat 0))),some P5_7⟩])
 (.seq (.seq (.reg [⟨.no,.mv (.t P5_0),some P5_8⟩,
 ⟨.no,.eq .ptr (.t P5_8) (.c .nilp),some P5_9⟩,
 ⟨.no,.mv (.t P5_9),some P5_10⟩,
 ⟨(.on P5_10 false),.mv (.t P5_1),some P5_11⟩,
 ⟨(.on P5_10 false),.eq .ptr (.t P5_11) (.c .nilp),some P5_12⟩,
 ⟨.no,.pick (.t P5_10) (.c (.bool true)) (.t P5_12),some P5_13⟩,
 ⟨.no,.mv (.t P5_13),some P5_14⟩,
 ⟨(.on P5_14 false),.mv (.t P5_2),some P5_15⟩,
 ⟨(.on P5_14 false),.bin .lss (.t P5_15) (.c (.int .i64 (.ofNat 4))),some P5_16⟩,
 ⟨.no,.pick (.t P5_14) (.c (.bool true)) (.t P5_16),some P5_17⟩,
 ⟨.no,.mv (.t P5_17),some P5_18⟩,
 ⟨(.on P5_18 false),.mv (.t P5_2),some P5_19⟩,
 ⟨(.on P5_18 false),.bin .gtr (.t P5_19) (.c (.int .i64 (.ofNat 256))),some P5_20⟩,
 ⟨.no,.pick (.t P5_18) (.c (.bool true)) (.t P5_20),some P5_21⟩])
 (.cond (.t P5_21) (.seq (.reg [⟨.no,.mv (.c .nilp),some P5_6⟩,
 ⟨.no,.mv (.c (.int .i64 (.ofNat 1))),some P5_7⟩])
 .ret)
 .skip))
 (.seq (.reg [⟨.no,.mv (.t P5_0),some P5_22⟩,
 ⟨.no,.mv (.t P5_1),some P5_23⟩,
 ⟨.no,.mv (.t P5_2),some P5_24⟩,
 ⟨.no,.mkMap,some P5_25⟩,
 ⟨.no,.build [.nilp,.nilp,(.int .i64 (.ofNat 0)),.nilm,(.sl 0 [] .nil),(.int .i64 (.ofNat 0)),(.int .i64 (.ofNat 0))] [(0,1,(.t P5_22)),(1,1,(.t P5_23)),(2,1,(.t P5_24)),(3,1,(.t P5_25))],some P5_26⟩,
 ⟨.no,.box (.t P5_26),some P5_27⟩,
 ⟨.no,.mv (.t P5_27),some P5_6⟩,
 ⟨.no,.mv (.c (.int .i64 (.ofNat 0))),some P5_7⟩])
 .ret))), [.t P5_6,.t P5_7], 2, false, false⟩
noncomputable def rf_txn_New : RFn := ⟨apOf 4 0 1, mkU 4, (.seq (.reg [⟨.no,.mv (.c .nilp),some P4_2⟩])
 (.seq (.seq (.reg [⟨.no,.mv (.t P4_0),some P4_3⟩,
 ⟨.no,.eq .ptr (.t P4_3) (.c .nilp),some P4_4⟩])
 (.cond (.t P4_4) (.seq (.reg [⟨.no,.mv (.c .nilp),some P4_2⟩])
 .ret)
 .skip))
 (.seq (.reg [⟨.no,.mv (.t P4_0),some P4_5⟩,
 ⟨.no,.call (.c (.fn f_pool_Pool_Log [] [])) [(.t P4_5)],some P4_6⟩,
 ⟨.no,.mv (.t P4_0),some P4_7⟩,
 ⟨.no,.mkMap,some P4_8⟩,
 ⟨.no,.build [.nilp,.nilp,.nilm,(.int .i64 (.ofNat 0)),(.sl 0 [] .nil)] [(0,1,(.t P4_6)),(1,1,(.t P4_7)),(2,1,(.t P4_8)),(3,1,(.c (.int .i64 (.ofNat 1))))],some P4_9⟩,
 ⟨.no,.box (.t P4_9),some P4_10⟩,
 ⟨.no,.mv (.t P4_10),some P4_2⟩])
 .ret))), [.t P4_2], 2, false, false⟩
noncomputable def rf_girderlaw15_begun : RFn := ⟨apOf 6 0 1, mkU 6, (.seq (.reg [⟨.no,.mv (.c (.int .i64 (.ofNat 0))),some P6_2⟩])
 (.seq (.reg [⟨.no,.mv (.t P6_0),some P6_9⟩,
 ⟨.no,.call (.c (.fn f_txn_Manager_Begin [] [])) [(.t P6_9)],some P6_10⟩,
 ⟨.no,.mv (.t P6_10),some P6_8⟩,
 ⟨.no,.extr (.t P6_8) 0,some P6_11⟩,
 ⟨.no,.extr (.t P6_8) 1,some P6_12⟩,
 ⟨.no,.mv (.t P6_11),some P6_3⟩,
 ⟨.no,.mv (.t P6_12),some P6_4⟩])
 (.seq (.reg [⟨.no,.call (.c (.fn f_space_Fresh [] [])) [(.c (.int .i64 (.ofNat 2)))],some P6_14⟩,
 ⟨.no,.mv (.t P6_14),some P6_13⟩,
 ⟨.no,.extr (.t P6_13) 0,some P6_15⟩,
 ⟨.no,.extr (.t P6_13) 1,some P6_16⟩,
 ⟨.no,.mv (.t P6_15),some P6_5⟩,
 ⟨.no,.mv (.t P6_16),some P6_6⟩])
 (.seq (.seq (.reg [⟨.no,.mv (.c (.int .i64 (.ofNat 0))),some P6_7⟩])
 (.block 0 (.loop (.seq (.seq (.reg [⟨.no,.mv (.t P6_7),some P6_17⟩,
 ⟨.no,.mv (.t P6_5),some P6_18⟩,
 ⟨.no,.len .sl (.t P6_18),some P6_19⟩,
 ⟨.no,.bin .lss (.t P6_17) (.t P6_19),some P6_20⟩,
 ⟨.no,.mv (.t P6_20),some P6_21⟩,
 ⟨(.on P6_21 true),.mv (.t P6_4),some P6_22⟩,
 ⟨(.on P6_21 true),.eq .int (.t P6_22) (.c (.int .i64 (.ofNat 0))),some P6_23⟩,
 ⟨.no,.pick (.t P6_21) (.t P6_23) (.c (.bool false)),some P6_24⟩])
 (.cond (.t P6_24) .skip
 (.exit 0)))
 (.seq (.block 1 (.reg [⟨.no,.mv (.t P6_0),some P6_28⟩,
 ⟨.no,.mv (.t P6_3),some P6_29⟩,
 ⟨.no,.mv (.t P6_5),some P6_30⟩,
 ⟨.no,.mv (.t P6_7),some P6_31⟩,
 ⟨.no,.ixSl 4 (.t P6_30) (.t P6_31),some P6_32⟩,
 ⟨.no,.load true 4 (.t P6_32),some P6_33⟩,
 ⟨.no,.build [(.int .u32 (.ofNat 0)),(.int .i64 (.ofNat 0)),(.int .i64 (.ofNat 0)),(.str []),(.str []),(.int .i64 (.ofNat 0)),(.int .i64 (.ofNat 0)),(.str []),(.int .u32 (.ofNat 0)),(.int .i64 (.ofNat 0)),(.bool false)] [(0,1,(.c (.int .u32 (.ofNat 1)))),(1,4,(.t P6_33))],some P6_34⟩,
 ⟨.no,.call (.c (.fn f_txn_Manager_Log [] [])) [(.t P6_28),(.t P6_29),(.t P6_34)],some P6_35⟩,
 ⟨.no,.mv (.t P6_35),some P6_27⟩,
 ⟨.no,.extr (.t P6_27) 0,some P6_36⟩,
 ⟨.no,.extr (.t P6_27) 1,some P6_37⟩,
 ⟨.no,.mv (.t P6_37),some P6_4⟩]))
 (.reg [⟨.no,.mv (.t P6_7),some P6_25⟩,
 ⟨.no,.bin .add (.t P6_25) (.c (.int .i64 (.ofNat 1))),some P6_26⟩,
 ⟨.no,.mv (.t P6_26),some P6_7⟩]))))))
 (.seq (.seq (.reg [⟨.no,.mv (.t P6_4),some P6_38⟩,
 ⟨.no,.ne .int (.t P6_38) (.c (.int .i64 (.ofNat 0))),some P6_39⟩])
 (.cond (.t P6_39) (.seq (.reg [⟨.no,.mv (.t P6_4),some P6_40⟩,
 ⟨.no,.mv (.t P6_40),some P6_2⟩])
 .ret)
 .skip))
 (.seq (.reg [⟨.no,.mv (.t P6_0),some P6_41⟩,
 ⟨.no,.mv (.t P6_3),some P6_42⟩,
 ⟨.no,.call (.c (.fn f_txn_Manager_Commit [] [])) [(.t P6_41),(.t P6_42)],some P6_43⟩,
 ⟨.no,.mv (.t P6_43),some P6_2⟩])
 .ret)))))), [.t P6_2], 0, false, false⟩
noncomputable def rf_girderlaw15_before : RFn := ⟨apOf 6 0 2, mkU 6, (.seq (.reg [⟨.no,.box (.t P6_0),some P6_2⟩,
 ⟨.no,.box (.t P6_1),some P6_3⟩,
 ⟨.no,.mv (.c (.bool false)),some P6_4⟩])
 (.seq (.seq (.reg [⟨.no,.faddr 0 1 (.t P6_2),some P6_5⟩,
 ⟨.no,.load false 1 (.t P6_5),some P6_6⟩,
 ⟨.no,.faddr 0 1 (.t P6_3),some P6_7⟩,
 ⟨.no,.load false 1 (.t P6_7),some P6_8⟩,
 ⟨.no,.ne .str (.t P6_6) (.t P6_8),some P6_9⟩])
 (.cond (.t P6_9) (.seq (.reg [⟨.no,.faddr 0 1 (.t P6_2),some P6_10⟩,
 ⟨.no,.load false 1 (.t P6_10),some P6_11⟩,
 ⟨.no,.faddr 0 1 (.t P6_3),some P6_12⟩,
 ⟨.no,.load false 1 (.t P6_12),some P6_13⟩,
 ⟨.no,.bin .lss (.t P6_11) (.t P6_13),some P6_14⟩,
 ⟨.no,.mv (.t P6_14),some P6_4⟩])
 .ret)
 .skip))
 (.seq (.seq (.reg [⟨.no,.faddr 1 2 (.t P6_2),some P6_15⟩,
 ⟨.no,.faddr 0 1 (.t P6_15),some P6_16⟩,
 ⟨.no,.load false 1 (.t P6_16),some P6_17⟩,
 ⟨.no,.faddr 1 2 (.t P6_3),some P6_18⟩,
 ⟨.no,.faddr 0 1 (.t P6_18),some P6_19⟩,
 ⟨.no,.load false 1 (.t P6_19),some P6_20⟩,
 ⟨.no,.ne .int (.t P6_17) (.t P6_20),some P6_21⟩])
 (.cond (.t P6_21) (.seq (.reg [⟨.no,.faddr 1 2 (.t P6_2),some P6_22⟩,
 ⟨.no,.faddr 0 1 (.t P6_22),some P6_23⟩,
 ⟨.no,.load false 1 (.t P6_23),some P6_24⟩,
 ⟨.no,.faddr 1 2 (.t P6_3),some P6_25⟩,
 ⟨.no,.faddr 0 1 (.t P6_25),some P6_26⟩,
 ⟨.no,.load false 1 (.t P6_26),some P6_27⟩,
 ⟨.no,.bin .lss (.t P6_24) (.t P6_27),some P6_28⟩,
 ⟨.no,.mv (.t P6_28),some P6_4⟩])
 .ret)
 .skip))
 (.seq (.reg [⟨.no,.faddr 1 2 (.t P6_2),some P6_29⟩,
 ⟨.no,.faddr 1 1 (.t P6_29),some P6_30⟩,
 ⟨.no,.load false 1 (.t P6_30),some P6_31⟩,
 ⟨.no,.faddr 1 2 (.t P6_3),some P6_32⟩,
 ⟨.no,.faddr 1 1 (.t P6_32),some P6_33⟩,
 ⟨.no,.load false 1 (.t P6_33),some P6_34⟩,
 ⟨.no,.bin .lss (.t P6_31) (.t P6_34),some P6_35⟩,
 ⟨.no,.mv (.t P6_35),some P6_4⟩])
 .ret)))), [.t P6_4], 0, false, false⟩
noncomputable def rf_txn_Manager_Commit : RFn := ⟨apOf 6 0 2, mkU 6, (.seq (.reg [⟨.no,.mv (.c (.int .i64 (.ofNat 0))),some P6_4⟩])
 (.seq (.reg [⟨.no,.mv (.t P6_0),some P6_10⟩,
 ⟨.no,.mv (.t P6_1),some P6_11⟩,
 ⟨.no,.call (.c (.fn f_txn_Manager_find [] [])) [(.t P6_10),(.t P6_11)],some P6_12⟩,
 ⟨.no,.mv (.t P6_12),some P6_9⟩,
 ⟨.no,.extr (.t P6_9) 0,some P6_13⟩,
 ⟨.no,.extr (.t P6_9) 1,some P6_14⟩,
 ⟨.no,.mv (.t P6_13),some P6_5⟩,
 ⟨.no,.mv (.t P6_14),some P6_6⟩])
 (.seq (.seq (.reg [⟨.no,.mv (.t P6_6),some P6_15⟩,
 ⟨.no,.ne .int (.t P6_15) (.c (.int .i64 (.ofNat 0))),some P6_16⟩])
 (.cond (.t P6_16) (.seq (.reg [⟨.no,.mv (.t P6_6),some P6_17⟩,
 ⟨.no,.mv (.t P6_17),some P6_4⟩])
 .ret)
 .skip))
 (.seq (.seq (.reg [⟨.no,.mv (.t P6_5),some P6_18⟩,
 ⟨.no,.nilc (.t P6_18),some P6_19⟩,
 ⟨.no,.faddr 0 4 (.t P6_19),some P6_20⟩,
 ⟨.no,.faddr 1 1 (.t P6_20),some P6_21⟩,
 ⟨.no,.load false 1 (.t P6_21),some P6_22⟩,
 ⟨.no,.ne .int (.t P6_22) (.c (.int .i64 (.ofNat 1))),some P6_23⟩])
 (.cond (.t P6_23) (.seq (.reg [⟨.no,.mv (.c (.int .i64 (.ofNat 91))),some P6_4⟩])
 .ret)
 .skip))
 (.seq (.reg [⟨.no,.mv (.t P6_0),some P6_25⟩,
 ⟨.no,.mv (.t P6_5),some P6_26⟩,
 ⟨.no,.build [(.int .i64 (.ofNat 0)),(.int .i64 (.ofNat 0)),(.int .u64 (.ofNat 0)),(.int .u64 (.ofNat 0)),(.int .u32 (.ofNat 0)),(.int .i64 (.ofNat 0)),(.int .i64 (.ofNat 0)),(.str []),(.str []),(.int .i64 (.ofNat 0)),(.int .i64 (.ofNat 0)),(.str []),(.int .u32 (.ofNat 0)),(.int .i64 (.ofNat 0)),(.bool false),(.sl 0 [] .nil),(.sl 0 [] .nil)] [(0,1,(.c (.int .i64 (.ofNat 4))))],some P6_27⟩,
 ⟨.no,.call (.c (.fn f_txn_Manager_put [] [])) [(.t P6_25),(.t P6_26),(.t P6_27),(.c (.bool true))],some P6_28⟩,
 ⟨.no,.mv (.t P6_28),some P6_24⟩,
 ⟨.no,.extr (.t P6_24) 0,some P6_29⟩,
 ⟨.no,.extr (.t P6_24) 1,some P6_30⟩,
 ⟨.no,.mv (.t P6_29),some P6_7⟩,
 ⟨.no,.mv (.t P6_30),some P6_6⟩])
 (.seq (.seq (.reg [⟨.no,.mv (.t P6_6),some P6_31⟩,
 ⟨.no,.ne .int (.t P6_31) (.c (.int .i64 (.ofNat 0))),some P6_32⟩])
 (.cond (.t P6_32) (.seq (.reg [⟨.no,.mv (.t P6_6),some P6_33⟩,
 ⟨.no,.mv (.t P6_33),some P6_4⟩])
 .ret)
 .skip))
 (.seq (.reg [⟨.no,.mv (.t P6_5),some P6_34⟩,
 ⟨.no,.nilc (.t P6_34),some P6_35⟩,
 ⟨.no,.faddr 0 4 (.t P6_35),some P6_36⟩,
 ⟨.no,.faddr 1 1 (.t P6_36),some P6_37⟩,
 ⟨.no,.store 1 (.t P6_37) (.c (.int .i64 (.ofNat 2))),none⟩])
 (.seq (.seq (.reg [⟨.no,.mv (.t P6_0),some P6_38⟩,
 ⟨.no,.nilc (.t P6_38),some P6_39⟩,
 ⟨.no,.faddr 0 1 (.t P6_39),some P6_40⟩,
 ⟨.no,.load false 1 (.t P6_40),some P6_41⟩,
 ⟨.no,.mv (.t P6_7),some P6_42⟩,
 ⟨.no,.call (.c (.fn f_wal_Log_Flush [] [])) [(.t P6_41),(.t P6_42)],some P6_43⟩,
 ⟨.no,.mv (.t P6_43),some P6_8⟩])
 (.seq (.reg [⟨.no,.mv (.t P6_8),some P6_44⟩,
 ⟨.no,.ne .int (.t P6_44) (.c (.int .i64 (.ofNat 0))),some P6_45⟩])
 (.cond (.t P6_45) (.seq (.reg [⟨.no,.mv (.t P6_8),some P6_46⟩,
 ⟨.no,.mv (.t P6_46),some P6_4⟩])
 .ret)
 .skip)))
 (.seq (.reg [⟨.no,.mv (.t P6_0),some P6_47⟩,
 ⟨.no,.mv (.t P6_0),some P6_48⟩,
 ⟨.no,.nilc (.t P6_48),some P6_49⟩,
 ⟨.no,.faddr 4 1 (.t P6_49),some P6_50⟩,
 ⟨.no,.load false 1 (.t P6_50),some P6_51⟩,
 ⟨.no,.mv (.t P6_1),some P6_52⟩,
 ⟨.no,.buildSl 1 [(.int .i64 (.ofNat 0))] [(0,1,(.t P6_52))],some P6_53⟩,
 ⟨.no,.app 1 8 false (.t P6_51) (.t P6_53),some P6_54⟩,
 ⟨.no,.nilc (.t P6_47),some P6_55⟩,
 ⟨.no,.faddr 4 1 (.t P6_55),some P6_56⟩,
 ⟨.no,.store 1 (.t P6_56) (.t P6_54),none⟩])
 (.seq (.reg [⟨.no,.mv (.t P6_0),some P6_57⟩,
 ⟨.no,.mv (.t P6_5),some P6_58⟩,
 ⟨.no,.call (.c (.fn f_txn_Manager_end [] [])) [(.t P6_57),(.t P6_58)],some P6_59⟩,
 ⟨.no,.mv (.t P6_59),some P6_4⟩])
 .ret)))))))))), [.t P6_4], 0, false, false⟩
noncomputable def rf_tree_Seek : RFn := ⟨apOf 6 0 3, mkU 6, (.seq (.reg [⟨.no,.box (.t P6_2),some P6_5⟩,
 ⟨.no,.alloc [(.str []),(.int .u32 (.ofNat 0)),(.int .i64 (.ofNat 0)),(.bool false)],some P6_6⟩,
 ⟨.no,.mv (.c (.bool false)),some P6_7⟩,
 ⟨.no,.mv (.c (.int .i64 (.ofNat 0))),some P6_8⟩])
 (.seq (.reg [⟨.no,.mv (.t P6_0),some P6_17⟩,
 ⟨.no,.mv (.t P6_1),some P6_18⟩,
 ⟨.no,.load true 3 (.t P6_5),some P6_19⟩,
 ⟨.no,.call (.c (.fn f_tree_Path [] [])) [(.t P6_17),(.t P6_18),(.t P6_19)],some P6_20⟩,
 ⟨.no,.mv (.t P6_20),some P6_16⟩,
 ⟨.no,.extr (.t P6_16) 0,some P6_21⟩,
 ⟨.no,.extr (.t P6_16) 1,some P6_22⟩,
 ⟨.no,.mv (.t P6_21),some P6_9⟩,
 ⟨.no,.mv (.t P6_22),some P6_10⟩])
 (.seq (.seq (.reg [⟨.no,.mv (.t P6_10),some P6_23⟩,
 ⟨.no,.ne .int (.t P6_23) (.c (.int .i64 (.ofNat 0))),some P6_24⟩])
 (.cond (.t P6_24) (.seq (.reg [⟨.no,.build [(.str []),(.int .u32 (.ofNat 0)),(.int .i64 (.ofNat 0)),(.bool false)] [],some P6_25⟩,
 ⟨.no,.mv (.t P6_10),some P6_26⟩,
 ⟨.no,.store 4 (.t P6_6) (.t P6_25),none⟩,
 ⟨.no,.mv (.c (.bool false)),some P6_7⟩,
 ⟨.no,.mv (.t P6_26),some P6_8⟩])
 .ret)
 .skip))
 (.seq (.reg [⟨.no,.mv (.t P6_9),some P6_27⟩,
 ⟨.no,.mv (.t P6_9),some P6_28⟩,
 ⟨.no,.len .sl (.t P6_28),some P6_29⟩,
 ⟨.no,.bin .sub (.t P6_29) (.c (.int .i64 (.ofNat 1))),some P6_30⟩,
 ⟨.no,.ixSl 1 (.t P6_27) (.t P6_30),some P6_31⟩,
 ⟨.no,.load false 1 (.t P6_31),some P6_32⟩,
 ⟨.no,.mv (.t P6_32),some P6_11⟩])
 (.seq (.reg [⟨.no,.mv (.t P6_0),some P6_34⟩,
 ⟨.no,.mv (.t P6_11),some P6_35⟩,
 ⟨.no,.call (.c (.fn f_tree_leaf [] [])) [(.t P6_34),(.t P6_35)],some P6_36⟩,
 ⟨.no,.mv (.t P6_36),some P6_33⟩,
 ⟨.no,.extr (.t P6_33) 0,some P6_37⟩,
 ⟨.no,.extr (.t P6_33) 1,some P6_38⟩,
 ⟨.no,.extr (.t P6_33) 2,some P6_39⟩,
 ⟨.no,.alloc [(.int .u32 (.ofNat 0)),(.int .u64 (.ofNat 0)),(.int .i64 (.ofNat 0)),(.str []),(.sl 0 [] .nil)],some P6_12⟩,
 ⟨.no,.store 5 (.t P6_12) (.t P6_37),none⟩,
 ⟨.no,.mv (.t P6_38),some P6_13⟩,
 ⟨.no,.mv (.t P6_39),some P6_10⟩])
 (.seq (.seq (.reg [⟨.no,.mv (.t P6_10),some P6_40⟩,
 ⟨.no,.ne .int (.t P6_40) (.c (.int .i64 (.ofNat 0))),some P6_41⟩])
 (.cond (.t P6_41) (.seq (.reg [⟨.no,.build [(.str []),(.int .u32 (.ofNat 0)),(.int .i64 (.ofNat 0)),(.bool false)] [],some P6_42⟩,
 ⟨.no,.mv (.t P6_10),some P6_43⟩,
 ⟨.no,.store 4 (.t P6_6) (.t P6_42),none⟩,
 ⟨.no,.mv (.c (.bool false)),some P6_7⟩,
 ⟨.no,.mv (.t P6_43),some P6_8⟩])
 .ret)
 .skip))
 (.seq (.reg [⟨.no,.mv (.t P6_13),some P6_45⟩,
 ⟨.no,.load true 3 (.t P6_5),some P6_46⟩,
 ⟨.no,.call (.c (.fn f_node_Find [] [])) [(.t P6_45),(.t P6_46)],some P6_47⟩,
 ⟨.no,.mv (.t P6_47),some P6_44⟩,
 ⟨.no,.extr (.t P6_44) 0,some P6_48⟩,
 ⟨.no,.extr (.t P6_44) 1,some P6_49⟩,
 ⟨.no,.mv (.t P6_48),some P6_14⟩,
 ⟨.no,.mv (.t P6_49),some P6_15⟩])
 (.seq (.reg [⟨.no,.mv (.t P6_0),some P6_50⟩,
 ⟨.no,.mv (.t P6_11),some P6_51⟩,
 ⟨.no,.mv (.t P6_14),some P6_52⟩,
 ⟨.no,.call (.c (.fn f_tree_first [] [])) [(.t P6_50),(.t P6_51),(.t P6_52)],some P6_53⟩,
 ⟨.no,.extr (.t P6_53) 0,some P6_54⟩,
 ⟨.no,.extr (.t P6_53) 1,some P6_55⟩,
 ⟨.no,.extr (.t P6_53) 2,some P6_56⟩,
 ⟨.no,.store 4 (.t P6_6) (.t P6_54),none⟩,
 ⟨.no,.mv (.t P6_55),some P6_7⟩,
 ⟨.no,.mv (.t P6_56),some P6_8⟩])
 .ret)))))))), [.cell true 4 P6_6,.t P6_7,.t P6_8], 0, false, false⟩
noncomputable def rf_catalog_Begun : RFn := ⟨apOf 6 0 1, mkU 6, (.seq (.reg [⟨.no,.mv (.c (.bool false)),some P6_2⟩,
 ⟨.no,.mv (.c (.int .i64 (.ofNat 0))),some P6_3⟩])
 (.seq (.reg [⟨.no,.mv (.t P6_0),some P6_8⟩,
 ⟨.no,.call (.c (.fn f_txn_Manager_Pool [] [])) [(.t P6_8)],some P6_9⟩,
 ⟨.no,.call (.c (.fn f_pool_Pool_Get [] [])) [(.t P6_9),(.c (.int .u32 (.ofNat 1)))],some P6_10⟩,
 ⟨.no,.mv (.t P6_10),some P6_7⟩,
 ⟨.no,.extr (.t P6_7) 0,some P6_11⟩,
 ⟨.no,.extr (.t P6_7) 1,some P6_12⟩,
 ⟨.no,.alloc [(.int .u32 (.ofNat 0)),(.int .u64 (.ofNat 0)),(.int .i64 (.ofNat 0)),(.str []),(.sl 0 [] .nil)],some P6_4⟩,
 ⟨.no,.store 5 (.t P6_4) (.t P6_11),none⟩,
 ⟨.no,.mv (.t P6_12),some P6_5⟩])
 (.seq (.seq (.reg [⟨.no,.mv (.t P6_5),some P6_13⟩,
 ⟨.no,.ne .int (.t P6_13) (.c (.int .i64 (.ofNat 0))),some P6_14⟩])
 (.cond (.t P6_14) (.seq (.reg [⟨.no,.mv (.t P6_5),some P6_15⟩,
 ⟨.no,.mv (.c (.bool false)),some P6_2⟩,
 ⟨.no,.mv (.t P6_15),some P6_3⟩])
 .ret)
 .skip))
 (.seq (.reg [⟨.no,.mv (.t P6_0),some P6_17⟩,
 ⟨.no,.call (.c (.fn f_txn_Manager_Pool [] [])) [(.t P6_17)],some P6_18⟩,
 ⟨.no,.call (.c (.fn f_pool_Pool_Get [] [])) [(.t P6_18),(.c (.int .u32 (.ofNat 2)))],some P6_19⟩,
 ⟨.no,.mv (.t P6_19),some P6_16⟩,
 ⟨.no,.extr (.t P6_16) 0,some P6_20⟩,
 ⟨.no,.extr (.t P6_16) 1,some P6_21⟩,
 ⟨.no,.alloc [(.int .u32 (.ofNat 0)),(.int .u64 (.ofNat 0)),(.int .i64 (.ofNat 0)),(.str []),(.sl 0 [] .nil)],some P6_6⟩,
 ⟨.no,.store 5 (.t P6_6) (.t P6_20),none⟩,
 ⟨.no,.mv (.t P6_21),some P6_5⟩])
 (.seq (.reg [⟨.no,.mv (.t P6_5),some P6_22⟩,
 ⟨.no,.eq .int (.t P6_22) (.c (.int .i64 (.ofNat 0))),some P6_23⟩,
 ⟨.no,.mv (.t P6_23),some P6_24⟩,
 ⟨(.on P6_24 true),.load true 5 (.t P6_4),some P6_25⟩,
 ⟨(.on P6_24 true),.call (.c (.fn f_space_Is [] [])) [(.t P6_25)],some P6_26⟩,
 ⟨.no,.pick (.t P6_24) (.t P6_26) (.c (.bool false)),some P6_27⟩,
 ⟨.no,.mv (.t P6_27),some P6_28⟩,
 ⟨(.on P6_28 true),.faddr 2 1 (.t P6_6),some P6_29⟩,
 ⟨(.on P6_28 true),.load false 1 (.t P6_29),some P6_30⟩,
 ⟨(.on P6_28 true),.eq .int (.t P6_30) (.c (.int .i64 (.ofNat 2))),some P6_31⟩,
 ⟨.no,.pick (.t P6_28) (.t P6_31) (.c (.bool false)),some P6_32⟩,
 ⟨.no,.mv (.t P6_5),some P6_33⟩,
 ⟨.no,.mv (.t P6_32),some P6_2⟩,
 ⟨.no,.mv (.t P6_33),some P6_3⟩])
 .ret))))), [.t P6_2,.t P6_3], 0, false, false⟩
noncomputable def rf_wal_Log_Keep : RFn := ⟨apOf 5 0 2, mkU 5, (.seq (.reg [⟨.no,.mv (.c (.int .i64 (.ofNat 0))),some P5_4⟩])
 (.seq (.block 0 (.seq (.reg [⟨.no,.mv (.t P5_0),some P5_6⟩,
 ⟨.no,.eq .ptr (.t P5_6) (.c .nilp),some P5_7⟩,
 ⟨.no,.mv (.t P5_7),some P5_8⟩,
 ⟨(.on P5_8 false),.mv (.t P5_1),some P5_9⟩,
 ⟨(.on P5_8 false),.bin .lss (.t P5_9) (.c (.int .i64 (.ofNat 0))),some P5_10⟩,
 ⟨.no,.pick (.t P5_8) (.c (.bool true)) (.t P5_10),some P5_11⟩,
 ⟨.no,.mv (.t P5_11),some P5_5⟩])
 (.cond (.t P5_5) (.seq (.reg [⟨.no,.mv (.c (.int .i64 (.ofNat 1))),some P5_4⟩])
 .ret)
 (.seq (.draw [] 11 [⟨⟨.no,.mv (.t P5_1),some P5_13⟩,.val,0,1⟩,
 ⟨⟨.no,.mv (.t P5_0),some P5_14⟩,.val,0,0⟩,
 ⟨⟨.no,.call (.c (.fn f_wal_Log_Room [] [])) [(.t P5_14)],some P5_15⟩,.eff,0,1⟩,
 ⟨⟨.no,.mv (.t P5_0),some P5_16⟩,.val,0,1⟩,
 ⟨⟨.no,.nilc (.t P5_16),some P5_17⟩,.val,0,1⟩,
 ⟨⟨.no,.faddr 5 1 (.t P5_17),some P5_18⟩,.val,0,1⟩,
 ⟨⟨.no,.load false 1 (.t P5_18),some P5_19⟩,.read,0,1⟩,
 ⟨⟨.no,.bin .sub (.t P5_15) (.t P5_19),some P5_20⟩,.val,1,1⟩,
 ⟨⟨.no,.bin .gtr (.t P5_13) (.t P5_20),some P5_21⟩,.val,1,1⟩,
 ⟨⟨.no,.mv (.t P5_21),some P5_12⟩,.val,1,1⟩])
 (.cond (.t P5_12) (.seq (.reg [⟨.no,.mv (.c (.int .i64 (.ofNat 50))),some P5_4⟩])
 .ret)
 .skip)))))
 (.seq (.reg [⟨.no,.mv (.t P5_0),some P5_22⟩,
 ⟨.no,.nilc (.t P5_22),some P5_23⟩,
 ⟨.no,.faddr 5 1 (.t P5_23),some P5_24⟩,
 ⟨.no,.load false 1 (.t P5_24),some P5_25⟩,
 ⟨.no,.mv (.t P5_1),some P5_26⟩,
 ⟨.no,.bin .add (.t P5_25) (.t P5_26),some P5_27⟩,
 ⟨.no,.nilc (.t P5_22),some P5_28⟩,
 ⟨.no,.faddr 5 1 (.t P5_28),some P5_29⟩,
 ⟨.no,.store 1 (.t P5_29) (.t P5_27),none⟩])
 (.seq (.reg [⟨.no,.mv (.c (.int .i64 (.ofNat 0))),some P5_4⟩])
 .ret)))), [.t P5_4], 0, false, false⟩
noncomputable def rf_catalog_All : RFn := ⟨apOf 7 0 1, mkU 7, (.seq (.reg [⟨.no,.mv (.c (.sl 0 [] .nil)),some P7_2⟩,
 ⟨.no,.mv (.c (.int .i64 (.ofNat 0))),some P7_3⟩])
 (.seq (.reg [⟨.no,.mv (.t P7_0),some P7_15⟩,
 ⟨.no,.call (.c (.fn f_catalog_rows [] [])) [(.t P7_15)],some P7_16⟩,
 ⟨.no,.mv (.t P7_16),some P7_14⟩,
 ⟨.no,.extr (.t P7_14) 0,some P7_17⟩,
 ⟨.no,.extr (.t P7_14) 1,some P7_18⟩,
 ⟨.no,.mv (.t P7_17),some P7_4⟩,
 ⟨.no,.mv (.t P7_18),some P7_5⟩])
 (.seq (.seq (.reg [⟨.no,.mv (.t P7_5),some P7_19⟩,
 ⟨.no,.ne .int (.t P7_19) (.c (.int .i64 (.ofNat 0))),some P7_20⟩])
 (.cond (.t P7_20) (.seq (.reg [⟨.no,.mv (.t P7_5),some P7_21⟩,
 ⟨.no,.mv (.c (.sl 0 [] .nil)),some P7_2⟩,
 ⟨.no,.mv (.t P7_21),some P7_3⟩])
 .ret)
 .skip))
 (.seq (.reg [⟨.no,.mv (.c (.sl 0 [] .nil)),some P7_6⟩])
 (.seq (.seq (.reg [⟨.no,.mv (.t P7_4),some P7_22⟩,
 ⟨.no,.len .sl (.t P7_22),some P7_23⟩,
 ⟨.no,.mv (.c (.int .i64 (.ofNat 0))),some P7_24⟩])
 (.block 0 (.loop (.seq (.reg [⟨.no,.bin .lss (.t P7_24) (.t P7_23),some P7_25⟩])
 (.seq (.cond (.t P7_25) .skip
 (.exit 0))
 (.seq (.block 1 (.seq (.reg [⟨.no,.ixSl 6 (.t P7_22) (.t P7_24),some P7_26⟩,
 ⟨.no,.load true 6 (.t P7_26),some P7_27⟩,
 ⟨.no,.alloc [(.int .u32 (.ofNat 0)),(.int .i64 (.ofNat 0)),(.str []),(.int .i64 (.ofNat 0)),(.int .i64 (.ofNat 0)),(.int .i64 (.ofNat 0))],some P7_8⟩,
 ⟨.no,.store 6 (.t P7_8) (.t P7_27),none⟩])
 (.seq (.reg [⟨.no,.faddr 2 1 (.t P7_8),some P7_28⟩,
 ⟨.no,.load false 1 (.t P7_28),some P7_29⟩,
 ⟨.no,.sliceS (.t P7_29) none (some (.c (.int .i64 (.ofNat 1)))),some P7_30⟩,
 ⟨.no,.eq .str (.t P7_30) (.c (.str [116])),some P7_31⟩])
 (.cond (.t P7_31) (.draw [] 19 [⟨⟨.no,.mv (.t P7_6),some P7_32⟩,.val,0,0⟩,
 ⟨⟨.no,.faddr 2 1 (.t P7_8),some P7_33⟩,.val,0,0⟩,
 ⟨⟨.no,.load false 1 (.t P7_33),some P7_34⟩,.read,0,0⟩,
 ⟨⟨.no,.sliceS (.t P7_34) (some (.c (.int .i64 (.ofNat 1)))) none,some P7_35⟩,.val,0,0⟩,
 ⟨⟨.no,.faddr 3 3 (.t P7_8),some P7_36⟩,.val,0,0⟩,
 ⟨⟨.no,.ixArr 3 1 (.t P7_36) (.c (.int .i64 (.ofNat 0))),some P7_37⟩,.val,0,0⟩,
 ⟨⟨.no,.load false 1 (.t P7_37),some P7_38⟩,.read,0,0⟩,
 ⟨⟨.no,.faddr 3 3 (.t P7_8),some P7_39⟩,.val,0,0⟩,
 ⟨⟨.no,.ixArr 3 1 (.t P7_39) (.c (.int .i64 (.ofNat 1))),some P7_40⟩,.val,0,0⟩,
 ⟨⟨.no,.load false 1 (.t P7_40),some P7_41⟩,.read,0,0⟩,
 ⟨⟨.no,.conv (.toInt .u32) (.t P7_41),some P7_42⟩,.read,0,0⟩,
 ⟨⟨.no,.faddr 3 3 (.t P7_8),some P7_43⟩,.val,0,0⟩,
 ⟨⟨.no,.ixArr 3 1 (.t P7_43) (.c (.int .i64 (.ofNat 2))),some P7_44⟩,.val,0,0⟩,
 ⟨⟨.no,.load false 1 (.t P7_44),some P7_45⟩,.read,0,0⟩,
 ⟨⟨.no,.build [(.str []),(.int .i64 (.ofNat 0)),(.int .u32 (.ofNat 0)),(.int .i64 (.ofNat 0)),(.sl 0 [] .nil)] [(0,1,(.t P7_35)),(1,1,(.t P7_38)),(2,1,(.t P7_42)),(3,1,(.t P7_45))],some P7_46⟩,.val,0,0⟩,
 ⟨⟨.no,.buildSl 1 [(.str []),(.int .i64 (.ofNat 0)),(.int .u32 (.ofNat 0)),(.int .i64 (.ofNat 0)),(.sl 0 [] .nil)] [(0,5,(.t P7_46))],some P7_47⟩,.val,0,0⟩,
 ⟨⟨.no,.app 5 64 false (.t P7_32) (.t P7_47),some P7_48⟩,.eff,0,1⟩,
 ⟨⟨.no,.mv (.t P7_48),some P7_6⟩,.val,1,1⟩])
 .skip))))
 (.reg [⟨.no,.bin .add (.t P7_24) (.c (.int .i64 (.ofNat 1))),some P7_49⟩,
 ⟨.no,.mv (.t P7_49),some P7_24⟩])))))))
 (.seq (.reg [⟨.no,.mv (.t P7_6),some P7_50⟩,
 ⟨.no,.call (.c (.fn f_slices_SortFunc_api_Table [] [])) [(.t P7_50),(.c (.fn f_catalog_All_c1 [] []))],some P7_51⟩])
 (.seq (.seq (.reg [⟨.no,.mv (.t P7_4),some P7_52⟩,
 ⟨.no,.len .sl (.t P7_52),some P7_53⟩,
 ⟨.no,.mv (.c (.int .i64 (.ofNat 0))),some P7_54⟩])
 (.block 2 (.loop (.seq (.reg [⟨.no,.bin .lss (.t P7_54) (.t P7_53),some P7_55⟩])
 (.seq (.cond (.t P7_55) .skip
 (.exit 2))
 (.seq (.block 3 (.seq (.reg [⟨.no,.ixSl 6 (.t P7_52) (.t P7_54),some P7_56⟩,
 ⟨.no,.load true 6 (.t P7_56),some P7_57⟩,
 ⟨.no,.alloc [(.int .u32 (.ofNat 0)),(.int .i64 (.ofNat 0)),(.str []),(.int .i64 (.ofNat 0)),(.int .i64 (.ofNat 0)),(.int .i64 (.ofNat 0))],some P7_10⟩,
 ⟨.no,.store 6 (.t P7_10) (.t P7_57),none⟩])
 (.seq (.seq (.reg [⟨.no,.faddr 2 1 (.t P7_10),some P7_58⟩,
 ⟨.no,.load false 1 (.t P7_58),some P7_59⟩,
 ⟨.no,.sliceS (.t P7_59) none (some (.c (.int .i64 (.ofNat 1)))),some P7_60⟩,
 ⟨.no,.ne .str (.t P7_60) (.c (.str [105])),some P7_61⟩])
 (.cond (.t P7_61) (.exit 3)
 .skip))
 (.seq (.reg [⟨.no,.mv (.t P7_6),some P7_62⟩,
 ⟨.no,.fn f_catalog_All_c2 [] [(.t P7_10)],some P7_63⟩,
 ⟨.no,.call (.c (.fn f_slices_IndexFunc_api_Table [] [])) [(.t P7_62),(.t P7_63)],some P7_64⟩,
 ⟨.no,.mv (.t P7_64),some P7_11⟩])
 (.seq (.seq (.reg [⟨.no,.mv (.t P7_11),some P7_65⟩,
 ⟨.no,.bin .lss (.t P7_65) (.c (.int .i64 (.ofNat 0))),some P7_66⟩])
 (.cond (.t P7_66) (.seq (.reg [⟨.no,.mv (.c (.sl 0 [] .nil)),some P7_2⟩,
 ⟨.no,.mv (.c (.int .i64 (.ofNat 172))),some P7_3⟩])
 .ret)
 .skip))
 (.seq (.draw [[(.str []),(.int .i64 (.ofNat 0)),(.int .u32 (.ofNat 0)),(.sl 0 [] .nil),(.bool false)]] 15 [⟨⟨.no,.faddr 2 1 (.t P7_10),some P7_67⟩,.val,0,0⟩,
 ⟨⟨.no,.load false 1 (.t P7_67),some P7_68⟩,.read,0,0⟩,
 ⟨⟨.no,.sliceS (.t P7_68) (some (.c (.int .i64 (.ofNat 1)))) none,some P7_69⟩,.val,0,0⟩,
 ⟨⟨.no,.faddr 3 3 (.t P7_10),some P7_70⟩,.val,0,0⟩,
 ⟨⟨.no,.ixArr 3 1 (.t P7_70) (.c (.int .i64 (.ofNat 0))),some P7_71⟩,.val,0,0⟩,
 ⟨⟨.no,.load false 1 (.t P7_71),some P7_72⟩,.read,0,0⟩,
 ⟨⟨.no,.faddr 3 3 (.t P7_10),some P7_73⟩,.val,0,0⟩,
 ⟨⟨.no,.ixArr 3 1 (.t P7_73) (.c (.int .i64 (.ofNat 1))),some P7_74⟩,.val,0,0⟩,
 ⟨⟨.no,.load false 1 (.t P7_74),some P7_75⟩,.read,0,0⟩,
 ⟨⟨.no,.bin .and (.t P7_75) (.c (.int .i64 (.ofNat 4294967295))),some P7_76⟩,.val,0,0⟩,
 ⟨⟨.no,.conv (.toInt .u32) (.t P7_76),some P7_77⟩,.read,0,0⟩,
 ⟨⟨.no,.build [(.str []),(.int .i64 (.ofNat 0)),(.int .u32 (.ofNat 0)),(.sl 0 [] .nil),(.bool false)] [(0,1,(.t P7_69)),(1,1,(.t P7_72)),(2,1,(.t P7_77))],some P7_78⟩,.val,0,0⟩,
 ⟨⟨.no,.alloc [(.str []),(.int .i64 (.ofNat 0)),(.int .u32 (.ofNat 0)),(.sl 0 [] .nil),(.bool false)],some P7_12⟩,.alloc,0,0⟩,
 ⟨⟨.no,.store 5 (.t P7_12) (.t P7_78),none⟩,.eff,0,1⟩])
 (.seq (.reg [⟨.no,.faddr 3 3 (.t P7_10),some P7_80⟩,
 ⟨.no,.ixArr 3 1 (.t P7_80) (.c (.int .i64 (.ofNat 2))),some P7_81⟩,
 ⟨.no,.load false 1 (.t P7_81),some P7_82⟩,
 ⟨.no,.call (.c (.fn f_catalog_unpack [] [])) [(.t P7_82)],some P7_83⟩,
 ⟨.no,.mv (.t P7_83),some P7_79⟩,
 ⟨.no,.extr (.t P7_79) 0,some P7_84⟩,
 ⟨.no,.extr (.t P7_79) 1,some P7_85⟩,
 ⟨.no,.faddr 3 1 (.t P7_12),some P7_86⟩,
 ⟨.no,.store 1 (.t P7_86) (.t P7_84),none⟩,
 ⟨.no,.faddr 4 1 (.t P7_12),some P7_87⟩,
 ⟨.no,.store 1 (.t P7_87) (.t P7_85),none⟩])
 (.draw [] 14 [⟨⟨.no,.mv (.t P7_6),some P7_88⟩,.val,0,1⟩,
 ⟨⟨.no,.mv (.t P7_11),some P7_89⟩,.val,0,1⟩,
 ⟨⟨.no,.mv (.t P7_6),some P7_90⟩,.val,0,0⟩,
 ⟨⟨.no,.mv (.t P7_11),some P7_91⟩,.val,0,0⟩,
 ⟨⟨.no,.ixSl 5 (.t P7_90) (.t P7_91),some P7_92⟩,.val,0,0⟩,
 ⟨⟨.no,.faddr 4 1 (.t P7_92),some P7_93⟩,.val,0,0⟩,
 ⟨⟨.no,.load false 1 (.t P7_93),some P7_94⟩,.read,0,0⟩,
 ⟨⟨.no,.load true 5 (.t P7_12),some P7_95⟩,.read,0,0⟩,
 ⟨⟨.no,.buildSl 1 [(.str []),(.int .i64 (.ofNat 0)),(.int .u32 (.ofNat 0)),(.sl 0 [] .nil),(.bool false)] [(0,5,(.t P7_95))],some P7_96⟩,.val,0,0⟩,
 ⟨⟨.no,.app 5 64 false (.t P7_94) (.t P7_96),some P7_97⟩,.eff,0,1⟩,
 ⟨⟨.no,.ixSl 5 (.t P7_88) (.t P7_89),some P7_98⟩,.val,1,1⟩,
 ⟨⟨.no,.faddr 4 1 (.t P7_98),some P7_99⟩,.val,1,1⟩,
 ⟨⟨.no,.store 1 (.t P7_99) (.t P7_97),none⟩,.eff,1,2⟩]))))))))
 (.reg [⟨.no,.bin .add (.t P7_54) (.c (.int .i64 (.ofNat 1))),some P7_100⟩,
 ⟨.no,.mv (.t P7_100),some P7_54⟩])))))))
 (.seq (.seq (.reg [⟨.no,.mv (.t P7_6),some P7_101⟩,
 ⟨.no,.len .sl (.t P7_101),some P7_102⟩,
 ⟨.no,.mv (.c (.int .i64 (.ofNat 0))),some P7_103⟩])
 (.block 4 (.loop (.seq (.reg [⟨.no,.bin .lss (.t P7_103) (.t P7_102),some P7_104⟩])
 (.seq (.cond (.t P7_104) .skip
 (.exit 4))
 (.seq (.block 5 (.seq (.reg [⟨.no,.mv (.t P7_103),some P7_105⟩,
 ⟨.no,.mv (.t P7_105),some P7_13⟩])
 (.reg [⟨.no,.mv (.t P7_6),some P7_106⟩,
 ⟨.no,.mv (.t P7_13),some P7_107⟩,
 ⟨.no,.ixSl 5 (.t P7_106) (.t P7_107),some P7_108⟩,
 ⟨.no,.faddr 4 1 (.t P7_108),some P7_109⟩,
 ⟨.no,.load false 1 (.t P7_109),some P7_110⟩,
 ⟨.no,.call (.c (.fn f_slices_SortFunc_api_Index [] [])) [(.t P7_110),(.c (.fn f_catalog_All_c3 [] []))],some P7_111⟩])))
 (.reg [⟨.no,.bin .add (.t P7_103) (.c (.int .i64 (.ofNat 1))),some P7_112⟩,
 ⟨.no,.mv (.t P7_112),some P7_103⟩])))))))
 (.seq (.reg [⟨.no,.mv (.t P7_6),some P7_113⟩,
 ⟨.no,.mv (.t P7_113),some P7_2⟩,
 ⟨.no,.mv (.c (.int .i64 (.ofNat 0))),some P7_3⟩])
 .ret))))))))), [.t P7_2,.t P7_3], 0, false, false⟩
noncomputable def rf_slices_IndexFunc_api_Table : RFn := ⟨apOf 5 0 2, mkU 5, (.seq (.reg [⟨.no,.mv (.c (.int .i64 (.ofNat 0))),some P5_4⟩])
 (.seq (.seq (.reg [⟨.no,.mv (.t P5_0),some P5_6⟩,
 ⟨.no,.len .sl (.t P5_6),some P5_7⟩,
 ⟨.no,.mv (.c (.int .i64 (.ofNat 0))),some P5_8⟩])
 (.block 0 (.loop (.seq (.reg [⟨.no,.bin .lss (.t P5_8) (.t P5_7),some P5_9⟩])
 (.seq (.cond (.t P5_9) .skip
 (.exit 0))
 (.seq (.block 1 (.seq (.reg [⟨.no,.mv (.t P5_8),some P5_10⟩,
 ⟨.no,.mv (.t P5_10),some P5_5⟩])
 (.seq (.reg [⟨.no,.mv (.t P5_1),some P5_11⟩,
 ⟨.no,.mv (.t P5_0),some P5_12⟩,
 ⟨.no,.mv (.t P5_5),some P5_13⟩,
 ⟨.no,.ixSl 5 (.t P5_12) (.t P5_13),some P5_14⟩,
 ⟨.no,.load true 5 (.t P5_14),some P5_15⟩,
 ⟨.no,.call (.t P5_11) [(.t P5_15)],some P5_16⟩])
 (.cond (.t P5_16) (.seq (.reg [⟨.no,.mv (.t P5_5),some P5_17⟩,
 ⟨.no,.mv (.t P5_17),some P5_4⟩])
 .ret)
 .skip))))
 (.reg [⟨.no,.bin .add (.t P5_8) (.c (.int .i64 (.ofNat 1))),some P5_18⟩,
 ⟨.no,.mv (.t P5_18),some P5_8⟩])))))))
 (.seq (.reg [⟨.no,.mv (.c (.int .i64 (.negSucc 0))),some P5_4⟩])
 .ret))), [.t P5_4], 0, false, false⟩
noncomputable def rf_catalog_Find_c1 : RFn := ⟨apOf 3 0 2, mkU 3, (.seq (.reg [⟨.no,.box (.t P3_0),some P3_2⟩,
 ⟨.no,.mv (.c (.bool false)),some P3_3⟩])
 (.seq (.reg [⟨.no,.faddr 0 1 (.t P3_2),some P3_4⟩,
 ⟨.no,.load false 1 (.t P3_4),some P3_5⟩,
 ⟨.no,.load false 1 (.t P3_1),some P3_6⟩,
 ⟨.no,.eq .str (.t P3_5) (.t P3_6),some P3_7⟩,
 ⟨.no,.mv (.t P3_7),some P3_3⟩])
 .ret)), [.t P3_3], 0, false, false⟩
noncomputable def rf_disk_Disk_ReadLog : RFn := ⟨apOf 4 0 1, mkU 4, (.seq (.reg [⟨.no,.mv (.c (.str [])),some P4_2⟩,
 ⟨.no,.mv (.c (.int .i64 (.ofNat 0))),some P4_3⟩])
 (.seq (.seq (.reg [⟨.no,.mv (.t P4_0),some P4_4⟩,
 ⟨.no,.call (.c (.fn f_disk_Disk_Dead [] [])) [(.t P4_4)],some P4_5⟩])
 (.cond (.t P4_5) (.seq (.reg [⟨.no,.mv (.c (.str [])),some P4_2⟩,
 ⟨.no,.mv (.c (.int .i64 (.ofNat 7))),some P4_3⟩])
 .ret)
 .skip))
 (.seq (.draw [] 12 [⟨⟨.no,.mv (.t P4_0),some P4_6⟩,.val,0,0⟩,
 ⟨⟨.no,.nilc (.t P4_6),some P4_7⟩,.val,0,0⟩,
 ⟨⟨.no,.faddr 4 1 (.t P4_7),some P4_8⟩,.val,0,0⟩,
 ⟨⟨.no,.load false 1 (.t P4_8),some P4_9⟩,.read,0,0⟩,
 ⟨⟨.no,.mv (.t P4_0),some P4_10⟩,.val,0,0⟩,
 ⟨⟨.no,.nilc (.t P4_10),some P4_11⟩,.val,0,0⟩,
 ⟨⟨.no,.faddr 5 1 (.t P4_11),some P4_12⟩,.val,0,0⟩,
 ⟨⟨.no,.load false 1 (.t P4_12),some P4_13⟩,.read,0,0⟩,
 ⟨⟨.no,.bin .add (.t P4_9) (.t P4_13),some P4_14⟩,.val,0,0⟩,
 ⟨⟨.no,.mv (.t P4_14),some P4_2⟩,.val,0,0⟩,
 ⟨⟨.no,.mv (.c (.int .i64 (.ofNat 0))),some P4_3⟩,.val,0,0⟩])
 .ret))), [.t P4_2,.t P4_3], 0, false, false⟩
noncomputable def rf_wal_Log_put : RFn := ⟨apOf 6 0 2, mkU 6, (.seq (.reg [⟨.no,.mv (.c (.int .u64 (.ofNat 0))),some P6_4⟩])
 (.seq (.reg [⟨.no,.mv (.t P6_0),some P6_6⟩,
 ⟨.no,.nilc (.t P6_6),some P6_7⟩,
 ⟨.no,.faddr 3 1 (.t P6_7),some P6_8⟩,
 ⟨.no,.load false 1 (.t P6_8),some P6_9⟩,
 ⟨.no,.mv (.t P6_9),some P6_5⟩])
 (.seq (.draw [] 23 [⟨⟨.no,.mv (.t P6_0),some P6_10⟩,.val,0,2⟩,
 ⟨⟨.no,.mv (.t P6_0),some P6_11⟩,.val,0,3⟩,
 ⟨⟨.no,.mv (.t P6_0),some P6_12⟩,.val,0,0⟩,
 ⟨⟨.no,.nilc (.t P6_12),some P6_13⟩,.val,0,0⟩,
 ⟨⟨.no,.faddr 1 1 (.t P6_13),some P6_14⟩,.val,0,0⟩,
 ⟨⟨.no,.load false 1 (.t P6_14),some P6_15⟩,.read,0,0⟩,
 ⟨⟨.no,.mv (.t P6_1),some P6_16⟩,.val,0,0⟩,
 ⟨⟨.no,.buildSl 1 [(.str [])] [(0,1,(.t P6_16))],some P6_17⟩,.val,0,0⟩,
 ⟨⟨.no,.app 1 16 false (.t P6_15) (.t P6_17),some P6_18⟩,.eff,0,1⟩,
 ⟨⟨.no,.mv (.t P6_0),some P6_19⟩,.val,0,1⟩,
 ⟨⟨.no,.nilc (.t P6_19),some P6_20⟩,.val,0,1⟩,
 ⟨⟨.no,.faddr 2 1 (.t P6_20),some P6_21⟩,.val,0,1⟩,
 ⟨⟨.no,.load false 1 (.t P6_21),some P6_22⟩,.read,0,1⟩,
 ⟨⟨.no,.mv (.t P6_5),some P6_23⟩,.val,0,1⟩,
 ⟨⟨.no,.buildSl 1 [(.int .u64 (.ofNat 0))] [(0,1,(.t P6_23))],some P6_24⟩,.val,0,1⟩,
 ⟨⟨.no,.app 1 8 false (.t P6_22) (.t P6_24),some P6_25⟩,.eff,1,2⟩,
 ⟨⟨.no,.nilc (.t P6_10),some P6_26⟩,.val,2,2⟩,
 ⟨⟨.no,.faddr 1 1 (.t P6_26),some P6_27⟩,.val,2,2⟩,
 ⟨⟨.no,.store 1 (.t P6_27) (.t P6_18),none⟩,.eff,2,3⟩,
 ⟨⟨.no,.nilc (.t P6_11),some P6_28⟩,.val,3,3⟩,
 ⟨⟨.no,.faddr 2 1 (.t P6_28),some P6_29⟩,.val,3,3⟩,
 ⟨⟨.no,.store 1 (.t P6_29) (.t P6_25),none⟩,.eff,3,4⟩])
 (.seq (.reg [⟨.no,.mv (.t P6_0),some P6_30⟩,
 ⟨.no,.nilc (.t P6_30),some P6_31⟩,
 ⟨.no,.faddr 3 1 (.t P6_31),some P6_32⟩,
 ⟨.no,.load false 1 (.t P6_32),some P6_33⟩,
 ⟨.no,.mv (.t P6_1),some P6_34⟩,
 ⟨.no,.len .str (.t P6_34),some P6_35⟩,
 ⟨.no,.bin .add (.t P6_35) (.c (.int .i64 (.ofNat 12))),some P6_36⟩,
 ⟨.no,.conv (.toInt .u64) (.t P6_36),some P6_37⟩,
 ⟨.no,.bin .add (.t P6_33) (.t P6_37),some P6_38⟩,
 ⟨.no,.nilc (.t P6_30),some P6_39⟩,
 ⟨.no,.faddr 3 1 (.t P6_39),some P6_40⟩,
 ⟨.no,.store 1 (.t P6_40) (.t P6_38),none⟩])
 (.seq (.reg [⟨.no,.mv (.t P6_5),some P6_41⟩,
 ⟨.no,.mv (.t P6_41),some P6_4⟩])
 .ret))))), [.t P6_4], 0, false, false⟩
noncomputable def rf_disk_Disk_SyncLog : RFn := ⟨apOf 5 0 1, mkU 5, (.seq (.reg [⟨.no,.mv (.c (.int .i64 (.ofNat 0))),some P5_2⟩])
 (.seq (.seq (.reg [⟨.no,.mv (.t P5_0),some P5_3⟩,
 ⟨.no,.call (.c (.fn f_disk_Disk_Dead [] [])) [(.t P5_3)],some P5_4⟩,
 ⟨.no,.mv (.t P5_4),some P5_5⟩,
 ⟨(.on P5_5 false),.mv (.t P5_0),some P5_6⟩,
 ⟨(.on P5_5 false),.call (.c (.fn f_disk_Disk_strikes [] [])) [(.t P5_6)],some P5_7⟩,
 ⟨.no,.pick (.t P5_5) (.c (.bool true)) (.t P5_7),some P5_8⟩])
 (.cond (.t P5_8) (.seq (.reg [⟨.no,.mv (.c (.int .i64 (.ofNat 7))),some P5_2⟩])
 .ret)
 .skip))
 (.seq (.draw [] 18 [⟨⟨.no,.mv (.t P5_0),some P5_9⟩,.val,0,0⟩,
 ⟨⟨.no,.mv (.t P5_0),some P5_10⟩,.val,0,1⟩,
 ⟨⟨.no,.mv (.t P5_0),some P5_11⟩,.val,0,0⟩,
 ⟨⟨.no,.nilc (.t P5_11),some P5_12⟩,.val,0,0⟩,
 ⟨⟨.no,.faddr 4 1 (.t P5_12),some P5_13⟩,.val,0,0⟩,
 ⟨⟨.no,.load false 1 (.t P5_13),some P5_14⟩,.read,0,0⟩,
 ⟨⟨.no,.mv (.t P5_0),some P5_15⟩,.val,0,0⟩,
 ⟨⟨.no,.nilc (.t P5_15),some P5_16⟩,.val,0,0⟩,
 ⟨⟨.no,.faddr 5 1 (.t P5_16),some P5_17⟩,.val,0,0⟩,
 ⟨⟨.no,.load false 1 (.t P5_17),some P5_18⟩,.read,0,0⟩,
 ⟨⟨.no,.bin .add (.t P5_14) (.t P5_18),some P5_19⟩,.val,0,0⟩,
 ⟨⟨.no,.nilc (.t P5_9),some P5_20⟩,.val,0,0⟩,
 ⟨⟨.no,.faddr 4 1 (.t P5_20),some P5_21⟩,.val,0,0⟩,
 ⟨⟨.no,.store 1 (.t P5_21) (.t P5_19),none⟩,.eff,0,1⟩,
 ⟨⟨.no,.nilc (.t P5_10),some P5_22⟩,.val,1,1⟩,
 ⟨⟨.no,.faddr 5 1 (.t P5_22),some P5_23⟩,.val,1,1⟩,
 ⟨⟨.no,.store 1 (.t P5_23) (.c (.str [])),none⟩,.eff,1,2⟩])
 (.seq (.reg [⟨.no,.mv (.c (.int .i64 (.ofNat 0))),some P5_2⟩])
 .ret)))), [.t P5_2], 0, false, false⟩
noncomputable def rf_wal_Log_find : RFn := ⟨apOf 4 0 2, mkU 4, (.seq (.reg [⟨.no,.mv (.c (.int .i64 (.ofNat 0))),some P4_4⟩,
 ⟨.no,.mv (.c (.bool false)),some P4_5⟩])
 (.seq (.seq (.reg [⟨.no,.mv (.t P4_0),some P4_6⟩,
 ⟨.no,.eq .ptr (.t P4_6) (.c .nilp),some P4_7⟩])
 (.cond (.t P4_7) (.seq (.reg [⟨.no,.mv (.c (.int .i64 (.ofNat 0))),some P4_4⟩,
 ⟨.no,.mv (.c (.bool false)),some P4_5⟩])
 .ret)
 .skip))
 (.seq (.reg [⟨.no,.mv (.t P4_0),some P4_8⟩,
 ⟨.no,.nilc (.t P4_8),some P4_9⟩,
 ⟨.no,.faddr 2 1 (.t P4_9),some P4_10⟩,
 ⟨.no,.load false 1 (.t P4_10),some P4_11⟩,
 ⟨.no,.mv (.t P4_1),some P4_12⟩,
 ⟨.no,.call (.c (.fn f_slices_BinarySearch_api_LSN [] [])) [(.t P4_11),(.t P4_12)],some P4_13⟩,
 ⟨.no,.extr (.t P4_13) 0,some P4_14⟩,
 ⟨.no,.extr (.t P4_13) 1,some P4_15⟩,
 ⟨.no,.mv (.t P4_14),some P4_4⟩,
 ⟨.no,.mv (.t P4_15),some P4_5⟩])
 .ret))), [.t P4_4,.t P4_5], 0, false, false⟩
noncomputable def rf_pool_Pool_Log : RFn := ⟨apOf 4 0 1, mkU 4, (.seq (.reg [⟨.no,.mv (.c .nilp),some P4_2⟩])
 (.seq (.seq (.reg [⟨.no,.mv (.t P4_0),some P4_3⟩,
 ⟨.no,.eq .ptr (.t P4_3) (.c .nilp),some P4_4⟩])
 (.cond (.t P4_4) (.seq (.reg [⟨.no,.mv (.c .nilp),some P4_2⟩])
 .ret)
 .skip))
 (.seq (.reg [⟨.no,.mv (.t P4_0),some P4_5⟩,
 ⟨.no,.nilc (.t P4_5),some P4_6⟩,
 ⟨.no,.faddr 1 1 (.t P4_6),some P4_7⟩,
 ⟨.no,.load false 1 (.t P4_7),some P4_8⟩,
 ⟨.no,.mv (.t P4_8),some P4_2⟩])
 .ret))), [.t P4_2], 0, false, false⟩
noncomputable def rf_txn_Manager_Log : RFn := ⟨apOf 7 0 3, mkU 7, (.seq (.reg [⟨.no,.box (.t P7_2),some P7_5⟩,
 ⟨.no,.mv (.c (.int .u64 (.ofNat 0))),some P7_6⟩,
 ⟨.no,.mv (.c (.int .i64 (.ofNat 0))),some P7_7⟩])
 (.seq (.reg [⟨.no,.mv (.t P7_0),some P7_16⟩,
 ⟨.no,.mv (.t P7_1),some P7_17⟩,
 ⟨.no,.call (.c (.fn f_txn_Manager_find [] [])) [(.t P7_16),(.t P7_17)],some P7_18⟩,
 ⟨.no,.mv (.t P7_18),some P7_15⟩,
 ⟨.no,.extr (.t P7_15) 0,some P7_19⟩,
 ⟨.no,.extr (.t P7_15) 1,some P7_20⟩,
 ⟨.no,.mv (.t P7_19),some P7_8⟩,
 ⟨.no,.mv (.t P7_20),some P7_9⟩])
 (.seq (.seq (.reg [⟨.no,.mv (.t P7_9),some P7_21⟩,
 ⟨.no,.ne .int (.t P7_21) (.c (.int .i64 (.ofNat 0))),some P7_22⟩])
 (.cond (.t P7_22) (.seq (.reg [⟨.no,.mv (.t P7_9),some P7_23⟩,
 ⟨.no,.mv (.c (.int .u64 (.ofNat 0))),some P7_6⟩,
 ⟨.no,.mv (.t P7_23),some P7_7⟩])
 .ret)
 .skip))
 (.seq (.seq (.reg [⟨.no,.mv (.t P7_8),some P7_24⟩,
 ⟨.no,.nilc (.t P7_24),some P7_25⟩,
 ⟨.no,.faddr 0 4 (.t P7_25),some P7_26⟩,
 ⟨.no,.faddr 1 1 (.t P7_26),some P7_27⟩,
 ⟨.no,.load false 1 (.t P7_27),some P7_28⟩,
 ⟨.no,.ne .int (.t P7_28) (.c (.int .i64 (.ofNat 1))),some P7_29⟩])
 (.cond (.t P7_29) (.seq (.reg [⟨.no,.mv (.c (.int .u64 (.ofNat 0))),some P7_6⟩,
 ⟨.no,.mv (.c (.int .i64 (.ofNat 91))),some P7_7⟩])
 .ret)
 .skip))
 (.seq (.reg [⟨.no,.faddr 0 1 (.t P7_5),some P7_30⟩,
 ⟨.no,.load false 1 (.t P7_30),some P7_31⟩,
 ⟨.no,.faddr 1 4 (.t P7_5),some P7_32⟩,
 ⟨.no,.load true 4 (.t P7_32),some P7_33⟩,
 ⟨.no,.faddr 5 1 (.t P7_5),some P7_34⟩,
 ⟨.no,.load false 1 (.t P7_34),some P7_35⟩,
 ⟨.no,.faddr 6 1 (.t P7_5),some P7_36⟩,
 ⟨.no,.load false 1 (.t P7_36),some P7_37⟩,
 ⟨.no,.faddr 7 3 (.t P7_5),some P7_38⟩,
 ⟨.no,.load true 3 (.t P7_38),some P7_39⟩,
 ⟨.no,.faddr 10 1 (.t P7_5),some P7_40⟩,
 ⟨.no,.load false 1 (.t P7_40),some P7_41⟩,
 ⟨.no,.build [(.int .i64 (.ofNat 0)),(.int .i64 (.ofNat 0)),(.int .u64 (.ofNat 0)),(.int .u64 (.ofNat 0)),(.int .u32 (.ofNat 0)),(.int .i64 (.ofNat 0)),(.int .i64 (.ofNat 0)),(.str []),(.str []),(.int .i64 (.ofNat 0)),(.int .i64 (.ofNat 0)),(.str []),(.int .u32 (.ofNat 0)),(.int .i64 (.ofNat 0)),(.bool false),(.sl 0 [] .nil),(.sl 0 [] .nil)] [(0,1,(.c (.int .i64 (.ofNat 1)))),(4,1,(.t P7_31)),(5,4,(.t P7_33)),(9,1,(.t P7_35)),(10,1,(.t P7_37)),(11,3,(.t P7_39)),(14,1,(.t P7_41))],some P7_42⟩,
 ⟨.no,.alloc [(.int .i64 (.ofNat 0)),(.int .i64 (.ofNat 0)),(.int .u64 (.ofNat 0)),(.int .u64 (.ofNat 0)),(.int .u32 (.ofNat 0)),(.int .i64 (.ofNat 0)),(.int .i64 (.ofNat 0)),(.str []),(.str []),(.int .i64 (.ofNat 0)),(.int .i64 (.ofNat 0)),(.str []),(.int .u32 (.ofNat 0)),(.int .i64 (.ofNat 0)),(.bool false),(.sl 0 [] .nil),(.sl 0 [] .nil)],some P7_10⟩,
 ⟨.no,.store 17 (.t P7_10) (.t P7_42),none⟩])
 (.seq (.reg [⟨.no,.load true 17 (.t P7_10),some P7_44⟩,
 ⟨.no,.call (.c (.fn f_rec_Long [] [])) [(.t P7_44)],some P7_45⟩,
 ⟨.no,.mv (.t P7_45),some P7_43⟩,
 ⟨.no,.extr (.t P7_43) 0,some P7_46⟩,
 ⟨.no,.extr (.t P7_43) 1,some P7_47⟩,
 ⟨.no,.mv (.t P7_46),some P7_11⟩,
 ⟨.no,.mv (.t P7_47),some P7_9⟩])
 (.seq (.seq (.reg [⟨.no,.mv (.t P7_9),some P7_48⟩,
 ⟨.no,.ne .int (.t P7_48) (.c (.int .i64 (.ofNat 0))),some P7_49⟩])
 (.cond (.t P7_49) (.seq (.reg [⟨.no,.mv (.t P7_9),some P7_50⟩,
 ⟨.no,.mv (.c (.int .u64 (.ofNat 0))),some P7_6⟩,
 ⟨.no,.mv (.t P7_50),some P7_7⟩])
 .ret)
 .skip))
 (.seq (.reg [⟨.no,.mv (.c (.int .i64 (.ofNat 0))),some P7_12⟩])
 (.seq (.seq (.reg [⟨.no,.faddr 5 1 (.t P7_5),some P7_51⟩,
 ⟨.no,.load false 1 (.t P7_51),some P7_52⟩,
 ⟨.no,.ne .int (.t P7_52) (.c (.int .i64 (.ofNat 0))),some P7_53⟩])
 (.cond (.t P7_53) (.reg [⟨.no,.mv (.t P7_11),some P7_54⟩,
 ⟨.no,.bin .add (.t P7_54) (.c (.int .i64 (.ofNat 160))),some P7_55⟩,
 ⟨.no,.mv (.t P7_55),some P7_12⟩])
 .skip))
 (.seq (.seq (.reg [⟨.no,.mv (.t P7_0),some P7_56⟩,
 ⟨.no,.nilc (.t P7_56),some P7_57⟩,
 ⟨.no,.faddr 0 1 (.t P7_57),some P7_58⟩,
 ⟨.no,.load false 1 (.t P7_58),some P7_59⟩,
 ⟨.no,.mv (.t P7_12),some P7_60⟩,
 ⟨.no,.call (.c (.fn f_wal_Log_Keep [] [])) [(.t P7_59),(.t P7_60)],some P7_61⟩,
 ⟨.no,.mv (.t P7_61),some P7_13⟩])
 (.seq (.reg [⟨.no,.mv (.t P7_13),some P7_62⟩,
 ⟨.no,.ne .int (.t P7_62) (.c (.int .i64 (.ofNat 0))),some P7_63⟩])
 (.cond (.t P7_63) (.seq (.reg [⟨.no,.mv (.t P7_13),some P7_64⟩,
 ⟨.no,.mv (.c (.int .u64 (.ofNat 0))),some P7_6⟩,
 ⟨.no,.mv (.t P7_64),some P7_7⟩])
 .ret)
 .skip)))
 (.seq (.reg [⟨.no,.mv (.t P7_0),some P7_66⟩,
 ⟨.no,.mv (.t P7_8),some P7_67⟩,
 ⟨.no,.load true 17 (.t P7_10),some P7_68⟩,
 ⟨.no,.call (.c (.fn f_txn_Manager_change [] [])) [(.t P7_66),(.t P7_67),(.t P7_68),(.c (.bool false))],some P7_69⟩,
 ⟨.no,.mv (.t P7_69),some P7_65⟩,
 ⟨.no,.extr (.t P7_65) 0,some P7_70⟩,
 ⟨.no,.extr (.t P7_65) 1,some P7_71⟩,
 ⟨.no,.mv (.t P7_70),some P7_14⟩,
 ⟨.no,.mv (.t P7_71),some P7_9⟩])
 (.seq (.seq (.reg [⟨.no,.mv (.t P7_9),some P7_72⟩,
 ⟨.no,.ne .int (.t P7_72) (.c (.int .i64 (.ofNat 0))),some P7_73⟩])
 (.cond (.t P7_73) (.seq (.reg [⟨.no,.mv (.t P7_0),some P7_74⟩,
 ⟨.no,.nilc (.t P7_74),some P7_75⟩,
 ⟨.no,.faddr 0 1 (.t P7_75),some P7_76⟩,
 ⟨.no,.load false 1 (.t P7_76),some P7_77⟩,
 ⟨.no,.mv (.t P7_12),some P7_78⟩,
 ⟨.no,.call (.c (.fn f_wal_Log_Give [] [])) [(.t P7_77),(.t P7_78)],some P7_79⟩])
 (.seq (.reg [⟨.no,.mv (.t P7_9),some P7_80⟩,
 ⟨.no,.mv (.c (.int .u64 (.ofNat 0))),some P7_6⟩,
 ⟨.no,.mv (.t P7_80),some P7_7⟩])
 .ret))
 .skip))
 (.seq (.reg [⟨.no,.mv (.t P7_8),some P7_81⟩,
 ⟨.no,.nilc (.t P7_81),some P7_82⟩,
 ⟨.no,.faddr 4 1 (.t P7_82),some P7_83⟩,
 ⟨.no,.load false 1 (.t P7_83),some P7_84⟩,
 ⟨.no,.mv (.t P7_12),some P7_85⟩,
 ⟨.no,.bin .add (.t P7_84) (.t P7_85),some P7_86⟩,
 ⟨.no,.nilc (.t P7_81),some P7_87⟩,
 ⟨.no,.faddr 4 1 (.t P7_87),some P7_88⟩,
 ⟨.no,.store 1 (.t P7_88) (.t P7_86),none⟩])
 (.seq (.reg [⟨.no,.mv (.t P7_8),some P7_89⟩,
 ⟨.no,.mv (.t P7_14),some P7_90⟩,
 ⟨.no,.nilc (.t P7_89),some P7_91⟩,
 ⟨.no,.faddr 0 4 (.t P7_91),some P7_92⟩,
 ⟨.no,.faddr 3 1 (.t P7_92),some P7_93⟩,
 ⟨.no,.store 1 (.t P7_93) (.t P7_90),none⟩])
 (.seq (.reg [⟨.no,.mv (.t P7_14),some P7_94⟩,
 ⟨.no,.mv (.t P7_94),some P7_6⟩,
 ⟨.no,.mv (.c (.int .i64 (.ofNat 0))),some P7_7⟩])
 .ret))))))))))))))), [.t P7_6,.t P7_7], 0, false, false⟩
noncomputable def rf_smo_ready : RFn := ⟨apOf 7 0 5, mkU 7, (.seq (.reg [⟨.no,.box (.t P7_2),some P7_7⟩,
 ⟨.no,.box (.t P7_3),some P7_8⟩,
 ⟨.no,.mv (.c (.int .u32 (.ofNat 0))),some P7_10⟩,
 ⟨.no,.mv (.c (.int .i64 (.ofNat 0))),some P7_11⟩])
 (.seq (.draw [[(.int .u32 (.ofNat 0)),(.int .u64 (.ofNat 0)),(.int .i64 (.ofNat 0)),(.str []),(.sl 0 [] .nil)]] 11 [⟨⟨.no,.mv (.t P7_0),some P7_24⟩,.val,0,0⟩,
 ⟨⟨.no,.call (.c (.fn f_txn_Manager_Pool [] [])) [(.t P7_24)],some P7_25⟩,.eff,0,1⟩,
 ⟨⟨.no,.load false 1 (.t P7_7),some P7_26⟩,.read,0,1⟩,
 ⟨⟨.no,.call (.c (.fn f_pool_Pool_Get [] [])) [(.t P7_25),(.t P7_26)],some P7_27⟩,.eff,1,2⟩,
 ⟨⟨.no,.mv (.t P7_27),some P7_23⟩,.val,2,2⟩,
 ⟨⟨.no,.extr (.t P7_23) 0,some P7_28⟩,.val,2,2⟩,
 ⟨⟨.no,.extr (.t P7_23) 1,some P7_29⟩,.val,2,3⟩,
 ⟨⟨.no,.alloc [(.int .u32 (.ofNat 0)),(.int .u64 (.ofNat 0)),(.int .i64 (.ofNat 0)),(.str []),(.sl 0 [] .nil)],some P7_12⟩,.alloc,0,2⟩,
 ⟨⟨.no,.store 5 (.t P7_12) (.t P7_28),none⟩,.eff,2,3⟩,
 ⟨⟨.no,.mv (.t P7_29),some P7_13⟩,.val,3,3⟩])
 (.seq (.seq (.reg [⟨.no,.mv (.t P7_13),some P7_30⟩,
 ⟨.no,.ne .int (.t P7_30) (.c (.int .i64 (.ofNat 0))),some P7_31⟩])
 (.cond (.t P7_31) (.seq (.reg [⟨.no,.mv (.t P7_13),some P7_32⟩,
 ⟨.no,.mv (.c (.int .u32 (.ofNat 0))),some P7_10⟩,
 ⟨.no,.mv (.t P7_32),some P7_11⟩])
 .ret)
 .skip))
 (.seq (.seq (.reg [⟨.no,.faddr 2 1 (.t P7_12),some P7_33⟩,
 ⟨.no,.load false 1 (.t P7_33),some P7_34⟩,
 ⟨.no,.eq .int (.t P7_34) (.c (.int .i64 (.ofNat 3))),some P7_35⟩,
 ⟨.no,.mv (.t P7_35),some P7_36⟩,
 ⟨(.on P7_36 true),.load true 5 (.t P7_12),some P7_37⟩,
 ⟨(.on P7_36 true),.call (.c (.fn f_node_Full [] [])) [(.t P7_37)],some P7_38⟩,
 ⟨.no,.pick (.t P7_36) (.t P7_38) (.c (.bool false)),some P7_39⟩])
 (.cond (.t P7_39) (.seq (.seq (.reg [⟨.no,.mv (.t P7_0),some P7_41⟩,
 ⟨.no,.mv (.t P7_1),some P7_42⟩,
 ⟨.no,.load false 1 (.t P7_7),some P7_43⟩,
 ⟨.no,.mv (.t P7_4),some P7_44⟩,
 ⟨.no,.call (.c (.fn f_smo_clean [] [])) [(.t P7_41),(.t P7_42),(.t P7_43),(.t P7_44)],some P7_45⟩,
 ⟨.no,.mv (.t P7_45),some P7_40⟩,
 ⟨.no,.extr (.t P7_40) 0,some P7_46⟩,
 ⟨.no,.extr (.t P7_40) 1,some P7_47⟩,
 ⟨.no,.mv (.t P7_46),some P7_14⟩,
 ⟨.no,.mv (.t P7_47),some P7_15⟩])
 (.seq (.reg [⟨.no,.mv (.t P7_15),some P7_48⟩,
 ⟨.no,.ne .int (.t P7_48) (.c (.int .i64 (.ofNat 0))),some P7_49⟩])
 (.cond (.t P7_49) (.seq (.reg [⟨.no,.mv (.t P7_15),some P7_50⟩,
 ⟨.no,.mv (.c (.int .u32 (.ofNat 0))),some P7_10⟩,
 ⟨.no,.mv (.t P7_50),some P7_11⟩])
 .ret)
 .skip)))
 (.draw [] 9 [⟨⟨.no,.mv (.t P7_0),some P7_52⟩,.val,0,0⟩,
 ⟨⟨.no,.call (.c (.fn f_txn_Manager_Pool [] [])) [(.t P7_52)],some P7_53⟩,.eff,0,1⟩,
 ⟨⟨.no,.load false 1 (.t P7_7),some P7_54⟩,.read,0,1⟩,
 ⟨⟨.no,.call (.c (.fn f_pool_Pool_Get [] [])) [(.t P7_53),(.t P7_54)],some P7_55⟩,.eff,1,2⟩,
 ⟨⟨.no,.mv (.t P7_55),some P7_51⟩,.val,2,2⟩,
 ⟨⟨.no,.extr (.t P7_51) 0,some P7_56⟩,.val,2,2⟩,
 ⟨⟨.no,.extr (.t P7_51) 1,some P7_57⟩,.val,2,3⟩,
 ⟨⟨.no,.store 5 (.t P7_12) (.t P7_56),none⟩,.eff,2,3⟩]))
 .skip))
 (.seq (.seq (.reg [⟨.no,.load true 5 (.t P7_12),some P7_58⟩,
 ⟨.no,.call (.c (.fn f_node_Full [] [])) [(.t P7_58)],some P7_59⟩])
 (.cond (.t P7_59) (.seq (.reg [⟨.no,.mv (.t P7_0),some P7_60⟩,
 ⟨.no,.mv (.t P7_1),some P7_61⟩,
 ⟨.no,.fn f_smo_ready_c1 [] [(.t P7_7)],some P7_62⟩,
 ⟨.no,.call (.c (.fn f_smo_nested [] [])) [(.t P7_60),(.t P7_61),(.t P7_62)],some P7_63⟩,
 ⟨.no,.mv (.t P7_63),some P7_16⟩])
 (.seq (.reg [⟨.no,.mv (.t P7_16),some P7_64⟩,
 ⟨.no,.ne .int (.t P7_64) (.c (.int .i64 (.ofNat 0))),some P7_65⟩])
 (.cond (.t P7_65) (.seq (.reg [⟨.no,.mv (.t P7_16),some P7_66⟩,
 ⟨.no,.mv (.c (.int .u32 (.ofNat 0))),some P7_10⟩,
 ⟨.no,.mv (.t P7_66),some P7_11⟩])
 .ret)
 .skip)))
 .skip))
 (.seq (.reg [⟨.no,.load false 1 (.t P7_7),some P7_67⟩,
 ⟨.no,.mv (.t P7_67),some P7_17⟩])
 (.block 0 (.loop (.block 1 (.seq (.reg [⟨.no,.mv (.t P7_0),some P7_69⟩,
 ⟨.no,.call (.c (.fn f_txn_Manager_Pool [] [])) [(.t P7_69)],some P7_70⟩,
 ⟨.no,.mv (.t P7_17),some P7_71⟩,
 ⟨.no,.call (.c (.fn f_pool_Pool_Get [] [])) [(.t P7_70),(.t P7_71)],some P7_72⟩,
 ⟨.no,.mv (.t P7_72),some P7_68⟩,
 ⟨.no,.extr (.t P7_68) 0,some P7_73⟩,
 ⟨.no,.extr (.t P7_68) 1,some P7_74⟩,
 ⟨.no,.alloc [(.int .u32 (.ofNat 0)),(.int .u64 (.ofNat 0)),(.int .i64 (.ofNat 0)),(.str []),(.sl 0 [] .nil)],some P7_18⟩,
 ⟨.no,.store 5 (.t P7_18) (.t P7_73),none⟩,
 ⟨.no,.mv (.t P7_74),some P7_19⟩])
 (.seq (.seq (.reg [⟨.no,.mv (.t P7_19),some P7_75⟩,
 ⟨.no,.ne .int (.t P7_75) (.c (.int .i64 (.ofNat 0))),some P7_76⟩,
 ⟨.no,.mv (.t P7_76),some P7_77⟩,
 ⟨(.on P7_77 false),.faddr 2 1 (.t P7_18),some P7_78⟩,
 ⟨(.on P7_77 false),.load false 1 (.t P7_78),some P7_79⟩,
 ⟨(.on P7_77 false),.eq .int (.t P7_79) (.c (.int .i64 (.ofNat 3))),some P7_80⟩,
 ⟨.no,.pick (.t P7_77) (.c (.bool true)) (.t P7_80),some P7_81⟩])
 (.cond (.t P7_81) (.seq (.reg [⟨.no,.mv (.t P7_17),some P7_82⟩,
 ⟨.no,.mv (.t P7_19),some P7_83⟩,
 ⟨.no,.mv (.t P7_82),some P7_10⟩,
 ⟨.no,.mv (.t P7_83),some P7_11⟩])
 .ret)
 .skip))
 (.seq (.reg [⟨.no,.load true 5 (.t P7_18),some P7_85⟩,
 ⟨.no,.call (.c (.fn f_node_Inner [] [])) [(.t P7_85)],some P7_86⟩,
 ⟨.no,.mv (.t P7_86),some P7_84⟩,
 ⟨.no,.extr (.t P7_84) 0,some P7_87⟩,
 ⟨.no,.extr (.t P7_84) 1,some P7_88⟩,
 ⟨.no,.mv (.t P7_87),some P7_20⟩,
 ⟨.no,.mv (.t P7_88),some P7_19⟩])
 (.seq (.seq (.reg [⟨.no,.mv (.t P7_19),some P7_89⟩,
 ⟨.no,.ne .int (.t P7_89) (.c (.int .i64 (.ofNat 0))),some P7_90⟩,
 ⟨.no,.mv (.t P7_90),some P7_91⟩,
 ⟨(.on P7_91 false),.mv (.t P7_20),some P7_92⟩,
 ⟨(.on P7_91 false),.len .sl (.t P7_92),some P7_93⟩,
 ⟨(.on P7_91 false),.eq .int (.t P7_93) (.c (.int .i64 (.ofNat 0))),some P7_94⟩,
 ⟨.no,.pick (.t P7_91) (.c (.bool true)) (.t P7_94),some P7_95⟩])
 (.cond (.t P7_95) (.seq (.reg [⟨.no,.mv (.c (.int .u32 (.ofNat 0))),some P7_10⟩,
 ⟨.no,.mv (.c (.int .i64 (.ofNat 120))),some P7_11⟩])
 .ret)
 .skip))
 (.seq (.reg [⟨.no,.mv (.t P7_20),some P7_96⟩,
 ⟨.no,.load true 3 (.t P7_8),some P7_97⟩,
 ⟨.no,.call (.c (.fn f_node_Down [] [])) [(.t P7_96),(.t P7_97)],some P7_98⟩,
 ⟨.no,.mv (.t P7_98),some P7_21⟩])
 (.seq (.reg [⟨.no,.mv (.t P7_0),some P7_100⟩,
 ⟨.no,.mv (.t P7_1),some P7_101⟩,
 ⟨.no,.mv (.t P7_17),some P7_102⟩,
 ⟨.no,.mv (.t P7_21),some P7_103⟩,
 ⟨.no,.mv (.t P7_20),some P7_104⟩,
 ⟨.no,.mv (.t P7_21),some P7_105⟩,
 ⟨.no,.ixSl 4 (.t P7_104) (.t P7_105),some P7_106⟩,
 ⟨.no,.faddr 0 1 (.t P7_106),some P7_107⟩,
 ⟨.no,.load false 1 (.t P7_107),some P7_108⟩,
 ⟨.no,.mv (.t P7_4),some P7_109⟩,
 ⟨.no,.call (.c (.fn f_smo_roomy [] [])) [(.t P7_100),(.t P7_101),(.t P7_102),(.t P7_103),(.t P7_108),(.t P7_109)],some P7_110⟩,
 ⟨.no,.mv (.t P7_110),some P7_99⟩,
 ⟨.no,.extr (.t P7_99) 0,some P7_111⟩,
 ⟨.no,.extr (.t P7_99) 1,some P7_112⟩,
 ⟨.no,.mv (.t P7_111),some P7_22⟩,
 ⟨.no,.mv (.t P7_112),some P7_19⟩])
 (.seq (.seq (.reg [⟨.no,.mv (.t P7_19),some P7_113⟩,
 ⟨.no,.ne .int (.t P7_113) (.c (.int .i64 (.ofNat 0))),some P7_114⟩])
 (.cond (.t P7_114) (.seq (.reg [⟨.no,.mv (.t P7_19),some P7_115⟩,
 ⟨.no,.mv (.c (.int .u32 (.ofNat 0))),some P7_10⟩,
 ⟨.no,.mv (.t P7_115),some P7_11⟩])
 .ret)
 .skip))
 (.seq (.reg [⟨.no,.mv (.t P7_22),some P7_116⟩])
 (.cond (.t P7_116) (.reg [⟨.no,.mv (.t P7_20),some P7_117⟩,
 ⟨.no,.mv (.t P7_21),some P7_118⟩,
 ⟨.no,.ixSl 4 (.t P7_117) (.t P7_118),some P7_119⟩,
 ⟨.no,.faddr 0 1 (.t P7_119),some P7_120⟩,
 ⟨.no,.load false 1 (.t P7_120),some P7_121⟩,
 ⟨.no,.mv (.t P7_121),some P7_17⟩])
 .skip)))))))))))))))))), [.t P7_10,.t P7_11], 0, false, false⟩
noncomputable def rf_node_Find : RFn := ⟨apOf 4 0 2, mkU 4, (.seq (.reg [⟨.no,.box (.t P4_1),some P4_3⟩,
 ⟨.no,.mv (.c (.int .i64 (.ofNat 0))),some P4_4⟩,
 ⟨.no,.mv (.c (.bool false)),some P4_5⟩])
 (.seq (.reg [⟨.no,.mv (.t P4_0),some P4_6⟩,
 ⟨.no,.load true 3 (.t P4_3),some P4_7⟩,
 ⟨.no,.call (.c (.fn f_slices_BinarySearchFunc_api_Item_api_Entry [] [])) [(.t P4_6),(.t P4_7),(.c (.fn f_node_Find_c1 [] []))],some P4_8⟩,
 ⟨.no,.extr (.t P4_8) 0,some P4_9⟩,
 ⟨.no,.extr (.t P4_8) 1,some P4_10⟩,
 ⟨.no,.mv (.t P4_9),some P4_4⟩,
 ⟨.no,.mv (.t P4_10),some P4_5⟩])
 .ret)), [.t P4_4,.t P4_5], 0, false, false⟩
noncomputable def rf_node_PutItem : RFn := ⟨apOf 5 0 2, mkU 5, (.seq (.reg [⟨.no,.box (.t P5_0),some P5_2⟩,
 ⟨.no,.box (.t P5_1),some P5_3⟩,
 ⟨.no,.alloc [(.int .i64 (.ofNat 0)),(.int .i64 (.ofNat 0)),(.str []),(.str [])],some P5_4⟩,
 ⟨.no,.mv (.c (.int .i64 (.ofNat 0))),some P5_5⟩])
 (.seq (.reg [⟨.no,.load true 5 (.t P5_2),some P5_11⟩,
 ⟨.no,.call (.c (.fn f_node_Leaf [] [])) [(.t P5_11)],some P5_12⟩,
 ⟨.no,.mv (.t P5_12),some P5_10⟩,
 ⟨.no,.extr (.t P5_10) 0,some P5_13⟩,
 ⟨.no,.extr (.t P5_10) 1,some P5_14⟩,
 ⟨.no,.mv (.t P5_13),some P5_6⟩,
 ⟨.no,.mv (.t P5_14),some P5_7⟩])
 (.seq (.seq (.reg [⟨.no,.mv (.t P5_7),some P5_15⟩,
 ⟨.no,.ne .int (.t P5_15) (.c (.int .i64 (.ofNat 0))),some P5_16⟩])
 (.cond (.t P5_16) (.seq (.reg [⟨.no,.build [(.int .i64 (.ofNat 0)),(.int .i64 (.ofNat 0)),(.str []),(.str [])] [],some P5_17⟩,
 ⟨.no,.mv (.t P5_7),some P5_18⟩,
 ⟨.no,.store 4 (.t P5_4) (.t P5_17),none⟩,
 ⟨.no,.mv (.t P5_18),some P5_5⟩])
 .ret)
 .skip))
 (.seq (.reg [⟨.no,.mv (.t P5_6),some P5_20⟩,
 ⟨.no,.faddr 0 3 (.t P5_3),some P5_21⟩,
 ⟨.no,.load true 3 (.t P5_21),some P5_22⟩,
 ⟨.no,.call (.c (.fn f_node_Find [] [])) [(.t P5_20),(.t P5_22)],some P5_23⟩,
 ⟨.no,.mv (.t P5_23),some P5_19⟩,
 ⟨.no,.extr (.t P5_19) 0,some P5_24⟩,
 ⟨.no,.extr (.t P5_19) 1,some P5_25⟩,
 ⟨.no,.mv (.t P5_24),some P5_8⟩,
 ⟨.no,.mv (.t P5_25),some P5_9⟩])
 (.seq (.seq (.reg [⟨.no,.mv (.t P5_9),some P5_26⟩])
 (.cond (.t P5_26) (.seq (.reg [⟨.no,.build [(.int .i64 (.ofNat 0)),(.int .i64 (.ofNat 0)),(.str []),(.str [])] [],some P5_27⟩,
 ⟨.no,.store 4 (.t P5_4) (.t P5_27),none⟩,
 ⟨.no,.mv (.c (.int .i64 (.ofNat 121))),some P5_5⟩])
 .ret)
 .skip))
 (.seq (.reg [⟨.no,.mv (.t P5_8),some P5_28⟩,
 ⟨.no,.load true 4 (.t P5_3),some P5_29⟩,
 ⟨.no,.call (.c (.fn f_node_leafSlot [] [])) [(.t P5_29)],some P5_30⟩,
 ⟨.no,.build [(.int .i64 (.ofNat 0)),(.int .i64 (.ofNat 0)),(.str []),(.str [])] [(0,1,(.c (.int .i64 (.ofNat 2)))),(1,1,(.t P5_28)),(2,1,(.t P5_30))],some P5_31⟩,
 ⟨.no,.store 4 (.t P5_4) (.t P5_31),none⟩,
 ⟨.no,.mv (.c (.int .i64 (.ofNat 0))),some P5_5⟩])
 .ret)))))), [.cell true 4 P5_4,.t P5_5], 0, false, false⟩
noncomputable def rf_wal_Log_Flush : RFn := ⟨apOf 6 0 2, mkU 6, (.seq (.reg [⟨.no,.mv (.c (.int .i64 (.ofNat 0))),some P6_4⟩])
 (.seq (.seq (.reg [⟨.no,.mv (.t P6_0),some P6_7⟩,
 ⟨.no,.eq .ptr (.t P6_7) (.c .nilp),some P6_8⟩])
 (.cond (.t P6_8) (.seq (.reg [⟨.no,.mv (.c (.int .i64 (.ofNat 1))),some P6_4⟩])
 .ret)
 .skip))
 (.seq (.seq (.reg [⟨.no,.mv (.t P6_0),some P6_9⟩,
 ⟨.no,.nilc (.t P6_9),some P6_10⟩,
 ⟨.no,.faddr 0 1 (.t P6_10),some P6_11⟩,
 ⟨.no,.load false 1 (.t P6_11),some P6_12⟩,
 ⟨.no,.call (.c (.fn f_disk_Disk_Dead [] [])) [(.t P6_12)],some P6_13⟩])
 (.cond (.t P6_13) (.seq (.reg [⟨.no,.mv (.c (.int .i64 (.ofNat 7))),some P6_4⟩])
 .ret)
 .skip))
 (.seq (.seq (.reg [⟨.no,.mv (.t P6_0),some P6_14⟩,
 ⟨.no,.nilc (.t P6_14),some P6_15⟩,
 ⟨.no,.faddr 6 1 (.t P6_15),some P6_16⟩,
 ⟨.no,.load false 1 (.t P6_16),some P6_17⟩,
 ⟨.no,.eq .str (.t P6_17) (.c (.str [])),some P6_18⟩,
 ⟨.no,.mv (.t P6_18),some P6_19⟩,
 ⟨(.on P6_19 false),.mv (.t P6_1),some P6_20⟩,
 ⟨(.on P6_19 false),.mv (.t P6_0),some P6_21⟩,
 ⟨(.on P6_19 false),.call (.c (.fn f_wal_Log_Flushed [] [])) [(.t P6_21)],some P6_22⟩,
 ⟨(.on P6_19 false),.bin .lss (.t P6_20) (.t P6_22),some P6_23⟩,
 ⟨.no,.pick (.t P6_19) (.c (.bool true)) (.t P6_23),some P6_24⟩])
 (.cond (.t P6_24) (.seq (.reg [⟨.no,.mv (.c (.int .i64 (.ofNat 0))),some P6_4⟩])
 .ret)
 .skip))
 (.seq (.seq (.draw [] 11 [⟨⟨.no,.mv (.t P6_0),some P6_25⟩,.val,0,0⟩,
 ⟨⟨.no,.nilc (.t P6_25),some P6_26⟩,.val,0,0⟩,
 ⟨⟨.no,.faddr 0 1 (.t P6_26),some P6_27⟩,.val,0,0⟩,
 ⟨⟨.no,.load false 1 (.t P6_27),some P6_28⟩,.read,0,0⟩,
 ⟨⟨.no,.mv (.t P6_0),some P6_29⟩,.val,0,0⟩,
 ⟨⟨.no,.nilc (.t P6_29),some P6_30⟩,.val,0,0⟩,
 ⟨⟨.no,.faddr 6 1 (.t P6_30),some P6_31⟩,.val,0,0⟩,
 ⟨⟨.no,.load false 1 (.t P6_31),some P6_32⟩,.read,0,0⟩,
 ⟨⟨.no,.call (.c (.fn f_disk_Disk_AppendLog [] [])) [(.t P6_28),(.t P6_32)],some P6_33⟩,.eff,0,1⟩,
 ⟨⟨.no,.mv (.t P6_33),some P6_5⟩,.val,1,1⟩])
 (.seq (.reg [⟨.no,.mv (.t P6_5),some P6_34⟩,
 ⟨.no,.ne .int (.t P6_34) (.c (.int .i64 (.ofNat 0))),some P6_35⟩])
 (.cond (.t P6_35) (.seq (.reg [⟨.no,.mv (.t P6_5),some P6_36⟩,
 ⟨.no,.mv (.t P6_36),some P6_4⟩])
 .ret)
 .skip)))
 (.seq (.reg [⟨.no,.mv (.t P6_0),some P6_37⟩,
 ⟨.no,.nilc (.t P6_37),some P6_38⟩,
 ⟨.no,.faddr 6 1 (.t P6_38),some P6_39⟩,
 ⟨.no,.store 1 (.t P6_39) (.c (.str [])),none⟩])
 (.seq (.seq (.reg [⟨.no,.mv (.t P6_0),some P6_40⟩,
 ⟨.no,.nilc (.t P6_40),some P6_41⟩,
 ⟨.no,.faddr 0 1 (.t P6_41),some P6_42⟩,
 ⟨.no,.load false 1 (.t P6_42),some P6_43⟩,
 ⟨.no,.call (.c (.fn f_disk_Disk_SyncLog [] [])) [(.t P6_43)],some P6_44⟩,
 ⟨.no,.mv (.t P6_44),some P6_6⟩])
 (.seq (.reg [⟨.no,.mv (.t P6_6),some P6_45⟩,
 ⟨.no,.ne .int (.t P6_45) (.c (.int .i64 (.ofNat 0))),some P6_46⟩])
 (.cond (.t P6_46) (.seq (.reg [⟨.no,.mv (.t P6_6),some P6_47⟩,
 ⟨.no,.mv (.t P6_47),some P6_4⟩])
 .ret)
 .skip)))
 (.seq (.reg [⟨.no,.mv (.t P6_0),some P6_48⟩,
 ⟨.no,.mv (.t P6_0),some P6_49⟩,
 ⟨.no,.nilc (.t P6_49),some P6_50⟩,
 ⟨.no,.faddr 1 1 (.t P6_50),some P6_51⟩,
 ⟨.no,.load false 1 (.t P6_51),some P6_52⟩,
 ⟨.no,.len .sl (.t P6_52),some P6_53⟩,
 ⟨.no,.nilc (.t P6_48),some P6_54⟩,
 ⟨.no,.faddr 4 1 (.t P6_54),some P6_55⟩,
 ⟨.no,.store 1 (.t P6_55) (.t P6_53),none⟩])
 (.seq (.reg [⟨.no,.mv (.c (.int .i64 (.ofNat 0))),some P6_4⟩])
 .ret))))))))), [.t P6_4], 0, false, false⟩
noncomputable def rf_txn_Manager_end : RFn := ⟨apOf 6 0 2, mkU 6, (.seq (.reg [⟨.no,.mv (.c (.int .i64 (.ofNat 0))),some P6_4⟩])
 (.seq (.seq (.reg [⟨.no,.mv (.t P6_0),some P6_8⟩,
 ⟨.no,.mv (.t P6_1),some P6_9⟩,
 ⟨.no,.build [(.int .i64 (.ofNat 0)),(.int .i64 (.ofNat 0)),(.int .u64 (.ofNat 0)),(.int .u64 (.ofNat 0)),(.int .u32 (.ofNat 0)),(.int .i64 (.ofNat 0)),(.int .i64 (.ofNat 0)),(.str []),(.str []),(.int .i64 (.ofNat 0)),(.int .i64 (.ofNat 0)),(.str []),(.int .u32 (.ofNat 0)),(.int .i64 (.ofNat 0)),(.bool false),(.sl 0 [] .nil),(.sl 0 [] .nil)] [(0,1,(.c (.int .i64 (.ofNat 6))))],some P6_10⟩,
 ⟨.no,.call (.c (.fn f_txn_Manager_put [] [])) [(.t P6_8),(.t P6_9),(.t P6_10),(.c (.bool true))],some P6_11⟩,
 ⟨.no,.mv (.t P6_11),some P6_7⟩,
 ⟨.no,.extr (.t P6_7) 0,some P6_12⟩,
 ⟨.no,.extr (.t P6_7) 1,some P6_13⟩,
 ⟨.no,.mv (.t P6_12),some P6_5⟩,
 ⟨.no,.mv (.t P6_13),some P6_6⟩])
 (.seq (.reg [⟨.no,.mv (.t P6_6),some P6_14⟩,
 ⟨.no,.ne .int (.t P6_14) (.c (.int .i64 (.ofNat 0))),some P6_15⟩])
 (.cond (.t P6_15) (.seq (.reg [⟨.no,.mv (.t P6_6),some P6_16⟩,
 ⟨.no,.mv (.t P6_16),some P6_4⟩])
 .ret)
 .skip)))
 (.seq (.draw [] 10 [⟨⟨.no,.mv (.t P6_0),some P6_17⟩,.val,0,0⟩,
 ⟨⟨.no,.nilc (.t P6_17),some P6_18⟩,.val,0,0⟩,
 ⟨⟨.no,.faddr 0 1 (.t P6_18),some P6_19⟩,.val,0,0⟩,
 ⟨⟨.no,.load false 1 (.t P6_19),some P6_20⟩,.read,0,0⟩,
 ⟨⟨.no,.mv (.t P6_1),some P6_21⟩,.val,0,0⟩,
 ⟨⟨.no,.nilc (.t P6_21),some P6_22⟩,.val,0,0⟩,
 ⟨⟨.no,.faddr 4 1 (.t P6_22),some P6_23⟩,.val,0,0⟩,
 ⟨⟨.no,.load false 1 (.t P6_23),some P6_24⟩,.read,0,0⟩,
 ⟨⟨.no,.call (.c (.fn f_wal_Log_Give [] [])) [(.t P6_20),(.t P6_24)],some P6_25⟩,.eff,0,1⟩])
 (.seq (.draw [] 11 [⟨⟨.no,.mv (.t P6_0),some P6_26⟩,.val,0,0⟩,
 ⟨⟨.no,.nilc (.t P6_26),some P6_27⟩,.val,0,0⟩,
 ⟨⟨.no,.faddr 2 1 (.t P6_27),some P6_28⟩,.val,0,0⟩,
 ⟨⟨.no,.load false 1 (.t P6_28),some P6_29⟩,.read,0,0⟩,
 ⟨⟨.no,.mv (.t P6_1),some P6_30⟩,.val,0,0⟩,
 ⟨⟨.no,.nilc (.t P6_30),some P6_31⟩,.val,0,0⟩,
 ⟨⟨.no,.faddr 0 4 (.t P6_31),some P6_32⟩,.val,0,0⟩,
 ⟨⟨.no,.faddr 0 1 (.t P6_32),some P6_33⟩,.val,0,0⟩,
 ⟨⟨.no,.load false 1 (.t P6_33),some P6_34⟩,.read,0,0⟩,
 ⟨⟨.no,.del (.int .i64) (.t P6_29) (.t P6_34),none⟩,.eff,0,1⟩])
 (.seq (.reg [⟨.no,.mv (.c (.int .i64 (.ofNat 0))),some P6_4⟩])
 .ret))))), [.t P6_4], 0, false, false⟩
noncomputable def rf_tree_leaf : RFn := ⟨apOf 5 0 2, mkU 5, (.seq (.reg [⟨.no,.alloc [(.int .u32 (.ofNat 0)),(.int .u64 (.ofNat 0)),(.int .i64 (.ofNat 0)),(.str []),(.sl 0 [] .nil)],some P5_4⟩,
 ⟨.no,.mv (.c (.sl 0 [] .nil)),some P5_5⟩,
 ⟨.no,.mv (.c (.int .i64 (.ofNat 0))),some P5_6⟩])
 (.seq (.reg [⟨.no,.mv (.t P5_0),some P5_11⟩,
 ⟨.no,.mv (.t P5_1),some P5_12⟩,
 ⟨.no,.call (.c (.fn f_pool_Pool_Get [] [])) [(.t P5_11),(.t P5_12)],some P5_13⟩,
 ⟨.no,.mv (.t P5_13),some P5_10⟩,
 ⟨.no,.extr (.t P5_10) 0,some P5_14⟩,
 ⟨.no,.extr (.t P5_10) 1,some P5_15⟩,
 ⟨.no,.alloc [(.int .u32 (.ofNat 0)),(.int .u64 (.ofNat 0)),(.int .i64 (.ofNat 0)),(.str []),(.sl 0 [] .nil)],some P5_7⟩,
 ⟨.no,.store 5 (.t P5_7) (.t P5_14),none⟩,
 ⟨.no,.mv (.t P5_15),some P5_8⟩])
 (.seq (.seq (.reg [⟨.no,.mv (.t P5_8),some P5_16⟩,
 ⟨.no,.ne .int (.t P5_16) (.c (.int .i64 (.ofNat 0))),some P5_17⟩])
 (.cond (.t P5_17) (.seq (.reg [⟨.no,.build [(.int .u32 (.ofNat 0)),(.int .u64 (.ofNat 0)),(.int .i64 (.ofNat 0)),(.str []),(.sl 0 [] .nil)] [],some P5_18⟩,
 ⟨.no,.mv (.t P5_8),some P5_19⟩,
 ⟨.no,.store 5 (.t P5_4) (.t P5_18),none⟩,
 ⟨.no,.mv (.c (.sl 0 [] .nil)),some P5_5⟩,
 ⟨.no,.mv (.t P5_19),some P5_6⟩])
 .ret)
 .skip))
 (.seq (.reg [⟨.no,.load true 5 (.t P5_7),some P5_21⟩,
 ⟨.no,.call (.c (.fn f_node_Leaf [] [])) [(.t P5_21)],some P5_22⟩,
 ⟨.no,.mv (.t P5_22),some P5_20⟩,
 ⟨.no,.extr (.t P5_20) 0,some P5_23⟩,
 ⟨.no,.extr (.t P5_20) 1,some P5_24⟩,
 ⟨.no,.mv (.t P5_23),some P5_9⟩,
 ⟨.no,.mv (.t P5_24),some P5_8⟩])
 (.seq (.reg [⟨.no,.load true 5 (.t P5_7),some P5_25⟩,
 ⟨.no,.mv (.t P5_9),some P5_26⟩,
 ⟨.no,.mv (.t P5_8),some P5_27⟩,
 ⟨.no,.store 5 (.t P5_4) (.t P5_25),none⟩,
 ⟨.no,.mv (.t P5_26),some P5_5⟩,
 ⟨.no,.mv (.t P5_27),some P5_6⟩])
 .ret))))), [.cell true 5 P5_4,.t P5_5,.t P5_6], 0, false, false⟩
noncomputable def rf_tree_first : RFn := ⟨apOf 6 0 3, mkU 6, (.seq (.reg [⟨.no,.alloc [(.str []),(.int .u32 (.ofNat 0)),(.int .i64 (.ofNat 0)),(.bool false)],some P6_6⟩,
 ⟨.no,.mv (.c (.bool false)),some P6_7⟩,
 ⟨.no,.mv (.c (.int .i64 (.ofNat 0))),some P6_8⟩])
 (.seq (.seq (.reg [⟨.no,.mv (.c (.int .i64 (.ofNat 0))),some P6_9⟩])
 (.block 0 (.loop (.seq (.seq (.reg [⟨.no,.mv (.t P6_1),some P6_13⟩,
 ⟨.no,.ne .int (.t P6_13) (.c (.int .u32 (.ofNat 0))),some P6_14⟩,
 ⟨.no,.mv (.t P6_14),some P6_15⟩,
 ⟨(.on P6_15 true),.mv (.t P6_9),some P6_16⟩,
 ⟨(.on P6_15 true),.bin .leq (.t P6_16) (.c (.int .i64 (.ofNat 2048))),some P6_17⟩,
 ⟨.no,.pick (.t P6_15) (.t P6_17) (.c (.bool false)),some P6_18⟩])
 (.cond (.t P6_18) .skip
 (.exit 0)))
 (.seq (.block 1 (.seq (.reg [⟨.no,.mv (.t P6_0),some P6_22⟩,
 ⟨.no,.mv (.t P6_1),some P6_23⟩,
 ⟨.no,.call (.c (.fn f_tree_leaf [] [])) [(.t P6_22),(.t P6_23)],some P6_24⟩,
 ⟨.no,.mv (.t P6_24),some P6_21⟩,
 ⟨.no,.extr (.t P6_21) 0,some P6_25⟩,
 ⟨.no,.extr (.t P6_21) 1,some P6_26⟩,
 ⟨.no,.extr (.t P6_21) 2,some P6_27⟩,
 ⟨.no,.alloc [(.int .u32 (.ofNat 0)),(.int .u64 (.ofNat 0)),(.int .i64 (.ofNat 0)),(.str []),(.sl 0 [] .nil)],some P6_10⟩,
 ⟨.no,.store 5 (.t P6_10) (.t P6_25),none⟩,
 ⟨.no,.mv (.t P6_26),some P6_11⟩,
 ⟨.no,.mv (.t P6_27),some P6_12⟩])
 (.seq (.seq (.reg [⟨.no,.mv (.t P6_12),some P6_28⟩,
 ⟨.no,.ne .int (.t P6_28) (.c (.int .i64 (.ofNat 0))),some P6_29⟩])
 (.cond (.t P6_29) (.seq (.reg [⟨.no,.build [(.str []),(.int .u32 (.ofNat 0)),(.int .i64 (.ofNat 0)),(.bool false)] [],some P6_30⟩,
 ⟨.no,.mv (.t P6_12),some P6_31⟩,
 ⟨.no,.store 4 (.t P6_6) (.t P6_30),none⟩,
 ⟨.no,.mv (.c (.bool false)),some P6_7⟩,
 ⟨.no,.mv (.t P6_31),some P6_8⟩])
 .ret)
 .skip))
 (.seq (.seq (.reg [⟨.no,.mv (.t P6_2),some P6_32⟩,
 ⟨.no,.mv (.t P6_11),some P6_33⟩,
 ⟨.no,.len .sl (.t P6_33),some P6_34⟩,
 ⟨.no,.bin .lss (.t P6_32) (.t P6_34),some P6_35⟩])
 (.cond (.t P6_35) (.seq (.reg [⟨.no,.mv (.t P6_11),some P6_36⟩,
 ⟨.no,.mv (.t P6_2),some P6_37⟩,
 ⟨.no,.ixSl 4 (.t P6_36) (.t P6_37),some P6_38⟩,
 ⟨.no,.load true 4 (.t P6_38),some P6_39⟩,
 ⟨.no,.store 4 (.t P6_6) (.t P6_39),none⟩,
 ⟨.no,.mv (.c (.bool true)),some P6_7⟩,
 ⟨.no,.mv (.c (.int .i64 (.ofNat 0))),some P6_8⟩])
 .ret)
 .skip))
 (.reg [⟨.no,.load true 5 (.t P6_10),some P6_40⟩,
 ⟨.no,.call (.c (.fn f_node_Next [] [])) [(.t P6_40)],some P6_41⟩,
 ⟨.no,.mv (.t P6_41),some P6_1⟩,
 ⟨.no,.mv (.c (.int .i64 (.ofNat 0))),some P6_2⟩])))))
 (.reg [⟨.no,.mv (.t P6_9),some P6_19⟩,
 ⟨.no,.bin .add (.t P6_19) (.c (.int .i64 (.ofNat 1))),some P6_20⟩,
 ⟨.no,.mv (.t P6_20),some P6_9⟩]))))))
 (.seq (.reg [⟨.no,.build [(.str []),(.int .u32 (.ofNat 0)),(.int .i64 (.ofNat 0)),(.bool false)] [],some P6_42⟩,
 ⟨.no,.store 4 (.t P6_6) (.t P6_42),none⟩,
 ⟨.no,.mv (.c (.bool false)),some P6_7⟩,
 ⟨.no,.mv (.c (.int .i64 (.ofNat 0))),some P6_8⟩])
 .ret))), [.cell true 4 P6_6,.t P6_7,.t P6_8], 0, false, false⟩
noncomputable def rf_slices_SortFunc_api_Table : RFn := ⟨apOf 4 0 2, mkU 4, (.seq (.reg [⟨.no,.mv (.t P4_0),some P4_5⟩,
 ⟨.no,.len .sl (.t P4_5),some P4_6⟩,
 ⟨.no,.mv (.t P4_6),some P4_4⟩])
 (.reg [⟨.no,.mv (.t P4_0),some P4_7⟩,
 ⟨.no,.mv (.t P4_4),some P4_8⟩,
 ⟨.no,.mv (.t P4_4),some P4_9⟩,
 ⟨.no,.conv (.toInt .u64) (.t P4_9),some P4_10⟩,
 ⟨.no,.call (.c (.fn f_math_bits_Len [] [])) [(.t P4_10)],some P4_11⟩,
 ⟨.no,.mv (.t P4_1),some P4_12⟩,
 ⟨.no,.call (.c (.fn f_slices_pdqsortCmpFunc_api_Table [] [])) [(.t P4_7),(.c (.int .i64 (.ofNat 0))),(.t P4_8),(.t P4_11),(.t P4_12)],some P4_13⟩])), [], 0, false, false⟩
noncomputable def rf_cmp_Compare_int : RFn := ⟨apOf 5 0 2, mkU 5, (.seq (.reg [⟨.no,.mv (.c (.int .i64 (.ofNat 0))),some P5_4⟩])
 (.seq (.reg [⟨.no,.mv (.t P5_0),some P5_7⟩,
 ⟨.no,.call (.c (.fn f_cmp_isNaN_int [] [])) [(.t P5_7)],some P5_8⟩,
 ⟨.no,.mv (.t P5_8),some P5_5⟩])
 (.seq (.reg [⟨.no,.mv (.t P5_1),some P5_9⟩,
 ⟨.no,.call (.c (.fn f_cmp_isNaN_int [] [])) [(.t P5_9)],some P5_10⟩,
 ⟨.no,.mv (.t P5_10),some P5_6⟩])
 (.seq (.seq (.reg [⟨.no,.mv (.t P5_5),some P5_11⟩])
 (.cond (.t P5_11) (.seq (.seq (.reg [⟨.no,.mv (.t P5_6),some P5_12⟩])
 (.cond (.t P5_12) (.seq (.reg [⟨.no,.mv (.c (.int .i64 (.ofNat 0))),some P5_4⟩])
 .ret)
 .skip))
 (.seq (.reg [⟨.no,.mv (.c (.int .i64 (.negSucc 0))),some P5_4⟩])
 .ret))
 .skip))
 (.seq (.seq (.reg [⟨.no,.mv (.t P5_6),some P5_13⟩])
 (.cond (.t P5_13) (.seq (.reg [⟨.no,.mv (.c (.int .i64 (.ofNat 1))),some P5_4⟩])
 .ret)
 .skip))
 (.seq (.seq (.reg [⟨.no,.mv (.t P5_0),some P5_14⟩,
 ⟨.no,.mv (.t P5_1),some P5_15⟩,
 ⟨.no,.bin .lss (.t P5_14) (.t P5_15),some P5_16⟩])
 (.cond (.t P5_16) (.seq (.reg [⟨.no,.mv (.c (.int .i64 (.negSucc 0))),some P5_4⟩])
 .ret)
 .skip))
 (.seq (.seq (.reg [⟨.no,.mv (.t P5_0),some P5_17⟩,
 ⟨.no,.mv (.t P5_1),some P5_18⟩,
 ⟨.no,.bin .gtr (.t P5_17) (.t P5_18),some P5_19⟩])
 (.cond (.t P5_19) (.seq (.reg [⟨.no,.mv (.c (.int .i64 (.ofNat 1))),some P5_4⟩])
 .ret)
 .skip))
 (.seq (.reg [⟨.no,.mv (.c (.int .i64 (.ofNat 0))),some P5_4⟩])
 .ret)))))))), [.t P5_4], 0, false, false⟩
noncomputable def rf_slices_SortFunc_api_Index : RFn := ⟨apOf 4 0 2, mkU 4, (.seq (.reg [⟨.no,.mv (.t P4_0),some P4_5⟩,
 ⟨.no,.len .sl (.t P4_5),some P4_6⟩,
 ⟨.no,.mv (.t P4_6),some P4_4⟩])
 (.reg [⟨.no,.mv (.t P4_0),some P4_7⟩,
 ⟨.no,.mv (.t P4_4),some P4_8⟩,
 ⟨.no,.mv (.t P4_4),some P4_9⟩,
 ⟨.no,.conv (.toInt .u64) (.t P4_9),some P4_10⟩,
 ⟨.no,.call (.c (.fn f_math_bits_Len [] [])) [(.t P4_10)],some P4_11⟩,
 ⟨.no,.mv (.t P4_1),some P4_12⟩,
 ⟨.no,.call (.c (.fn f_slices_pdqsortCmpFunc_api_Index [] [])) [(.t P4_7),(.c (.int .i64 (.ofNat 0))),(.t P4_8),(.t P4_11),(.t P4_12)],some P4_13⟩])), [], 0, false, false⟩
noncomputable def rf_heap_Allocate : RFn := ⟨apOf 6 0 2, mkU 6, (.seq (.reg [⟨.no,.mv (.c (.int .u32 (.ofNat 0))),some P6_4⟩,
 ⟨.no,.mv (.c (.int .i64 (.ofNat 0))),some P6_5⟩])
 (.seq (.reg [⟨.no,.mv (.t P6_0),some P6_11⟩,
 ⟨.no,.call (.c (.fn f_txn_Manager_Pool [] [])) [(.t P6_11)],some P6_12⟩,
 ⟨.no,.call (.c (.fn f_pool_Pool_Get [] [])) [(.t P6_12),(.c (.int .u32 (.ofNat 1)))],some P6_13⟩,
 ⟨.no,.mv (.t P6_13),some P6_10⟩,
 ⟨.no,.extr (.t P6_10) 0,some P6_14⟩,
 ⟨.no,.extr (.t P6_10) 1,some P6_15⟩,
 ⟨.no,.alloc [(.int .u32 (.ofNat 0)),(.int .u64 (.ofNat 0)),(.int .i64 (.ofNat 0)),(.str []),(.sl 0 [] .nil)],some P6_6⟩,
 ⟨.no,.store 5 (.t P6_6) (.t P6_14),none⟩,
 ⟨.no,.mv (.t P6_15),some P6_7⟩])
 (.seq (.seq (.reg [⟨.no,.mv (.t P6_7),some P6_16⟩,
 ⟨.no,.ne .int (.t P6_16) (.c (.int .i64 (.ofNat 0))),some P6_17⟩])
 (.cond (.t P6_17) (.seq (.reg [⟨.no,.mv (.t P6_7),some P6_18⟩,
 ⟨.no,.mv (.c (.int .u32 (.ofNat 0))),some P6_4⟩,
 ⟨.no,.mv (.t P6_18),some P6_5⟩])
 .ret)
 .skip))
 (.seq (.draw [[(.int .i64 (.ofNat 0)),(.int .i64 (.ofNat 0)),(.str []),(.str [])]] 15 [⟨⟨.no,.load true 5 (.t P6_6),some P6_20⟩,.read,0,3⟩,
 ⟨⟨.no,.mv (.t P6_0),some P6_21⟩,.val,0,0⟩,
 ⟨⟨.no,.call (.c (.fn f_txn_Manager_Pool [] [])) [(.t P6_21)],some P6_22⟩,.eff,0,1⟩,
 ⟨⟨.no,.call (.c (.fn f_pool_Pool_Disk [] [])) [(.t P6_22)],some P6_23⟩,.eff,1,2⟩,
 ⟨⟨.no,.call (.c (.fn f_disk_Disk_Room [] [])) [(.t P6_23)],some P6_24⟩,.eff,2,3⟩,
 ⟨⟨.no,.call (.c (.fn f_space_Take [] [])) [(.t P6_20),(.t P6_24)],some P6_25⟩,.eff,3,4⟩,
 ⟨⟨.no,.mv (.t P6_25),some P6_19⟩,.val,4,4⟩,
 ⟨⟨.no,.extr (.t P6_19) 0,some P6_26⟩,.val,4,4⟩,
 ⟨⟨.no,.extr (.t P6_19) 1,some P6_27⟩,.val,4,4⟩,
 ⟨⟨.no,.extr (.t P6_19) 2,some P6_28⟩,.val,4,5⟩,
 ⟨⟨.no,.alloc [(.int .i64 (.ofNat 0)),(.int .i64 (.ofNat 0)),(.str []),(.str [])],some P6_9⟩,.alloc,0,4⟩,
 ⟨⟨.no,.mv (.t P6_26),some P6_8⟩,.val,4,4⟩,
 ⟨⟨.no,.store 4 (.t P6_9) (.t P6_27),none⟩,.eff,4,5⟩,
 ⟨⟨.no,.mv (.t P6_28),some P6_7⟩,.val,5,5⟩])
 (.seq (.seq (.reg [⟨.no,.mv (.t P6_7),some P6_29⟩,
 ⟨.no,.ne .int (.t P6_29) (.c (.int .i64 (.ofNat 0))),some P6_30⟩])
 (.cond (.t P6_30) (.seq (.reg [⟨.no,.mv (.t P6_7),some P6_31⟩,
 ⟨.no,.mv (.c (.int .u32 (.ofNat 0))),some P6_4⟩,
 ⟨.no,.mv (.t P6_31),some P6_5⟩])
 .ret)
 .skip))
 (.seq (.reg [⟨.no,.mv (.t P6_0),some P6_33⟩,
 ⟨.no,.mv (.t P6_1),some P6_34⟩,
 ⟨.no,.load true 4 (.t P6_9),some P6_35⟩,
 ⟨.no,.build [(.int .u32 (.ofNat 0)),(.int .i64 (.ofNat 0)),(.int .i64 (.ofNat 0)),(.str []),(.str []),(.int .i64 (.ofNat 0)),(.int .i64 (.ofNat 0)),(.str []),(.int .u32 (.ofNat 0)),(.int .i64 (.ofNat 0)),(.bool false)] [(0,1,(.c (.int .u32 (.ofNat 1)))),(1,4,(.t P6_35)),(5,1,(.c (.int .i64 (.ofNat 1))))],some P6_36⟩,
 ⟨.no,.call (.c (.fn f_txn_Manager_Log [] [])) [(.t P6_33),(.t P6_34),(.t P6_36)],some P6_37⟩,
 ⟨.no,.mv (.t P6_37),some P6_32⟩,
 ⟨.no,.extr (.t P6_32) 0,some P6_38⟩,
 ⟨.no,.extr (.t P6_32) 1,some P6_39⟩,
 ⟨.no,.mv (.t P6_39),some P6_7⟩])
 (.seq (.seq (.reg [⟨.no,.mv (.t P6_7),some P6_40⟩,
 ⟨.no,.ne .int (.t P6_40) (.c (.int .i64 (.ofNat 0))),some P6_41⟩])
 (.cond (.t P6_41) (.seq (.reg [⟨.no,.mv (.t P6_7),some P6_42⟩,
 ⟨.no,.mv (.c (.int .u32 (.ofNat 0))),some P6_4⟩,
 ⟨.no,.mv (.t P6_42),some P6_5⟩])
 .ret)
 .skip))
 (.seq (.reg [⟨.no,.mv (.t P6_8),some P6_43⟩,
 ⟨.no,.mv (.t P6_43),some P6_4⟩,
 ⟨.no,.mv (.c (.int .i64 (.ofNat 0))),some P6_5⟩])
 .ret)))))))), [.t P6_4,.t P6_5], 0, false, false⟩
noncomputable def rf_catalog_put_c1 : RFn := ⟨apOf 2 0 1, mkU 2, (.seq (.reg [⟨.no,.box (.t P2_0),some P2_1⟩,
 ⟨.no,.mv (.c (.bool false)),some P2_2⟩])
 (.seq (.reg [⟨.no,.mv (.c (.bool true)),some P2_2⟩])
 .ret)), [.t P2_2], 0, false, false⟩
noncomputable def rf_heap_Place : RFn := ⟨apOf 7 0 3, mkU 7, (.seq (.reg [⟨.no,.alloc [(.int .u32 (.ofNat 0)),(.int .i64 (.ofNat 0))],some P7_6⟩,
 ⟨.no,.mv (.c (.bool false)),some P7_7⟩,
 ⟨.no,.mv (.c (.int .i64 (.ofNat 0))),some P7_8⟩])
 (.seq (.reg [⟨.no,.mv (.t P7_0),some P7_20⟩,
 ⟨.no,.mv (.t P7_1),some P7_21⟩,
 ⟨.no,.call (.c (.fn f_heap_Pages [] [])) [(.t P7_20),(.t P7_21)],some P7_22⟩,
 ⟨.no,.mv (.t P7_22),some P7_19⟩,
 ⟨.no,.extr (.t P7_19) 0,some P7_23⟩,
 ⟨.no,.extr (.t P7_19) 1,some P7_24⟩,
 ⟨.no,.mv (.t P7_23),some P7_9⟩,
 ⟨.no,.mv (.t P7_24),some P7_10⟩])
 (.seq (.seq (.reg [⟨.no,.mv (.t P7_10),some P7_25⟩,
 ⟨.no,.ne .int (.t P7_25) (.c (.int .i64 (.ofNat 0))),some P7_26⟩])
 (.cond (.t P7_26) (.seq (.reg [⟨.no,.build [(.int .u32 (.ofNat 0)),(.int .i64 (.ofNat 0))] [],some P7_27⟩,
 ⟨.no,.mv (.t P7_10),some P7_28⟩,
 ⟨.no,.store 2 (.t P7_6) (.t P7_27),none⟩,
 ⟨.no,.mv (.c (.bool false)),some P7_7⟩,
 ⟨.no,.mv (.t P7_28),some P7_8⟩])
 .ret)
 .skip))
 (.seq (.seq (.reg [⟨.no,.mv (.t P7_9),some P7_29⟩,
 ⟨.no,.len .sl (.t P7_29),some P7_30⟩,
 ⟨.no,.mv (.c (.int .i64 (.ofNat 0))),some P7_31⟩])
 (.block 0 (.loop (.seq (.reg [⟨.no,.bin .lss (.t P7_31) (.t P7_30),some P7_32⟩])
 (.seq (.cond (.t P7_32) .skip
 (.exit 0))
 (.seq (.block 1 (.seq (.reg [⟨.no,.ixSl 1 (.t P7_29) (.t P7_31),some P7_33⟩,
 ⟨.no,.load false 1 (.t P7_33),some P7_34⟩,
 ⟨.no,.mv (.t P7_34),some P7_12⟩])
 (.seq (.reg [⟨.no,.mv (.t P7_0),some P7_36⟩,
 ⟨.no,.call (.c (.fn f_txn_Manager_Pool [] [])) [(.t P7_36)],some P7_37⟩,
 ⟨.no,.mv (.t P7_12),some P7_38⟩,
 ⟨.no,.call (.c (.fn f_pool_Pool_Get [] [])) [(.t P7_37),(.t P7_38)],some P7_39⟩,
 ⟨.no,.mv (.t P7_39),some P7_35⟩,
 ⟨.no,.extr (.t P7_35) 0,some P7_40⟩,
 ⟨.no,.extr (.t P7_35) 1,some P7_41⟩,
 ⟨.no,.alloc [(.int .u32 (.ofNat 0)),(.int .u64 (.ofNat 0)),(.int .i64 (.ofNat 0)),(.str []),(.sl 0 [] .nil)],some P7_13⟩,
 ⟨.no,.store 5 (.t P7_13) (.t P7_40),none⟩,
 ⟨.no,.mv (.t P7_41),some P7_14⟩])
 (.seq (.seq (.reg [⟨.no,.mv (.t P7_14),some P7_42⟩,
 ⟨.no,.ne .int (.t P7_42) (.c (.int .i64 (.ofNat 0))),some P7_43⟩])
 (.cond (.t P7_43) (.seq (.reg [⟨.no,.build [(.int .u32 (.ofNat 0)),(.int .i64 (.ofNat 0))] [],some P7_44⟩,
 ⟨.no,.mv (.t P7_14),some P7_45⟩,
 ⟨.no,.store 2 (.t P7_6) (.t P7_44),none⟩,
 ⟨.no,.mv (.c (.bool false)),some P7_7⟩,
 ⟨.no,.mv (.t P7_45),some P7_8⟩])
 .ret)
 .skip))
 (.seq (.reg [⟨.no,.mv (.c (.int .i64 (.ofNat 0))),some P7_46⟩])
 (.block 2 (.loop (.seq (.reg [⟨.no,.bin .lss (.t P7_46) (.c (.int .i64 (.ofNat 7))),some P7_47⟩])
 (.seq (.cond (.t P7_47) .skip
 (.exit 2))
 (.seq (.block 3 (.seq (.reg [⟨.no,.mv (.t P7_46),some P7_48⟩,
 ⟨.no,.mv (.t P7_48),some P7_15⟩])
 (.seq (.reg [⟨.no,.mv (.t P7_12),some P7_49⟩,
 ⟨.no,.mv (.t P7_15),some P7_50⟩,
 ⟨.no,.build [(.int .u32 (.ofNat 0)),(.int .i64 (.ofNat 0))] [(0,1,(.t P7_49)),(1,1,(.t P7_50))],some P7_51⟩,
 ⟨.no,.alloc [(.int .u32 (.ofNat 0)),(.int .i64 (.ofNat 0))],some P7_16⟩,
 ⟨.no,.store 2 (.t P7_16) (.t P7_51),none⟩])
 (.seq (.seq (.reg [⟨.no,.mv (.t P7_15),some P7_52⟩,
 ⟨.no,.faddr 4 1 (.t P7_13),some P7_53⟩,
 ⟨.no,.load false 1 (.t P7_53),some P7_54⟩,
 ⟨.no,.len .sl (.t P7_54),some P7_55⟩,
 ⟨.no,.bin .lss (.t P7_52) (.t P7_55),some P7_56⟩])
 (.cond (.t P7_56) (.seq (.reg [⟨.no,.faddr 4 1 (.t P7_13),some P7_58⟩,
 ⟨.no,.load false 1 (.t P7_58),some P7_59⟩,
 ⟨.no,.mv (.t P7_15),some P7_60⟩,
 ⟨.no,.ixSl 1 (.t P7_59) (.t P7_60),some P7_61⟩,
 ⟨.no,.load false 1 (.t P7_61),some P7_62⟩,
 ⟨.no,.call (.c (.fn f_heap_taken [] [])) [(.t P7_62)],some P7_63⟩,
 ⟨.no,.mv (.t P7_63),some P7_57⟩,
 ⟨.no,.extr (.t P7_57) 0,some P7_64⟩,
 ⟨.no,.extr (.t P7_57) 1,some P7_65⟩,
 ⟨.no,.mv (.t P7_64),some P7_17⟩,
 ⟨.no,.mv (.t P7_65),some P7_18⟩])
 (.seq (.reg [⟨.no,.mv (.t P7_18),some P7_66⟩])
 (.cond (.t P7_66) (.exit 3)
 .skip)))
 .skip))
 (.seq (.seq (.reg [⟨.no,.mv (.t P7_2),some P7_67⟩,
 ⟨.no,.load true 2 (.t P7_16),some P7_68⟩,
 ⟨.no,.call (.t P7_67) [(.t P7_68)],some P7_69⟩])
 (.cond (.t P7_69) (.seq (.reg [⟨.no,.load true 2 (.t P7_16),some P7_70⟩,
 ⟨.no,.store 2 (.t P7_6) (.t P7_70),none⟩,
 ⟨.no,.mv (.c (.bool true)),some P7_7⟩,
 ⟨.no,.mv (.c (.int .i64 (.ofNat 0))),some P7_8⟩])
 .ret)
 .skip))
 (.seq (.reg [⟨.no,.mv (.t P7_15),some P7_71⟩,
 ⟨.no,.faddr 4 1 (.t P7_13),some P7_72⟩,
 ⟨.no,.load false 1 (.t P7_72),some P7_73⟩,
 ⟨.no,.len .sl (.t P7_73),some P7_74⟩,
 ⟨.no,.bin .geq (.t P7_71) (.t P7_74),some P7_75⟩])
 (.cond (.t P7_75) (.exit 2)
 .skip)))))))
 (.reg [⟨.no,.bin .add (.t P7_46) (.c (.int .i64 (.ofNat 1))),some P7_76⟩,
 ⟨.no,.mv (.t P7_76),some P7_46⟩])))))))))))
 (.reg [⟨.no,.bin .add (.t P7_31) (.c (.int .i64 (.ofNat 1))),some P7_77⟩,
 ⟨.no,.mv (.t P7_77),some P7_31⟩])))))))
 (.seq (.reg [⟨.no,.build [(.int .u32 (.ofNat 0)),(.int .i64 (.ofNat 0))] [],some P7_78⟩,
 ⟨.no,.store 2 (.t P7_6) (.t P7_78),none⟩,
 ⟨.no,.mv (.c (.bool false)),some P7_7⟩,
 ⟨.no,.mv (.c (.int .i64 (.ofNat 0))),some P7_8⟩])
 .ret))))), [.cell true 2 P7_6,.t P7_7,.t P7_8], 0, false, false⟩
noncomputable def rf_disk_Disk_Dead : RFn := ⟨apOf 4 0 1, mkU 4, (.seq (.reg [⟨.no,.mv (.c (.bool false)),some P4_2⟩])
 (.seq (.reg [⟨.no,.mv (.t P4_0),some P4_3⟩,
 ⟨.no,.eq .ptr (.t P4_3) (.c .nilp),some P4_4⟩,
 ⟨.no,.mv (.t P4_4),some P4_5⟩,
 ⟨(.on P4_5 false),.mv (.t P4_0),some P4_6⟩,
 ⟨(.on P4_5 false),.nilc (.t P4_6),some P4_7⟩,
 ⟨(.on P4_5 false),.faddr 8 1 (.t P4_7),some P4_8⟩,
 ⟨(.on P4_5 false),.load false 1 (.t P4_8),some P4_9⟩,
 ⟨.no,.pick (.t P4_5) (.c (.bool true)) (.t P4_9),some P4_10⟩,
 ⟨.no,.mv (.t P4_10),some P4_2⟩])
 .ret)), [.t P4_2], 0, false, false⟩
noncomputable def rf_raw_Get : RFn := ⟨apOf 6 0 3, mkU 6, (.seq (.reg [⟨.no,.mv (.c (.int .u64 (.ofNat 0))),some P6_6⟩,
 ⟨.no,.mv (.c (.int .i64 (.ofNat 0))),some P6_7⟩])
 (.seq (.block 0 (.seq (.reg [⟨.no,.mv (.t P6_2),some P6_11⟩,
 ⟨.no,.bin .lss (.t P6_11) (.c (.int .i64 (.ofNat 0))),some P6_12⟩,
 ⟨.no,.mv (.t P6_12),some P6_13⟩,
 ⟨(.on P6_13 false),.mv (.t P6_2),some P6_14⟩,
 ⟨(.on P6_13 false),.bin .gtr (.t P6_14) (.c (.int .i64 (.ofNat 8))),some P6_15⟩,
 ⟨.no,.pick (.t P6_13) (.c (.bool true)) (.t P6_15),some P6_16⟩,
 ⟨.no,.mv (.t P6_16),some P6_17⟩,
 ⟨(.on P6_17 false),.mv (.t P6_1),some P6_18⟩,
 ⟨(.on P6_17 false),.bin .lss (.t P6_18) (.c (.int .i64 (.ofNat 0))),some P6_19⟩,
 ⟨.no,.pick (.t P6_17) (.c (.bool true)) (.t P6_19),some P6_20⟩,
 ⟨.no,.mv (.t P6_20),some P6_21⟩,
 ⟨(.on P6_21 false),.mv (.t P6_1),some P6_22⟩,
 ⟨(.on P6_21 false),.mv (.t P6_0),some P6_23⟩,
 ⟨(.on P6_21 false),.len .str (.t P6_23),some P6_24⟩,
 ⟨(.on P6_21 false),.bin .gtr (.t P6_22) (.t P6_24),some P6_25⟩,
 ⟨.no,.pick (.t P6_21) (.c (.bool true)) (.t P6_25),some P6_26⟩,
 ⟨.no,.mv (.t P6_26),some P6_10⟩])
 (.cond (.t P6_10) (.seq (.reg [⟨.no,.mv (.c (.int .u64 (.ofNat 0))),some P6_6⟩,
 ⟨.no,.mv (.c (.int .i64 (.ofNat 1))),some P6_7⟩])
 .ret)
 (.seq (.reg [⟨.no,.mv (.t P6_0),some P6_28⟩,
 ⟨.no,.len .str (.t P6_28),some P6_29⟩,
 ⟨.no,.mv (.t P6_1),some P6_30⟩,
 ⟨.no,.bin .sub (.t P6_29) (.t P6_30),some P6_31⟩,
 ⟨.no,.mv (.t P6_2),some P6_32⟩,
 ⟨.no,.bin .lss (.t P6_31) (.t P6_32),some P6_33⟩,
 ⟨.no,.mv (.t P6_33),some P6_27⟩])
 (.cond (.t P6_27) (.seq (.reg [⟨.no,.mv (.c (.int .u64 (.ofNat 0))),some P6_6⟩,
 ⟨.no,.mv (.c (.int .i64 (.ofNat 4))),some P6_7⟩])
 .ret)
 .skip)))))
 (.seq (.reg [⟨.no,.mv (.c (.int .u64 (.ofNat 0))),some P6_8⟩])
 (.seq (.seq (.reg [⟨.no,.mv (.t P6_2),some P6_34⟩,
 ⟨.no,.bin .sub (.t P6_34) (.c (.int .i64 (.ofNat 1))),some P6_35⟩,
 ⟨.no,.mv (.t P6_35),some P6_9⟩])
 (.block 1 (.loop (.seq (.seq (.reg [⟨.no,.mv (.t P6_9),some P6_36⟩,
 ⟨.no,.bin .geq (.t P6_36) (.c (.int .i64 (.ofNat 0))),some P6_37⟩])
 (.cond (.t P6_37) .skip
 (.exit 1)))
 (.seq (.block 2 (.reg [⟨.no,.mv (.t P6_8),some P6_40⟩,
 ⟨.no,.bin .shl (.t P6_40) (.c (.int .u64 (.ofNat 8))),some P6_41⟩,
 ⟨.no,.mv (.t P6_0),some P6_42⟩,
 ⟨.no,.mv (.t P6_1),some P6_43⟩,
 ⟨.no,.mv (.t P6_9),some P6_44⟩,
 ⟨.no,.bin .add (.t P6_43) (.t P6_44),some P6_45⟩,
 ⟨.no,.ixStr (.t P6_42) (.t P6_45),some P6_46⟩,
 ⟨.no,.conv (.toInt .u64) (.t P6_46),some P6_47⟩,
 ⟨.no,.bin .or (.t P6_41) (.t P6_47),some P6_48⟩,
 ⟨.no,.mv (.t P6_48),some P6_8⟩]))
 (.reg [⟨.no,.mv (.t P6_9),some P6_38⟩,
 ⟨.no,.bin .sub (.t P6_38) (.c (.int .i64 (.ofNat 1))),some P6_39⟩,
 ⟨.no,.mv (.t P6_39),some P6_9⟩]))))))
 (.seq (.reg [⟨.no,.mv (.t P6_8),some P6_49⟩,
 ⟨.no,.mv (.t P6_49),some P6_6⟩,
 ⟨.no,.mv (.c (.int .i64 (.ofNat 0))),some P6_7⟩])
 .ret))))), [.t P6_6,.t P6_7], 0, false, false⟩
noncomputable def rf_disk_Disk_strikes : RFn := ⟨apOf 6 0 1, mkU 6, (.seq (.reg [⟨.no,.box (.t P6_0),some P6_1⟩,
 ⟨.no,.mv (.c (.bool false)),some P6_2⟩])
 (.seq (.reg [⟨.no,.load false 1 (.t P6_1),some P6_5⟩,
 ⟨.no,.nilc (.t P6_5),some P6_6⟩,
 ⟨.no,.faddr 7 1 (.t P6_6),some P6_7⟩,
 ⟨.no,.load false 1 (.t P6_7),some P6_8⟩,
 ⟨.no,.fn f_disk_Disk_strikes_c1 [] [(.t P6_1)],some P6_9⟩,
 ⟨.no,.call (.c (.fn f_slices_IndexFunc_api_Fall [] [])) [(.t P6_8),(.t P6_9)],some P6_10⟩,
 ⟨.no,.mv (.t P6_10),some P6_3⟩])
 (.seq (.seq (.reg [⟨.no,.mv (.t P6_3),some P6_11⟩,
 ⟨.no,.bin .geq (.t P6_11) (.c (.int .i64 (.ofNat 0))),some P6_12⟩])
 (.cond (.t P6_12) (.seq (.reg [⟨.no,.load false 1 (.t P6_1),some P6_13⟩,
 ⟨.no,.nilc (.t P6_13),some P6_14⟩,
 ⟨.no,.faddr 7 1 (.t P6_14),some P6_15⟩,
 ⟨.no,.load false 1 (.t P6_15),some P6_16⟩,
 ⟨.no,.mv (.t P6_3),some P6_17⟩,
 ⟨.no,.ixSl 5 (.t P6_16) (.t P6_17),some P6_18⟩,
 ⟨.no,.load true 5 (.t P6_18),some P6_19⟩,
 ⟨.no,.alloc [(.int .i64 (.ofNat 0)),(.int .u64 (.ofNat 0)),(.int .i64 (.ofNat 0)),(.int .i64 (.ofNat 0)),(.int .i64 (.ofNat 0))],some P6_4⟩,
 ⟨.no,.store 5 (.t P6_4) (.t P6_19),none⟩])
 (.seq (.draw [] 14 [⟨⟨.no,.load false 1 (.t P6_1),some P6_20⟩,.read,0,2⟩,
 ⟨⟨.no,.load false 1 (.t P6_1),some P6_21⟩,.read,0,0⟩,
 ⟨⟨.no,.nilc (.t P6_21),some P6_22⟩,.val,0,0⟩,
 ⟨⟨.no,.faddr 7 1 (.t P6_22),some P6_23⟩,.val,0,0⟩,
 ⟨⟨.no,.load false 1 (.t P6_23),some P6_24⟩,.read,0,0⟩,
 ⟨⟨.no,.call (.c (.fn f_slices_Clone_api_Fall [] [])) [(.t P6_24)],some P6_25⟩,.eff,0,1⟩,
 ⟨⟨.no,.mv (.t P6_3),some P6_26⟩,.val,0,1⟩,
 ⟨⟨.no,.mv (.t P6_3),some P6_27⟩,.val,0,1⟩,
 ⟨⟨.no,.bin .add (.t P6_27) (.c (.int .i64 (.ofNat 1))),some P6_28⟩,.val,0,1⟩,
 ⟨⟨.no,.call (.c (.fn f_slices_Delete_api_Fall [] [])) [(.t P6_25),(.t P6_26),(.t P6_28)],some P6_29⟩,.eff,1,2⟩,
 ⟨⟨.no,.nilc (.t P6_20),some P6_30⟩,.val,2,2⟩,
 ⟨⟨.no,.faddr 7 1 (.t P6_30),some P6_31⟩,.val,2,2⟩,
 ⟨⟨.no,.store 1 (.t P6_31) (.t P6_29),none⟩,.eff,2,3⟩])
 (.seq (.reg [⟨.no,.load false 1 (.t P6_1),some P6_32⟩,
 ⟨.no,.load true 5 (.t P6_4),some P6_33⟩,
 ⟨.no,.call (.c (.fn f_disk_Disk_Crash [] [])) [(.t P6_32),(.t P6_33)],some P6_34⟩])
 (.seq (.reg [⟨.no,.mv (.c (.bool true)),some P6_2⟩])
 .ret))))
 .skip))
 (.seq (.reg [⟨.no,.load false 1 (.t P6_1),some P6_35⟩,
 ⟨.no,.nilc (.t P6_35),some P6_36⟩,
 ⟨.no,.faddr 6 1 (.t P6_36),some P6_37⟩,
 ⟨.no,.load false 1 (.t P6_37),some P6_38⟩,
 ⟨.no,.bin .add (.t P6_38) (.c (.int .i64 (.ofNat 1))),some P6_39⟩,
 ⟨.no,.nilc (.t P6_35),some P6_40⟩,
 ⟨.no,.faddr 6 1 (.t P6_40),some P6_41⟩,
 ⟨.no,.store 1 (.t P6_41) (.t P6_39),none⟩])
 (.seq (.reg [⟨.no,.mv (.c (.bool false)),some P6_2⟩])
 .ret))))), [.t P6_2], 0, false, false⟩
noncomputable def rf_rec_Long : RFn := ⟨apOf 5 0 1, mkU 5, (.seq (.reg [⟨.no,.box (.t P5_0),some P5_1⟩,
 ⟨.no,.mv (.c (.int .i64 (.ofNat 0))),some P5_2⟩,
 ⟨.no,.mv (.c (.int .i64 (.ofNat 0))),some P5_3⟩])
 (.seq (.reg [⟨.no,.load true 17 (.t P5_1),some P5_7⟩,
 ⟨.no,.call (.c (.fn f_rec_Encode [] [])) [(.t P5_7)],some P5_8⟩,
 ⟨.no,.mv (.t P5_8),some P5_6⟩,
 ⟨.no,.extr (.t P5_6) 0,some P5_9⟩,
 ⟨.no,.extr (.t P5_6) 1,some P5_10⟩,
 ⟨.no,.mv (.t P5_9),some P5_4⟩,
 ⟨.no,.mv (.t P5_10),some P5_5⟩])
 (.seq (.seq (.reg [⟨.no,.mv (.t P5_5),some P5_11⟩,
 ⟨.no,.ne .int (.t P5_11) (.c (.int .i64 (.ofNat 0))),some P5_12⟩])
 (.cond (.t P5_12) (.seq (.reg [⟨.no,.mv (.t P5_5),some P5_13⟩,
 ⟨.no,.mv (.c (.int .i64 (.ofNat 0))),some P5_2⟩,
 ⟨.no,.mv (.t P5_13),some P5_3⟩])
 .ret)
 .skip))
 (.seq (.reg [⟨.no,.mv (.t P5_4),some P5_14⟩,
 ⟨.no,.len .str (.t P5_14),some P5_15⟩,
 ⟨.no,.bin .add (.t P5_15) (.c (.int .i64 (.ofNat 12))),some P5_16⟩,
 ⟨.no,.mv (.t P5_16),some P5_2⟩,
 ⟨.no,.mv (.c (.int .i64 (.ofNat 0))),some P5_3⟩])
 .ret)))), [.t P5_2,.t P5_3], 0, false, false⟩
noncomputable def rf_txn_Manager_change : RFn := ⟨apOf 6 0 4, mkU 6, (.seq (.reg [⟨.no,.box (.t P6_2),some P6_6⟩,
 ⟨.no,.mv (.c (.int .u64 (.ofNat 0))),some P6_8⟩,
 ⟨.no,.mv (.c (.int .i64 (.ofNat 0))),some P6_9⟩])
 (.seq (.draw [[(.int .u32 (.ofNat 0)),(.int .u64 (.ofNat 0)),(.int .i64 (.ofNat 0)),(.str []),(.sl 0 [] .nil)]] 14 [⟨⟨.no,.mv (.t P6_0),some P6_15⟩,.val,0,0⟩,
 ⟨⟨.no,.nilc (.t P6_15),some P6_16⟩,.val,0,0⟩,
 ⟨⟨.no,.faddr 1 1 (.t P6_16),some P6_17⟩,.val,0,0⟩,
 ⟨⟨.no,.load false 1 (.t P6_17),some P6_18⟩,.read,0,0⟩,
 ⟨⟨.no,.faddr 4 1 (.t P6_6),some P6_19⟩,.val,0,0⟩,
 ⟨⟨.no,.load false 1 (.t P6_19),some P6_20⟩,.read,0,0⟩,
 ⟨⟨.no,.call (.c (.fn f_pool_Pool_Get [] [])) [(.t P6_18),(.t P6_20)],some P6_21⟩,.eff,0,1⟩,
 ⟨⟨.no,.mv (.t P6_21),some P6_14⟩,.val,1,1⟩,
 ⟨⟨.no,.extr (.t P6_14) 0,some P6_22⟩,.val,1,1⟩,
 ⟨⟨.no,.extr (.t P6_14) 1,some P6_23⟩,.val,1,2⟩,
 ⟨⟨.no,.alloc [(.int .u32 (.ofNat 0)),(.int .u64 (.ofNat 0)),(.int .i64 (.ofNat 0)),(.str []),(.sl 0 [] .nil)],some P6_10⟩,.alloc,0,1⟩,
 ⟨⟨.no,.store 5 (.t P6_10) (.t P6_22),none⟩,.eff,1,2⟩,
 ⟨⟨.no,.mv (.t P6_23),some P6_11⟩,.val,2,2⟩])
 (.seq (.seq (.reg [⟨.no,.mv (.t P6_11),some P6_24⟩,
 ⟨.no,.ne .int (.t P6_24) (.c (.int .i64 (.ofNat 0))),some P6_25⟩])
 (.cond (.t P6_25) (.seq (.reg [⟨.no,.mv (.t P6_11),some P6_26⟩,
 ⟨.no,.mv (.c (.int .u64 (.ofNat 0))),some P6_8⟩,
 ⟨.no,.mv (.t P6_26),some P6_9⟩])
 .ret)
 .skip))
 (.seq (.draw [[(.int .u32 (.ofNat 0)),(.int .u64 (.ofNat 0)),(.int .i64 (.ofNat 0)),(.str []),(.sl 0 [] .nil)]] 16 [⟨⟨.no,.load true 5 (.t P6_10),some P6_28⟩,.read,0,1⟩,
 ⟨⟨.no,.faddr 5 4 (.t P6_6),some P6_29⟩,.val,0,1⟩,
 ⟨⟨.no,.load true 4 (.t P6_29),some P6_30⟩,.read,0,1⟩,
 ⟨⟨.no,.mv (.t P6_0),some P6_31⟩,.val,0,0⟩,
 ⟨⟨.no,.nilc (.t P6_31),some P6_32⟩,.val,0,0⟩,
 ⟨⟨.no,.faddr 0 1 (.t P6_32),some P6_33⟩,.val,0,0⟩,
 ⟨⟨.no,.load false 1 (.t P6_33),some P6_34⟩,.read,0,0⟩,
 ⟨⟨.no,.call (.c (.fn f_wal_Log_End [] [])) [(.t P6_34)],some P6_35⟩,.eff,0,1⟩,
 ⟨⟨.no,.call (.c (.fn f_page_Apply [] [])) [(.t P6_28),(.t P6_30),(.t P6_35)],some P6_36⟩,.eff,1,2⟩,
 ⟨⟨.no,.mv (.t P6_36),some P6_27⟩,.val,2,2⟩,
 ⟨⟨.no,.extr (.t P6_27) 0,some P6_37⟩,.val,2,2⟩,
 ⟨⟨.no,.extr (.t P6_27) 1,some P6_38⟩,.val,2,3⟩,
 ⟨⟨.no,.alloc [(.int .u32 (.ofNat 0)),(.int .u64 (.ofNat 0)),(.int .i64 (.ofNat 0)),(.str []),(.sl 0 [] .nil)],some P6_12⟩,.alloc,0,2⟩,
 ⟨⟨.no,.store 5 (.t P6_12) (.t P6_37),none⟩,.eff,2,3⟩,
 ⟨⟨.no,.mv (.t P6_38),some P6_11⟩,.val,3,3⟩])
 (.seq (.seq (.reg [⟨.no,.mv (.t P6_11),some P6_39⟩,
 ⟨.no,.ne .int (.t P6_39) (.c (.int .i64 (.ofNat 0))),some P6_40⟩])
 (.cond (.t P6_40) (.seq (.reg [⟨.no,.mv (.t P6_11),some P6_41⟩,
 ⟨.no,.mv (.c (.int .u64 (.ofNat 0))),some P6_8⟩,
 ⟨.no,.mv (.t P6_41),some P6_9⟩])
 .ret)
 .skip))
 (.seq (.reg [⟨.no,.mv (.t P6_0),some P6_43⟩,
 ⟨.no,.mv (.t P6_1),some P6_44⟩,
 ⟨.no,.load true 17 (.t P6_6),some P6_45⟩,
 ⟨.no,.mv (.t P6_3),some P6_46⟩,
 ⟨.no,.call (.c (.fn f_txn_Manager_put [] [])) [(.t P6_43),(.t P6_44),(.t P6_45),(.t P6_46)],some P6_47⟩,
 ⟨.no,.mv (.t P6_47),some P6_42⟩,
 ⟨.no,.extr (.t P6_42) 0,some P6_48⟩,
 ⟨.no,.extr (.t P6_42) 1,some P6_49⟩,
 ⟨.no,.mv (.t P6_48),some P6_13⟩,
 ⟨.no,.mv (.t P6_49),some P6_11⟩])
 (.seq (.seq (.reg [⟨.no,.mv (.t P6_11),some P6_50⟩,
 ⟨.no,.ne .int (.t P6_50) (.c (.int .i64 (.ofNat 0))),some P6_51⟩])
 (.cond (.t P6_51) (.seq (.reg [⟨.no,.mv (.t P6_11),some P6_52⟩,
 ⟨.no,.mv (.c (.int .u64 (.ofNat 0))),some P6_8⟩,
 ⟨.no,.mv (.t P6_52),some P6_9⟩])
 .ret)
 .skip))
 (.seq (.draw [] 10 [⟨⟨.no,.mv (.t P6_13),some P6_53⟩,.val,0,1⟩,
 ⟨⟨.no,.mv (.t P6_0),some P6_54⟩,.val,0,0⟩,
 ⟨⟨.no,.nilc (.t P6_54),some P6_55⟩,.val,0,0⟩,
 ⟨⟨.no,.faddr 1 1 (.t P6_55),some P6_56⟩,.val,0,0⟩,
 ⟨⟨.no,.load false 1 (.t P6_56),some P6_57⟩,.read,0,0⟩,
 ⟨⟨.no,.load true 5 (.t P6_12),some P6_58⟩,.read,0,0⟩,
 ⟨⟨.no,.call (.c (.fn f_pool_Pool_Put [] [])) [(.t P6_57),(.t P6_58)],some P6_59⟩,.eff,0,1⟩,
 ⟨⟨.no,.mv (.t P6_53),some P6_8⟩,.val,1,1⟩,
 ⟨⟨.no,.mv (.t P6_59),some P6_9⟩,.val,1,1⟩])
 .ret)))))))), [.t P6_8,.t P6_9], 0, false, false⟩
noncomputable def rf_pool_copied : RFn := ⟨apOf 3 0 1, mkU 3, (.seq (.reg [⟨.no,.box (.t P3_0),some P3_1⟩,
 ⟨.no,.alloc [(.int .u32 (.ofNat 0)),(.int .u64 (.ofNat 0)),(.int .i64 (.ofNat 0)),(.str []),(.sl 0 [] .nil)],some P3_2⟩])
 (.seq (.reg [⟨.no,.faddr 4 1 (.t P3_1),some P3_3⟩,
 ⟨.no,.load false 1 (.t P3_3),some P3_4⟩,
 ⟨.no,.call (.c (.fn f_slices_Clone_string [] [])) [(.t P3_4)],some P3_5⟩,
 ⟨.no,.faddr 4 1 (.t P3_1),some P3_6⟩,
 ⟨.no,.store 1 (.t P3_6) (.t P3_5),none⟩])
 (.seq (.reg [⟨.no,.load true 5 (.t P3_1),some P3_7⟩,
 ⟨.no,.store 5 (.t P3_2) (.t P3_7),none⟩])
 .ret))), [.cell true 5 P3_2], 0, false, false⟩
noncomputable def rf_pool_Pool_fetched : RFn := ⟨apOf 7 0 2, mkU 7, (.seq (.reg [⟨.no,.alloc [(.int .u32 (.ofNat 0)),(.int .u64 (.ofNat 0)),(.int .i64 (.ofNat 0)),(.str []),(.sl 0 [] .nil)],some P7_4⟩,
 ⟨.no,.mv (.c (.int .i64 (.ofNat 0))),some P7_5⟩])
 (.seq (.reg [⟨.no,.mv (.t P7_0),some P7_15⟩,
 ⟨.no,.nilc (.t P7_15),some P7_16⟩,
 ⟨.no,.faddr 0 1 (.t P7_16),some P7_17⟩,
 ⟨.no,.load false 1 (.t P7_17),some P7_18⟩,
 ⟨.no,.mv (.t P7_1),some P7_19⟩,
 ⟨.no,.call (.c (.fn f_disk_Disk_Read [] [])) [(.t P7_18),(.t P7_19)],some P7_20⟩,
 ⟨.no,.mv (.t P7_20),some P7_14⟩,
 ⟨.no,.extr (.t P7_14) 0,some P7_21⟩,
 ⟨.no,.extr (.t P7_14) 1,some P7_22⟩,
 ⟨.no,.mv (.t P7_21),some P7_6⟩,
 ⟨.no,.mv (.t P7_22),some P7_7⟩])
 (.seq (.seq (.reg [⟨.no,.mv (.t P7_7),some P7_23⟩,
 ⟨.no,.ne .int (.t P7_23) (.c (.int .i64 (.ofNat 0))),some P7_24⟩])
 (.cond (.t P7_24) (.seq (.reg [⟨.no,.build [(.int .u32 (.ofNat 0)),(.int .u64 (.ofNat 0)),(.int .i64 (.ofNat 0)),(.str []),(.sl 0 [] .nil)] [],some P7_25⟩,
 ⟨.no,.mv (.t P7_7),some P7_26⟩,
 ⟨.no,.store 5 (.t P7_4) (.t P7_25),none⟩,
 ⟨.no,.mv (.t P7_26),some P7_5⟩])
 .ret)
 .skip))
 (.seq (.reg [⟨.no,.mv (.t P7_0),some P7_28⟩,
 ⟨.no,.nilc (.t P7_28),some P7_29⟩,
 ⟨.no,.faddr 0 1 (.t P7_29),some P7_30⟩,
 ⟨.no,.load false 1 (.t P7_30),some P7_31⟩,
 ⟨.no,.mv (.t P7_1),some P7_32⟩,
 ⟨.no,.bin .add (.t P7_32) (.c (.int .u32 (.ofNat 2048))),some P7_33⟩,
 ⟨.no,.call (.c (.fn f_disk_Disk_Read [] [])) [(.t P7_31),(.t P7_33)],some P7_34⟩,
 ⟨.no,.mv (.t P7_34),some P7_27⟩,
 ⟨.no,.extr (.t P7_27) 0,some P7_35⟩,
 ⟨.no,.extr (.t P7_27) 1,some P7_36⟩,
 ⟨.no,.mv (.t P7_35),some P7_8⟩,
 ⟨.no,.mv (.t P7_36),some P7_7⟩])
 (.seq (.seq (.reg [⟨.no,.mv (.t P7_7),some P7_37⟩,
 ⟨.no,.ne .int (.t P7_37) (.c (.int .i64 (.ofNat 0))),some P7_38⟩])
 (.cond (.t P7_38) (.seq (.reg [⟨.no,.build [(.int .u32 (.ofNat 0)),(.int .u64 (.ofNat 0)),(.int .i64 (.ofNat 0)),(.str []),(.sl 0 [] .nil)] [],some P7_39⟩,
 ⟨.no,.mv (.t P7_7),some P7_40⟩,
 ⟨.no,.store 5 (.t P7_4) (.t P7_39),none⟩,
 ⟨.no,.mv (.t P7_40),some P7_5⟩])
 .ret)
 .skip))
 (.seq (.reg [⟨.no,.mv (.t P7_6),some P7_42⟩,
 ⟨.no,.call (.c (.fn f_page_Decode [] [])) [(.t P7_42)],some P7_43⟩,
 ⟨.no,.mv (.t P7_43),some P7_41⟩,
 ⟨.no,.extr (.t P7_41) 0,some P7_44⟩,
 ⟨.no,.extr (.t P7_41) 1,some P7_45⟩,
 ⟨.no,.alloc [(.int .u32 (.ofNat 0)),(.int .u64 (.ofNat 0)),(.int .i64 (.ofNat 0)),(.str []),(.sl 0 [] .nil)],some P7_9⟩,
 ⟨.no,.store 5 (.t P7_9) (.t P7_44),none⟩,
 ⟨.no,.mv (.t P7_45),some P7_7⟩])
 (.seq (.reg [⟨.no,.mv (.t P7_8),some P7_47⟩,
 ⟨.no,.call (.c (.fn f_page_Decode [] [])) [(.t P7_47)],some P7_48⟩,
 ⟨.no,.mv (.t P7_48),some P7_46⟩,
 ⟨.no,.extr (.t P7_46) 0,some P7_49⟩,
 ⟨.no,.extr (.t P7_46) 1,some P7_50⟩,
 ⟨.no,.alloc [(.int .u32 (.ofNat 0)),(.int .u64 (.ofNat 0)),(.int .i64 (.ofNat 0)),(.str []),(.sl 0 [] .nil)],some P7_10⟩,
 ⟨.no,.store 5 (.t P7_10) (.t P7_49),none⟩,
 ⟨.no,.mv (.t P7_50),some P7_11⟩])
 (.seq (.reg [⟨.no,.mv (.t P7_7),some P7_51⟩,
 ⟨.no,.eq .int (.t P7_51) (.c (.int .i64 (.ofNat 0))),some P7_52⟩,
 ⟨.no,.mv (.t P7_52),some P7_53⟩,
 ⟨(.on P7_53 true),.faddr 0 1 (.t P7_9),some P7_54⟩,
 ⟨(.on P7_53 true),.load false 1 (.t P7_54),some P7_55⟩,
 ⟨(.on P7_53 true),.mv (.t P7_1),some P7_56⟩,
 ⟨(.on P7_53 true),.eq .int (.t P7_55) (.t P7_56),some P7_57⟩,
 ⟨(.on P7_53 true),.mv (.t P7_57),some P7_58⟩,
 ⟨(.on P7_58 false),.faddr 0 1 (.t P7_9),some P7_59⟩,
 ⟨(.on P7_58 false),.load false 1 (.t P7_59),some P7_60⟩,
 ⟨(.on P7_58 false),.eq .int (.t P7_60) (.c (.int .u32 (.ofNat 0))),some P7_61⟩,
 ⟨(.on P7_53 true),.pick (.t P7_58) (.c (.bool true)) (.t P7_61),some P7_62⟩,
 ⟨.no,.pick (.t P7_53) (.t P7_62) (.c (.bool false)),some P7_63⟩,
 ⟨.no,.mv (.t P7_63),some P7_12⟩])
 (.seq (.reg [⟨.no,.mv (.t P7_11),some P7_64⟩,
 ⟨.no,.eq .int (.t P7_64) (.c (.int .i64 (.ofNat 0))),some P7_65⟩,
 ⟨.no,.mv (.t P7_65),some P7_66⟩,
 ⟨(.on P7_66 true),.faddr 0 1 (.t P7_10),some P7_67⟩,
 ⟨(.on P7_66 true),.load false 1 (.t P7_67),some P7_68⟩,
 ⟨(.on P7_66 true),.mv (.t P7_1),some P7_69⟩,
 ⟨(.on P7_66 true),.eq .int (.t P7_68) (.t P7_69),some P7_70⟩,
 ⟨(.on P7_66 true),.mv (.t P7_70),some P7_71⟩,
 ⟨(.on P7_71 false),.faddr 0 1 (.t P7_10),some P7_72⟩,
 ⟨(.on P7_71 false),.load false 1 (.t P7_72),some P7_73⟩,
 ⟨(.on P7_71 false),.eq .int (.t P7_73) (.c (.int .u32 (.ofNat 0))),some P7_74⟩,
 ⟨(.on P7_66 true),.pick (.t P7_71) (.c (.bool true)) (.t P7_74),some P7_75⟩,
 ⟨.no,.pick (.t P7_66) (.t P7_75) (.c (.bool false)),some P7_76⟩,
 ⟨.no,.mv (.t P7_76),some P7_13⟩])
 (.seq (.block 0 (.seq (.reg [⟨.no,.mv (.t P7_12),some P7_78⟩,
 ⟨.no,.mv (.t P7_78),some P7_79⟩,
 ⟨(.on P7_79 true),.mv (.t P7_13),some P7_80⟩,
 ⟨(.on P7_79 true),.un .not (.t P7_80),some P7_81⟩,
 ⟨(.on P7_79 true),.mv (.t P7_81),some P7_82⟩,
 ⟨(.on P7_82 false),.faddr 1 1 (.t P7_9),some P7_83⟩,
 ⟨(.on P7_82 false),.load false 1 (.t P7_83),some P7_84⟩,
 ⟨(.on P7_82 false),.faddr 1 1 (.t P7_10),some P7_85⟩,
 ⟨(.on P7_82 false),.load false 1 (.t P7_85),some P7_86⟩,
 ⟨(.on P7_82 false),.bin .geq (.t P7_84) (.t P7_86),some P7_87⟩,
 ⟨(.on P7_82 false),.mv (.t P7_87),some P7_88⟩,
 ⟨(.on P7_88 true),.faddr 0 1 (.t P7_9),some P7_89⟩,
 ⟨(.on P7_88 true),.load false 1 (.t P7_89),some P7_90⟩,
 ⟨(.on P7_88 true),.ne .int (.t P7_90) (.c (.int .u32 (.ofNat 0))),some P7_91⟩,
 ⟨(.on P7_82 false),.pick (.t P7_88) (.t P7_91) (.c (.bool false)),some P7_92⟩,
 ⟨(.on P7_79 true),.pick (.t P7_82) (.c (.bool true)) (.t P7_92),some P7_93⟩,
 ⟨(.on P7_79 true),.mv (.t P7_93),some P7_94⟩,
 ⟨(.on P7_94 false),.faddr 0 1 (.t P7_10),some P7_95⟩,
 ⟨(.on P7_94 false),.load false 1 (.t P7_95),some P7_96⟩,
 ⟨(.on P7_94 false),.eq .int (.t P7_96) (.c (.int .u32 (.ofNat 0))),some P7_97⟩,
 ⟨(.on P7_79 true),.pick (.t P7_94) (.c (.bool true)) (.t P7_97),some P7_98⟩,
 ⟨.no,.pick (.t P7_79) (.t P7_98) (.c (.bool false)),some P7_99⟩,
 ⟨.no,.mv (.t P7_99),some P7_77⟩])
 (.cond (.t P7_77) (.seq (.reg [⟨.no,.mv (.t P7_1),some P7_100⟩,
 ⟨.no,.faddr 0 1 (.t P7_9),some P7_101⟩,
 ⟨.no,.store 1 (.t P7_101) (.t P7_100),none⟩])
 (.seq (.reg [⟨.no,.load true 5 (.t P7_9),some P7_102⟩,
 ⟨.no,.store 5 (.t P7_4) (.t P7_102),none⟩,
 ⟨.no,.mv (.c (.int .i64 (.ofNat 0))),some P7_5⟩])
 .ret))
 (.seq (.reg [⟨.no,.mv (.t P7_13),some P7_104⟩,
 ⟨.no,.mv (.t P7_104),some P7_103⟩])
 (.cond (.t P7_103) (.seq (.reg [⟨.no,.mv (.t P7_1),some P7_105⟩,
 ⟨.no,.faddr 0 1 (.t P7_10),some P7_106⟩,
 ⟨.no,.store 1 (.t P7_106) (.t P7_105),none⟩])
 (.seq (.reg [⟨.no,.load true 5 (.t P7_10),some P7_107⟩,
 ⟨.no,.store 5 (.t P7_4) (.t P7_107),none⟩,
 ⟨.no,.mv (.c (.int .i64 (.ofNat 0))),some P7_5⟩])
 .ret))
 .skip)))))
 (.seq (.reg [⟨.no,.build [(.int .u32 (.ofNat 0)),(.int .u64 (.ofNat 0)),(.int .i64 (.ofNat 0)),(.str []),(.sl 0 [] .nil)] [],some P7_108⟩,
 ⟨.no,.store 5 (.t P7_4) (.t P7_108),none⟩,
 ⟨.no,.mv (.c (.int .i64 (.ofNat 60))),some P7_5⟩])
 .ret))))))))))), [.cell true 5 P7_4,.t P7_5], 0, false, false⟩
noncomputable def rf_node_take : RFn := ⟨apOf 5 0 1, mkU 5, (.seq (.reg [⟨.no,.alloc [(.str []),(.int .u32 (.ofNat 0)),(.int .i64 (.ofNat 0))],some P5_2⟩])
 (.seq (.reg [⟨.no,.mv (.t P5_0),some P5_4⟩,
 ⟨.no,.call (.c (.fn f_raw_Reader_Number [] [])) [(.t P5_4),(.c (.int .i64 (.ofNat 4)))],some P5_5⟩,
 ⟨.no,.conv (.toInt .u32) (.t P5_5),some P5_6⟩,
 ⟨.no,.mv (.t P5_0),some P5_7⟩,
 ⟨.no,.call (.c (.fn f_raw_Reader_Number [] [])) [(.t P5_7),(.c (.int .i64 (.ofNat 2)))],some P5_8⟩,
 ⟨.no,.conv (.toInt .i64) (.t P5_8),some P5_9⟩,
 ⟨.no,.build [(.int .u32 (.ofNat 0)),(.int .i64 (.ofNat 0))] [(0,1,(.t P5_6)),(1,1,(.t P5_9))],some P5_10⟩,
 ⟨.no,.build [(.str []),(.int .u32 (.ofNat 0)),(.int .i64 (.ofNat 0))] [(1,2,(.t P5_10))],some P5_11⟩,
 ⟨.no,.alloc [(.str []),(.int .u32 (.ofNat 0)),(.int .i64 (.ofNat 0))],some P5_3⟩,
 ⟨.no,.store 3 (.t P5_3) (.t P5_11),none⟩])
 (.seq (.reg [⟨.no,.mv (.t P5_0),some P5_12⟩,
 ⟨.no,.mv (.t P5_0),some P5_13⟩,
 ⟨.no,.call (.c (.fn f_raw_Reader_Left [] [])) [(.t P5_13)],some P5_14⟩,
 ⟨.no,.call (.c (.fn f_raw_Reader_Bytes [] [])) [(.t P5_12),(.t P5_14)],some P5_15⟩,
 ⟨.no,.faddr 0 1 (.t P5_3),some P5_16⟩,
 ⟨.no,.store 1 (.t P5_16) (.t P5_15),none⟩])
 (.seq (.reg [⟨.no,.load true 3 (.t P5_3),some P5_17⟩,
 ⟨.no,.store 3 (.t P5_2) (.t P5_17),none⟩])
 .ret)))), [.cell true 3 P5_2], 0, false, false⟩
noncomputable def rf_node_Find_c1 : RFn := ⟨apOf 4 0 2, mkU 4, (.seq (.reg [⟨.no,.box (.t P4_0),some P4_2⟩,
 ⟨.no,.box (.t P4_1),some P4_3⟩,
 ⟨.no,.mv (.c (.int .i64 (.ofNat 0))),some P4_4⟩])
 (.seq (.reg [⟨.no,.faddr 0 3 (.t P4_2),some P4_5⟩,
 ⟨.no,.load true 3 (.t P4_5),some P4_6⟩,
 ⟨.no,.load true 3 (.t P4_3),some P4_7⟩,
 ⟨.no,.call (.c (.fn f_key_Entries [] [])) [(.t P4_6),(.t P4_7)],some P4_8⟩,
 ⟨.no,.mv (.t P4_8),some P4_4⟩])
 .ret)), [.t P4_4], 0, false, false⟩
noncomputable def rf_key_Entries : RFn := ⟨apOf 5 0 2, mkU 5, (.seq (.reg [⟨.no,.box (.t P5_0),some P5_2⟩,
 ⟨.no,.box (.t P5_1),some P5_3⟩,
 ⟨.no,.mv (.c (.int .i64 (.ofNat 0))),some P5_4⟩])
 (.seq (.draw [] 23 [⟨⟨.no,.faddr 0 1 (.t P5_2),some P5_5⟩,.val,0,0⟩,
 ⟨⟨.no,.load false 1 (.t P5_5),some P5_6⟩,.read,0,0⟩,
 ⟨⟨.no,.faddr 0 1 (.t P5_3),some P5_7⟩,.val,0,0⟩,
 ⟨⟨.no,.load false 1 (.t P5_7),some P5_8⟩,.read,0,0⟩,
 ⟨⟨.no,.call (.c (.fn f_cmp_Compare_string [] [])) [(.t P5_6),(.t P5_8)],some P5_9⟩,.eff,0,1⟩,
 ⟨⟨.no,.faddr 1 2 (.t P5_2),some P5_10⟩,.val,0,1⟩,
 ⟨⟨.no,.faddr 0 1 (.t P5_10),some P5_11⟩,.val,0,1⟩,
 ⟨⟨.no,.load false 1 (.t P5_11),some P5_12⟩,.read,0,1⟩,
 ⟨⟨.no,.faddr 1 2 (.t P5_3),some P5_13⟩,.val,0,1⟩,
 ⟨⟨.no,.faddr 0 1 (.t P5_13),some P5_14⟩,.val,0,1⟩,
 ⟨⟨.no,.load false 1 (.t P5_14),some P5_15⟩,.read,0,1⟩,
 ⟨⟨.no,.call (.c (.fn f_cmp_Compare_api_Page [] [])) [(.t P5_12),(.t P5_15)],some P5_16⟩,.eff,1,2⟩,
 ⟨⟨.no,.faddr 1 2 (.t P5_2),some P5_17⟩,.val,0,2⟩,
 ⟨⟨.no,.faddr 1 1 (.t P5_17),some P5_18⟩,.val,0,2⟩,
 ⟨⟨.no,.load false 1 (.t P5_18),some P5_19⟩,.read,0,2⟩,
 ⟨⟨.no,.faddr 1 2 (.t P5_3),some P5_20⟩,.val,0,2⟩,
 ⟨⟨.no,.faddr 1 1 (.t P5_20),some P5_21⟩,.val,0,2⟩,
 ⟨⟨.no,.load false 1 (.t P5_21),some P5_22⟩,.read,0,2⟩,
 ⟨⟨.no,.call (.c (.fn f_cmp_Compare_int [] [])) [(.t P5_19),(.t P5_22)],some P5_23⟩,.eff,2,3⟩,
 ⟨⟨.no,.buildSl 3 [(.int .i64 (.ofNat 0))] [(0,1,(.t P5_9)),(1,1,(.t P5_16)),(2,1,(.t P5_23))],some P5_24⟩,.val,3,3⟩,
 ⟨⟨.no,.call (.c (.fn f_cmp_Or_int [] [])) [(.t P5_24)],some P5_25⟩,.eff,3,4⟩,
 ⟨⟨.no,.mv (.t P5_25),some P5_4⟩,.val,4,4⟩])
 .ret)), [.t P5_4], 0, false, false⟩
noncomputable def rf_rec_Encode : RFn := ⟨apOf 7 0 1, mkU 7, (.seq (.reg [⟨.no,.box (.t P7_0),some P7_1⟩,
 ⟨.no,.mv (.c (.str [])),some P7_2⟩,
 ⟨.no,.mv (.c (.int .i64 (.ofNat 0))),some P7_3⟩])
 (.seq (.seq (.reg [⟨.no,.load true 17 (.t P7_1),some P7_13⟩,
 ⟨.no,.call (.c (.fn f_rec_Check [] [])) [(.t P7_13)],some P7_14⟩,
 ⟨.no,.mv (.t P7_14),some P7_4⟩])
 (.seq (.reg [⟨.no,.mv (.t P7_4),some P7_15⟩,
 ⟨.no,.ne .int (.t P7_15) (.c (.int .i64 (.ofNat 0))),some P7_16⟩])
 (.cond (.t P7_16) (.seq (.reg [⟨.no,.mv (.t P7_4),some P7_17⟩,
 ⟨.no,.mv (.c (.str [])),some P7_2⟩,
 ⟨.no,.mv (.t P7_17),some P7_3⟩])
 .ret)
 .skip)))
 (.seq (.reg [⟨.no,.call (.c (.fn f_raw_NewWriter [] [])) [],some P7_18⟩,
 ⟨.no,.mv (.t P7_18),some P7_5⟩])
 (.seq (.reg [⟨.no,.mv (.t P7_5),some P7_19⟩,
 ⟨.no,.faddr 0 1 (.t P7_1),some P7_20⟩,
 ⟨.no,.load false 1 (.t P7_20),some P7_21⟩,
 ⟨.no,.conv (.toInt .u64) (.t P7_21),some P7_22⟩,
 ⟨.no,.call (.c (.fn f_raw_Writer_Number [] [])) [(.t P7_19),(.t P7_22),(.c (.int .i64 (.ofNat 1)))],some P7_23⟩])
 (.seq (.reg [⟨.no,.mv (.t P7_5),some P7_24⟩,
 ⟨.no,.faddr 1 1 (.t P7_1),some P7_25⟩,
 ⟨.no,.load false 1 (.t P7_25),some P7_26⟩,
 ⟨.no,.conv (.toInt .u64) (.t P7_26),some P7_27⟩,
 ⟨.no,.call (.c (.fn f_raw_Writer_Number [] [])) [(.t P7_24),(.t P7_27),(.c (.int .i64 (.ofNat 4)))],some P7_28⟩])
 (.seq (.reg [⟨.no,.mv (.t P7_5),some P7_29⟩,
 ⟨.no,.faddr 2 1 (.t P7_1),some P7_30⟩,
 ⟨.no,.load false 1 (.t P7_30),some P7_31⟩,
 ⟨.no,.call (.c (.fn f_raw_Writer_Number [] [])) [(.t P7_29),(.t P7_31),(.c (.int .i64 (.ofNat 8)))],some P7_32⟩])
 (.seq (.reg [⟨.no,.faddr 0 1 (.t P7_1),some P7_34⟩,
 ⟨.no,.load false 1 (.t P7_34),some P7_35⟩,
 ⟨.no,.call (.c (.fn f_rec_named [] [])) [(.t P7_35)],some P7_36⟩,
 ⟨.no,.mv (.t P7_36),some P7_33⟩,
 ⟨.no,.extr (.t P7_33) 0,some P7_37⟩,
 ⟨.no,.extr (.t P7_33) 1,some P7_38⟩,
 ⟨.no,.extr (.t P7_33) 2,some P7_39⟩,
 ⟨.no,.mv (.t P7_37),some P7_6⟩,
 ⟨.no,.mv (.t P7_38),some P7_7⟩,
 ⟨.no,.mv (.t P7_39),some P7_8⟩])
 (.seq (.seq (.reg [⟨.no,.mv (.t P7_7),some P7_40⟩])
 (.cond (.t P7_40) (.reg [⟨.no,.mv (.t P7_5),some P7_41⟩,
 ⟨.no,.faddr 3 1 (.t P7_1),some P7_42⟩,
 ⟨.no,.load false 1 (.t P7_42),some P7_43⟩,
 ⟨.no,.call (.c (.fn f_raw_Writer_Number [] [])) [(.t P7_41),(.t P7_43),(.c (.int .i64 (.ofNat 8)))],some P7_44⟩])
 .skip))
 (.seq (.seq (.reg [⟨.no,.mv (.t P7_6),some P7_45⟩])
 (.cond (.t P7_45) (.reg [⟨.no,.mv (.t P7_5),some P7_46⟩,
 ⟨.no,.load true 17 (.t P7_1),some P7_47⟩,
 ⟨.no,.call (.c (.fn f_rec_putChange [] [])) [(.t P7_46),(.t P7_47)],some P7_48⟩])
 .skip))
 (.seq (.seq (.reg [⟨.no,.mv (.t P7_8),some P7_49⟩])
 (.cond (.t P7_49) (.seq (.reg [⟨.no,.mv (.t P7_5),some P7_50⟩,
 ⟨.no,.faddr 15 1 (.t P7_1),some P7_51⟩,
 ⟨.no,.load false 1 (.t P7_51),some P7_52⟩,
 ⟨.no,.len .sl (.t P7_52),some P7_53⟩,
 ⟨.no,.conv (.toInt .u64) (.t P7_53),some P7_54⟩,
 ⟨.no,.call (.c (.fn f_raw_Writer_Number [] [])) [(.t P7_50),(.t P7_54),(.c (.int .i64 (.ofNat 2)))],some P7_55⟩])
 (.seq (.seq (.reg [⟨.no,.faddr 15 1 (.t P7_1),some P7_56⟩,
 ⟨.no,.load false 1 (.t P7_56),some P7_57⟩,
 ⟨.no,.len .sl (.t P7_57),some P7_58⟩,
 ⟨.no,.mv (.c (.int .i64 (.ofNat 0))),some P7_59⟩])
 (.block 0 (.loop (.seq (.reg [⟨.no,.bin .lss (.t P7_59) (.t P7_58),some P7_60⟩])
 (.seq (.cond (.t P7_60) .skip
 (.exit 0))
 (.seq (.block 1 (.seq (.reg [⟨.no,.ixSl 4 (.t P7_57) (.t P7_59),some P7_61⟩,
 ⟨.no,.load true 4 (.t P7_61),some P7_62⟩,
 ⟨.no,.alloc [(.int .i64 (.ofNat 0)),(.int .i64 (.ofNat 0)),(.int .u64 (.ofNat 0)),(.int .u64 (.ofNat 0))],some P7_10⟩,
 ⟨.no,.store 4 (.t P7_10) (.t P7_62),none⟩])
 (.seq (.reg [⟨.no,.mv (.t P7_5),some P7_63⟩,
 ⟨.no,.faddr 0 1 (.t P7_10),some P7_64⟩,
 ⟨.no,.load false 1 (.t P7_64),some P7_65⟩,
 ⟨.no,.conv (.toInt .u64) (.t P7_65),some P7_66⟩,
 ⟨.no,.call (.c (.fn f_raw_Writer_Number [] [])) [(.t P7_63),(.t P7_66),(.c (.int .i64 (.ofNat 4)))],some P7_67⟩])
 (.seq (.reg [⟨.no,.mv (.t P7_5),some P7_68⟩,
 ⟨.no,.faddr 1 1 (.t P7_10),some P7_69⟩,
 ⟨.no,.load false 1 (.t P7_69),some P7_70⟩,
 ⟨.no,.conv (.toInt .u64) (.t P7_70),some P7_71⟩,
 ⟨.no,.call (.c (.fn f_raw_Writer_Number [] [])) [(.t P7_68),(.t P7_71),(.c (.int .i64 (.ofNat 1)))],some P7_72⟩])
 (.seq (.reg [⟨.no,.mv (.t P7_5),some P7_73⟩,
 ⟨.no,.faddr 2 1 (.t P7_10),some P7_74⟩,
 ⟨.no,.load false 1 (.t P7_74),some P7_75⟩,
 ⟨.no,.call (.c (.fn f_raw_Writer_Number [] [])) [(.t P7_73),(.t P7_75),(.c (.int .i64 (.ofNat 8)))],some P7_76⟩])
 (.reg [⟨.no,.mv (.t P7_5),some P7_77⟩,
 ⟨.no,.faddr 3 1 (.t P7_10),some P7_78⟩,
 ⟨.no,.load false 1 (.t P7_78),some P7_79⟩,
 ⟨.no,.call (.c (.fn f_raw_Writer_Number [] [])) [(.t P7_77),(.t P7_79),(.c (.int .i64 (.ofNat 8)))],some P7_80⟩]))))))
 (.reg [⟨.no,.bin .add (.t P7_59) (.c (.int .i64 (.ofNat 1))),some P7_81⟩,
 ⟨.no,.mv (.t P7_81),some P7_59⟩])))))))
 (.seq (.reg [⟨.no,.mv (.t P7_5),some P7_82⟩,
 ⟨.no,.faddr 16 1 (.t P7_1),some P7_83⟩,
 ⟨.no,.load false 1 (.t P7_83),some P7_84⟩,
 ⟨.no,.len .sl (.t P7_84),some P7_85⟩,
 ⟨.no,.conv (.toInt .u64) (.t P7_85),some P7_86⟩,
 ⟨.no,.call (.c (.fn f_raw_Writer_Number [] [])) [(.t P7_82),(.t P7_86),(.c (.int .i64 (.ofNat 2)))],some P7_87⟩])
 (.seq (.reg [⟨.no,.faddr 16 1 (.t P7_1),some P7_88⟩,
 ⟨.no,.load false 1 (.t P7_88),some P7_89⟩,
 ⟨.no,.len .sl (.t P7_89),some P7_90⟩,
 ⟨.no,.mv (.c (.int .i64 (.ofNat 0))),some P7_91⟩])
 (.block 2 (.loop (.seq (.reg [⟨.no,.bin .lss (.t P7_91) (.t P7_90),some P7_92⟩])
 (.seq (.cond (.t P7_92) .skip
 (.exit 2))
 (.seq (.block 3 (.seq (.reg [⟨.no,.ixSl 2 (.t P7_89) (.t P7_91),some P7_93⟩,
 ⟨.no,.load true 2 (.t P7_93),some P7_94⟩,
 ⟨.no,.alloc [(.int .u32 (.ofNat 0)),(.int .u64 (.ofNat 0))],some P7_12⟩,
 ⟨.no,.store 2 (.t P7_12) (.t P7_94),none⟩])
 (.seq (.reg [⟨.no,.mv (.t P7_5),some P7_95⟩,
 ⟨.no,.faddr 0 1 (.t P7_12),some P7_96⟩,
 ⟨.no,.load false 1 (.t P7_96),some P7_97⟩,
 ⟨.no,.conv (.toInt .u64) (.t P7_97),some P7_98⟩,
 ⟨.no,.call (.c (.fn f_raw_Writer_Number [] [])) [(.t P7_95),(.t P7_98),(.c (.int .i64 (.ofNat 4)))],some P7_99⟩])
 (.reg [⟨.no,.mv (.t P7_5),some P7_100⟩,
 ⟨.no,.faddr 1 1 (.t P7_12),some P7_101⟩,
 ⟨.no,.load false 1 (.t P7_101),some P7_102⟩,
 ⟨.no,.call (.c (.fn f_raw_Writer_Number [] [])) [(.t P7_100),(.t P7_102),(.c (.int .i64 (.ofNat 8)))],some P7_103⟩]))))
 (.reg [⟨.no,.bin .add (.t P7_91) (.c (.int .i64 (.ofNat 1))),some P7_104⟩,
 ⟨.no,.mv (.t P7_104),some P7_91⟩]))))))))))
 .skip))
 (.seq (.reg [⟨.no,.mv (.t P7_5),some P7_105⟩,
 ⟨.no,.call (.c (.fn f_raw_Writer_All [] [])) [(.t P7_105)],some P7_106⟩,
 ⟨.no,.mv (.t P7_106),some P7_2⟩,
 ⟨.no,.mv (.c (.int .i64 (.ofNat 0))),some P7_3⟩])
 .ret))))))))))), [.t P7_2,.t P7_3], 0, false, false⟩
noncomputable def rf_key_Values : RFn := ⟨apOf 7 0 1, mkU 7, (.seq (.reg [⟨.no,.mv (.c (.sl 0 [] .nil)),some P7_2⟩,
 ⟨.no,.mv (.c (.int .i64 (.ofNat 0))),some P7_3⟩])
 (.seq (.reg [⟨.no,.mv (.t P7_0),some P7_10⟩,
 ⟨.no,.call (.c (.fn f_raw_NewReader [] [])) [(.t P7_10)],some P7_11⟩,
 ⟨.no,.mv (.t P7_11),some P7_4⟩])
 (.seq (.reg [⟨.no,.mv (.c (.sl 0 [] .nil)),some P7_5⟩])
 (.seq (.seq (.reg [⟨.no,.mv (.t P7_4),some P7_12⟩,
 ⟨.no,.call (.c (.fn f_raw_Reader_Number [] [])) [(.t P7_12),(.c (.int .i64 (.ofNat 1)))],some P7_13⟩,
 ⟨.no,.conv (.toInt .i64) (.t P7_13),some P7_14⟩,
 ⟨.no,.mv (.t P7_14),some P7_6⟩])
 (.block 0 (.loop (.seq (.seq (.reg [⟨.no,.mv (.t P7_6),some P7_15⟩,
 ⟨.no,.bin .gtr (.t P7_15) (.c (.int .i64 (.ofNat 0))),some P7_16⟩,
 ⟨.no,.mv (.t P7_16),some P7_17⟩,
 ⟨(.on P7_17 true),.mv (.t P7_4),some P7_18⟩,
 ⟨(.on P7_17 true),.call (.c (.fn f_raw_Reader_Err [] [])) [(.t P7_18)],some P7_19⟩,
 ⟨(.on P7_17 true),.eq .int (.t P7_19) (.c (.int .i64 (.ofNat 0))),some P7_20⟩,
 ⟨.no,.pick (.t P7_17) (.t P7_20) (.c (.bool false)),some P7_21⟩])
 (.cond (.t P7_21) .skip
 (.exit 0)))
 (.seq (.block 1 (.seq (.reg [⟨.no,.mv (.t P7_4),some P7_24⟩,
 ⟨.no,.call (.c (.fn f_raw_Reader_Number [] [])) [(.t P7_24),(.c (.int .i64 (.ofNat 1)))],some P7_25⟩,
 ⟨.no,.conv (.toInt .i64) (.t P7_25),some P7_26⟩,
 ⟨.no,.build [(.int .i64 (.ofNat 0)),(.int .i64 (.ofNat 0)),(.str [])] [(0,1,(.t P7_26))],some P7_27⟩,
 ⟨.no,.alloc [(.int .i64 (.ofNat 0)),(.int .i64 (.ofNat 0)),(.str [])],some P7_7⟩,
 ⟨.no,.store 3 (.t P7_7) (.t P7_27),none⟩])
 (.seq (.seq (.reg [⟨.no,.faddr 0 1 (.t P7_7),some P7_28⟩,
 ⟨.no,.load false 1 (.t P7_28),some P7_29⟩])
 (.block 2 (.seq (.reg [⟨.no,.eq .int (.t P7_29) (.c (.int .i64 (.ofNat 1))),some P7_31⟩,
 ⟨.no,.mv (.t P7_31),some P7_30⟩])
 (.cond (.t P7_30) (.reg [⟨.no,.mv (.t P7_4),some P7_32⟩,
 ⟨.no,.call (.c (.fn f_raw_Reader_Number [] [])) [(.t P7_32),(.c (.int .i64 (.ofNat 8)))],some P7_33⟩,
 ⟨.no,.conv (.toInt .i64) (.t P7_33),some P7_34⟩,
 ⟨.no,.faddr 1 1 (.t P7_7),some P7_35⟩,
 ⟨.no,.store 1 (.t P7_35) (.t P7_34),none⟩])
 (.seq (.reg [⟨.no,.eq .int (.t P7_29) (.c (.int .i64 (.ofNat 2))),some P7_37⟩,
 ⟨.no,.mv (.t P7_37),some P7_36⟩])
 (.cond (.t P7_36) (.reg [⟨.no,.mv (.t P7_4),some P7_38⟩,
 ⟨.no,.mv (.t P7_4),some P7_39⟩,
 ⟨.no,.call (.c (.fn f_raw_Reader_Number [] [])) [(.t P7_39),(.c (.int .i64 (.ofNat 1)))],some P7_40⟩,
 ⟨.no,.conv (.toInt .i64) (.t P7_40),some P7_41⟩,
 ⟨.no,.call (.c (.fn f_raw_Reader_Bytes [] [])) [(.t P7_38),(.t P7_41)],some P7_42⟩,
 ⟨.no,.faddr 2 1 (.t P7_7),some P7_43⟩,
 ⟨.no,.store 1 (.t P7_43) (.t P7_42),none⟩])
 .skip))))))
 (.reg [⟨.no,.mv (.t P7_5),some P7_44⟩,
 ⟨.no,.load true 3 (.t P7_7),some P7_45⟩,
 ⟨.no,.buildSl 1 [(.int .i64 (.ofNat 0)),(.int .i64 (.ofNat 0)),(.str [])] [(0,3,(.t P7_45))],some P7_46⟩,
 ⟨.no,.app 3 32 false (.t P7_44) (.t P7_46),some P7_47⟩,
 ⟨.no,.mv (.t P7_47),some P7_5⟩]))))
 (.reg [⟨.no,.mv (.t P7_6),some P7_22⟩,
 ⟨.no,.bin .sub (.t P7_22) (.c (.int .i64 (.ofNat 1))),some P7_23⟩,
 ⟨.no,.mv (.t P7_23),some P7_6⟩]))))))
 (.seq (.seq (.reg [⟨.no,.mv (.t P7_5),some P7_49⟩,
 ⟨.no,.call (.c (.fn f_key_Row [] [])) [(.t P7_49)],some P7_50⟩,
 ⟨.no,.mv (.t P7_50),some P7_48⟩,
 ⟨.no,.extr (.t P7_48) 0,some P7_51⟩,
 ⟨.no,.extr (.t P7_48) 1,some P7_52⟩,
 ⟨.no,.mv (.t P7_51),some P7_8⟩,
 ⟨.no,.mv (.t P7_52),some P7_9⟩])
 (.seq (.reg [⟨.no,.mv (.t P7_4),some P7_53⟩,
 ⟨.no,.call (.c (.fn f_raw_Reader_End [] [])) [(.t P7_53)],some P7_54⟩,
 ⟨.no,.ne .int (.t P7_54) (.c (.int .i64 (.ofNat 0))),some P7_55⟩,
 ⟨.no,.mv (.t P7_55),some P7_56⟩,
 ⟨(.on P7_56 false),.mv (.t P7_9),some P7_57⟩,
 ⟨(.on P7_56 false),.ne .int (.t P7_57) (.c (.int .i64 (.ofNat 0))),some P7_58⟩,
 ⟨.no,.pick (.t P7_56) (.c (.bool true)) (.t P7_58),some P7_59⟩,
 ⟨.no,.mv (.t P7_59),some P7_60⟩,
 ⟨(.on P7_60 false),.mv (.t P7_8),some P7_61⟩,
 ⟨(.on P7_60 false),.mv (.t P7_0),some P7_62⟩,
 ⟨(.on P7_60 false),.ne .str (.t P7_61) (.t P7_62),some P7_63⟩,
 ⟨.no,.pick (.t P7_60) (.c (.bool true)) (.t P7_63),some P7_64⟩])
 (.cond (.t P7_64) (.seq (.reg [⟨.no,.mv (.c (.sl 0 [] .nil)),some P7_2⟩,
 ⟨.no,.mv (.c (.int .i64 (.ofNat 6))),some P7_3⟩])
 .ret)
 .skip)))
 (.seq (.reg [⟨.no,.mv (.t P7_5),some P7_65⟩,
 ⟨.no,.mv (.t P7_65),some P7_2⟩,
 ⟨.no,.mv (.c (.int .i64 (.ofNat 0))),some P7_3⟩])
 .ret)))))), [.t P7_2,.t P7_3], 0, false, false⟩
noncomputable def rf_math_bits_Len : RFn := ⟨apOf 3 0 1, mkU 3, (.seq (.reg [⟨.no,.mv (.c (.int .i64 (.ofNat 0))),some P3_2⟩])
 (.seq (.cond (.c (.bool false)) (.seq (.reg [⟨.no,.mv (.t P3_0),some P3_3⟩,
 ⟨.no,.conv (.toInt .u32) (.t P3_3),some P3_4⟩,
 ⟨.no,.call (.c (.fn f_math_bits_Len32 [] [])) [(.t P3_4)],some P3_5⟩,
 ⟨.no,.mv (.t P3_5),some P3_2⟩])
 .ret)
 .skip)
 (.seq (.reg [⟨.no,.mv (.t P3_0),some P3_6⟩,
 ⟨.no,.call (.c (.fn f_math_bits_Len64 [] [])) [(.t P3_6)],some P3_7⟩,
 ⟨.no,.mv (.t P3_7),some P3_2⟩])
 .ret))), [.t P3_2], 0, false, false⟩
noncomputable def rf_cmp_isNaN_int : RFn := ⟨apOf 3 0 1, mkU 3, (.seq (.reg [⟨.no,.mv (.c (.bool false)),some P3_2⟩])
 (.seq (.reg [⟨.no,.mv (.t P3_0),some P3_3⟩,
 ⟨.no,.mv (.t P3_0),some P3_4⟩,
 ⟨.no,.ne .int (.t P3_3) (.t P3_4),some P3_5⟩,
 ⟨.no,.mv (.t P3_5),some P3_2⟩])
 .ret)), [.t P3_2], 0, false, false⟩
noncomputable def rf_slices_pdqsortCmpFunc_api_Index : RFn := ⟨apOf 8 0 5, mkU 8, (.seq (.reg [⟨.no,.mv (.c (.bool true)),some P8_10⟩])
 (.seq (.reg [⟨.no,.mv (.c (.bool true)),some P8_11⟩])
 (.block 0 (.loop (.block 1 (.seq (.reg [⟨.no,.mv (.t P8_2),some P8_21⟩,
 ⟨.no,.mv (.t P8_1),some P8_22⟩,
 ⟨.no,.bin .sub (.t P8_21) (.t P8_22),some P8_23⟩,
 ⟨.no,.mv (.t P8_23),some P8_12⟩])
 (.seq (.seq (.reg [⟨.no,.mv (.t P8_12),some P8_24⟩,
 ⟨.no,.bin .leq (.t P8_24) (.c (.int .i64 (.ofNat 12))),some P8_25⟩])
 (.cond (.t P8_25) (.seq (.reg [⟨.no,.mv (.t P8_0),some P8_26⟩,
 ⟨.no,.mv (.t P8_1),some P8_27⟩,
 ⟨.no,.mv (.t P8_2),some P8_28⟩,
 ⟨.no,.mv (.t P8_4),some P8_29⟩,
 ⟨.no,.call (.c (.fn f_slices_insertionSortCmpFunc_api_Index [] [])) [(.t P8_26),(.t P8_27),(.t P8_28),(.t P8_29)],some P8_30⟩])
 .ret)
 .skip))
 (.seq (.seq (.reg [⟨.no,.mv (.t P8_3),some P8_31⟩,
 ⟨.no,.eq .int (.t P8_31) (.c (.int .i64 (.ofNat 0))),some P8_32⟩])
 (.cond (.t P8_32) (.seq (.reg [⟨.no,.mv (.t P8_0),some P8_33⟩,
 ⟨.no,.mv (.t P8_1),some P8_34⟩,
 ⟨.no,.mv (.t P8_2),some P8_35⟩,
 ⟨.no,.mv (.t P8_4),some P8_36⟩,
 ⟨.no,.call (.c (.fn f_slices_heapSortCmpFunc_api_Index [] [])) [(.t P8_33),(.t P8_34),(.t P8_35),(.t P8_36)],some P8_37⟩])
 .ret)
 .skip))
 (.seq (.seq (.reg [⟨.no,.mv (.t P8_10),some P8_38⟩,
 ⟨.no,.un .not (.t P8_38),some P8_39⟩])
 (.cond (.t P8_39) (.seq (.reg [⟨.no,.mv (.t P8_0),some P8_40⟩,
 ⟨.no,.mv (.t P8_1),some P8_41⟩,
 ⟨.no,.mv (.t P8_2),some P8_42⟩,
 ⟨.no,.mv (.t P8_4),some P8_43⟩,
 ⟨.no,.call (.c (.fn f_slices_breakPatternsCmpFunc_api_Index [] [])) [(.t P8_40),(.t P8_41),(.t P8_42),(.t P8_43)],some P8_44⟩])
 (.reg [⟨.no,.mv (.t P8_3),some P8_45⟩,
 ⟨.no,.bin .sub (.t P8_45) (.c (.int .i64 (.ofNat 1))),some P8_46⟩,
 ⟨.no,.mv (.t P8_46),some P8_3⟩]))
 .skip))
 (.seq (.reg [⟨.no,.mv (.t P8_0),some P8_48⟩,
 ⟨.no,.mv (.t P8_1),some P8_49⟩,
 ⟨.no,.mv (.t P8_2),some P8_50⟩,
 ⟨.no,.mv (.t P8_4),some P8_51⟩,
 ⟨.no,.call (.c (.fn f_slices_choosePivotCmpFunc_api_Index [] [])) [(.t P8_48),(.t P8_49),(.t P8_50),(.t P8_51)],some P8_52⟩,
 ⟨.no,.mv (.t P8_52),some P8_47⟩,
 ⟨.no,.extr (.t P8_47) 0,some P8_53⟩,
 ⟨.no,.extr (.t P8_47) 1,some P8_54⟩,
 ⟨.no,.mv (.t P8_53),some P8_13⟩,
 ⟨.no,.mv (.t P8_54),some P8_14⟩])
 (.seq (.seq (.reg [⟨.no,.mv (.t P8_14),some P8_55⟩,
 ⟨.no,.eq .int (.t P8_55) (.c (.int .i64 (.ofNat 2))),some P8_56⟩])
 (.cond (.t P8_56) (.seq (.reg [⟨.no,.mv (.t P8_0),some P8_57⟩,
 ⟨.no,.mv (.t P8_1),some P8_58⟩,
 ⟨.no,.mv (.t P8_2),some P8_59⟩,
 ⟨.no,.mv (.t P8_4),some P8_60⟩,
 ⟨.no,.call (.c (.fn f_slices_reverseRangeCmpFunc_api_Index [] [])) [(.t P8_57),(.t P8_58),(.t P8_59),(.t P8_60)],some P8_61⟩])
 (.seq (.reg [⟨.no,.mv (.t P8_2),some P8_62⟩,
 ⟨.no,.bin .sub (.t P8_62) (.c (.int .i64 (.ofNat 1))),some P8_63⟩,
 ⟨.no,.mv (.t P8_13),some P8_64⟩,
 ⟨.no,.mv (.t P8_1),some P8_65⟩,
 ⟨.no,.bin .sub (.t P8_64) (.t P8_65),some P8_66⟩,
 ⟨.no,.bin .sub (.t P8_63) (.t P8_66),some P8_67⟩,
 ⟨.no,.mv (.t P8_67),some P8_13⟩])
 (.reg [⟨.no,.mv (.c (.int .i64 (.ofNat 1))),some P8_14⟩])))
 .skip))
 (.seq (.seq (.reg [⟨.no,.mv (.t P8_10),some P8_68⟩,
 ⟨.no,.mv (.t P8_68),some P8_69⟩,
 ⟨(.on P8_69 true),.mv (.t P8_11),some P8_70⟩,
 ⟨.no,.pick (.t P8_69) (.t P8_70) (.c (.bool false)),some P8_71⟩,
 ⟨.no,.mv (.t P8_71),some P8_72⟩,
 ⟨(.on P8_72 true),.mv (.t P8_14),some P8_73⟩,
 ⟨(.on P8_72 true),.eq .int (.t P8_73) (.c (.int .i64 (.ofNat 1))),some P8_74⟩,
 ⟨.no,.pick (.t P8_72) (.t P8_74) (.c (.bool false)),some P8_75⟩])
 (.cond (.t P8_75) (.seq (.reg [⟨.no,.mv (.t P8_0),some P8_76⟩,
 ⟨.no,.mv (.t P8_1),some P8_77⟩,
 ⟨.no,.mv (.t P8_2),some P8_78⟩,
 ⟨.no,.mv (.t P8_4),some P8_79⟩,
 ⟨.no,.call (.c (.fn f_slices_partialInsertionSortCmpFunc_api_Index [] [])) [(.t P8_76),(.t P8_77),(.t P8_78),(.t P8_79)],some P8_80⟩])
 (.cond (.t P8_80) .ret
 .skip))
 .skip))
 (.seq (.seq (.draw [] 18 [⟨⟨.no,.mv (.t P8_1),some P8_81⟩,.val,0,0⟩,
 ⟨⟨.no,.bin .gtr (.t P8_81) (.c (.int .i64 (.ofNat 0))),some P8_82⟩,.val,0,0⟩,
 ⟨⟨.no,.mv (.t P8_82),some P8_83⟩,.val,0,0⟩,
 ⟨⟨(.on P8_83 true),.mv (.t P8_4),some P8_84⟩,.val,0,0⟩,
 ⟨⟨(.on P8_83 true),.mv (.t P8_0),some P8_85⟩,.val,0,0⟩,
 ⟨⟨(.on P8_83 true),.mv (.t P8_1),some P8_86⟩,.val,0,0⟩,
 ⟨⟨(.on P8_83 true),.bin .sub (.t P8_86) (.c (.int .i64 (.ofNat 1))),some P8_87⟩,.val,0,0⟩,
 ⟨⟨(.on P8_83 true),.ixSl 5 (.t P8_85) (.t P8_87),some P8_88⟩,.val,0,0⟩,
 ⟨⟨(.on P8_83 true),.load true 5 (.t P8_88),some P8_89⟩,.read,0,0⟩,
 ⟨⟨(.on P8_83 true),.mv (.t P8_0),some P8_90⟩,.val,0,0⟩,
 ⟨⟨(.on P8_83 true),.mv (.t P8_13),some P8_91⟩,.val,0,0⟩,
 ⟨⟨(.on P8_83 true),.ixSl 5 (.t P8_90) (.t P8_91),some P8_92⟩,.val,0,0⟩,
 ⟨⟨(.on P8_83 true),.load true 5 (.t P8_92),some P8_93⟩,.read,0,0⟩,
 ⟨⟨(.on P8_83 true),.call (.t P8_84) [(.t P8_89),(.t P8_93)],some P8_94⟩,.eff,0,1⟩,
 ⟨⟨(.on P8_83 true),.bin .lss (.t P8_94) (.c (.int .i64 (.ofNat 0))),some P8_95⟩,.val,1,1⟩,
 ⟨⟨(.on P8_83 true),.un .not (.t P8_95),some P8_96⟩,.val,1,1⟩,
 ⟨⟨.no,.pick (.t P8_83) (.t P8_96) (.c (.bool false)),some P8_97⟩,.val,1,1⟩])
 (.cond (.t P8_97) (.seq (.reg [⟨.no,.mv (.t P8_0),some P8_98⟩,
 ⟨.no,.mv (.t P8_1),some P8_99⟩,
 ⟨.no,.mv (.t P8_2),some P8_100⟩,
 ⟨.no,.mv (.t P8_13),some P8_101⟩,
 ⟨.no,.mv (.t P8_4),some P8_102⟩,
 ⟨.no,.call (.c (.fn f_slices_partitionEqualCmpFunc_api_Index [] [])) [(.t P8_98),(.t P8_99),(.t P8_100),(.t P8_101),(.t P8_102)],some P8_103⟩,
 ⟨.no,.mv (.t P8_103),some P8_15⟩])
 (.seq (.reg [⟨.no,.mv (.t P8_15),some P8_104⟩,
 ⟨.no,.mv (.t P8_104),some P8_1⟩])
 (.exit 1)))
 .skip))
 (.seq (.reg [⟨.no,.mv (.t P8_0),some P8_106⟩,
 ⟨.no,.mv (.t P8_1),some P8_107⟩,
 ⟨.no,.mv (.t P8_2),some P8_108⟩,
 ⟨.no,.mv (.t P8_13),some P8_109⟩,
 ⟨.no,.mv (.t P8_4),some P8_110⟩,
 ⟨.no,.call (.c (.fn f_slices_partitionCmpFunc_api_Index [] [])) [(.t P8_106),(.t P8_107),(.t P8_108),(.t P8_109),(.t P8_110)],some P8_111⟩,
 ⟨.no,.mv (.t P8_111),some P8_105⟩,
 ⟨.no,.extr (.t P8_105) 0,some P8_112⟩,
 ⟨.no,.extr (.t P8_105) 1,some P8_113⟩,
 ⟨.no,.mv (.t P8_112),some P8_16⟩,
 ⟨.no,.mv (.t P8_113),some P8_17⟩])
 (.seq (.reg [⟨.no,.mv (.t P8_17),some P8_114⟩,
 ⟨.no,.mv (.t P8_114),some P8_11⟩])
 (.seq (.reg [⟨.no,.mv (.t P8_16),some P8_115⟩,
 ⟨.no,.mv (.t P8_1),some P8_116⟩,
 ⟨.no,.bin .sub (.t P8_115) (.t P8_116),some P8_117⟩,
 ⟨.no,.mv (.t P8_2),some P8_118⟩,
 ⟨.no,.mv (.t P8_16),some P8_119⟩,
 ⟨.no,.bin .sub (.t P8_118) (.t P8_119),some P8_120⟩,
 ⟨.no,.mv (.t P8_117),some P8_18⟩,
 ⟨.no,.mv (.t P8_120),some P8_19⟩])
 (.seq (.reg [⟨.no,.mv (.t P8_12),some P8_121⟩,
 ⟨.no,.bin .quo (.t P8_121) (.c (.int .i64 (.ofNat 8))),some P8_122⟩,
 ⟨.no,.mv (.t P8_122),some P8_20⟩])
 (.seq (.reg [⟨.no,.mv (.t P8_18),some P8_123⟩,
 ⟨.no,.mv (.t P8_19),some P8_124⟩,
 ⟨.no,.bin .lss (.t P8_123) (.t P8_124),some P8_125⟩])
 (.cond (.t P8_125) (.seq (.reg [⟨.no,.mv (.t P8_18),some P8_126⟩,
 ⟨.no,.mv (.t P8_20),some P8_127⟩,
 ⟨.no,.bin .geq (.t P8_126) (.t P8_127),some P8_128⟩,
 ⟨.no,.mv (.t P8_128),some P8_10⟩])
 (.seq (.reg [⟨.no,.mv (.t P8_0),some P8_129⟩,
 ⟨.no,.mv (.t P8_1),some P8_130⟩,
 ⟨.no,.mv (.t P8_16),some P8_131⟩,
 ⟨.no,.mv (.t P8_3),some P8_132⟩,
 ⟨.no,.mv (.t P8_4),some P8_133⟩,
 ⟨.no,.call (.c (.fn f_slices_pdqsortCmpFunc_api_Index [] [])) [(.t P8_129),(.t P8_130),(.t P8_131),(.t P8_132),(.t P8_133)],some P8_134⟩])
 (.reg [⟨.no,.mv (.t P8_16),some P8_135⟩,
 ⟨.no,.bin .add (.t P8_135) (.c (.int .i64 (.ofNat 1))),some P8_136⟩,
 ⟨.no,.mv (.t P8_136),some P8_1⟩])))
 (.seq (.reg [⟨.no,.mv (.t P8_19),some P8_137⟩,
 ⟨.no,.mv (.t P8_20),some P8_138⟩,
 ⟨.no,.bin .geq (.t P8_137) (.t P8_138),some P8_139⟩,
 ⟨.no,.mv (.t P8_139),some P8_10⟩])
 (.seq (.reg [⟨.no,.mv (.t P8_0),some P8_140⟩,
 ⟨.no,.mv (.t P8_16),some P8_141⟩,
 ⟨.no,.bin .add (.t P8_141) (.c (.int .i64 (.ofNat 1))),some P8_142⟩,
 ⟨.no,.mv (.t P8_2),some P8_143⟩,
 ⟨.no,.mv (.t P8_3),some P8_144⟩,
 ⟨.no,.mv (.t P8_4),some P8_145⟩,
 ⟨.no,.call (.c (.fn f_slices_pdqsortCmpFunc_api_Index [] [])) [(.t P8_140),(.t P8_142),(.t P8_143),(.t P8_144),(.t P8_145)],some P8_146⟩])
 (.reg [⟨.no,.mv (.t P8_16),some P8_147⟩,
 ⟨.no,.mv (.t P8_147),some P8_2⟩])))))))))))))))))))))), [], 0, false, false⟩
noncomputable def rf_pool_Pool_Disk : RFn := ⟨apOf 4 0 1, mkU 4, (.seq (.reg [⟨.no,.mv (.c .nilp),some P4_2⟩])
 (.seq (.seq (.reg [⟨.no,.mv (.t P4_0),some P4_3⟩,
 ⟨.no,.eq .ptr (.t P4_3) (.c .nilp),some P4_4⟩])
 (.cond (.t P4_4) (.seq (.reg [⟨.no,.mv (.c .nilp),some P4_2⟩])
 .ret)
 .skip))
 (.seq (.reg [⟨.no,.mv (.t P4_0),some P4_5⟩,
 ⟨.no,.nilc (.t P4_5),some P4_6⟩,
 ⟨.no,.faddr 0 1 (.t P4_6),some P4_7⟩,
 ⟨.no,.load false 1 (.t P4_7),some P4_8⟩,
 ⟨.no,.mv (.t P4_8),some P4_2⟩])
 .ret))), [.t P4_2], 0, false, false⟩
noncomputable def rf_disk_Disk_Room : RFn := ⟨apOf 4 0 1, mkU 4, (.seq (.reg [⟨.no,.mv (.c (.int .i64 (.ofNat 0))),some P4_2⟩])
 (.seq (.seq (.reg [⟨.no,.mv (.t P4_0),some P4_3⟩,
 ⟨.no,.eq .ptr (.t P4_3) (.c .nilp),some P4_4⟩])
 (.cond (.t P4_4) (.seq (.reg [⟨.no,.mv (.c (.int .i64 (.ofNat 0))),some P4_2⟩])
 .ret)
 .skip))
 (.seq (.reg [⟨.no,.mv (.t P4_0),some P4_5⟩,
 ⟨.no,.nilc (.t P4_5),some P4_6⟩,
 ⟨.no,.faddr 0 1 (.t P4_6),some P4_7⟩,
 ⟨.no,.load false 1 (.t P4_7),some P4_8⟩,
 ⟨.no,.mv (.t P4_8),some P4_2⟩])
 .ret))), [.t P4_2], 0, false, false⟩
noncomputable def rf_raw_Writer_Number : RFn := ⟨apOf 4 0 3, mkU 4, (.reg [⟨.no,.mv (.t P4_0),some P4_6⟩,
 ⟨.no,.mv (.t P4_1),some P4_7⟩,
 ⟨.no,.mv (.t P4_2),some P4_8⟩,
 ⟨.no,.call (.c (.fn f_raw_Put [] [])) [(.t P4_7),(.t P4_8)],some P4_9⟩,
 ⟨.no,.call (.c (.fn f_raw_Writer_Bytes [] [])) [(.t P4_6),(.t P4_9)],some P4_10⟩]), [], 0, false, false⟩
noncomputable def rf_raw_Writer_Bytes : RFn := ⟨apOf 4 0 2, mkU 4, (.seq (.reg [⟨.no,.mv (.t P4_0),some P4_4⟩,
 ⟨.no,.ne .ptr (.t P4_4) (.c .nilp),some P4_5⟩])
 (.cond (.t P4_5) (.reg [⟨.no,.mv (.t P4_0),some P4_6⟩,
 ⟨.no,.mv (.t P4_0),some P4_7⟩,
 ⟨.no,.nilc (.t P4_7),some P4_8⟩,
 ⟨.no,.faddr 0 1 (.t P4_8),some P4_9⟩,
 ⟨.no,.load false 1 (.t P4_9),some P4_10⟩,
 ⟨.no,.mv (.t P4_1),some P4_11⟩,
 ⟨.no,.app 1 1 true (.t P4_10) (.t P4_11),some P4_12⟩,
 ⟨.no,.nilc (.t P4_6),some P4_13⟩,
 ⟨.no,.faddr 0 1 (.t P4_13),some P4_14⟩,
 ⟨.no,.store 1 (.t P4_14) (.t P4_12),none⟩])
 .skip)), [], 0, false, false⟩
noncomputable def rf_raw_Writer_Len : RFn := ⟨apOf 4 0 1, mkU 4, (.seq (.reg [⟨.no,.mv (.c (.int .i64 (.ofNat 0))),some P4_2⟩])
 (.seq (.seq (.reg [⟨.no,.mv (.t P4_0),some P4_3⟩,
 ⟨.no,.eq .ptr (.t P4_3) (.c .nilp),some P4_4⟩])
 (.cond (.t P4_4) (.seq (.reg [⟨.no,.mv (.c (.int .i64 (.ofNat 0))),some P4_2⟩])
 .ret)
 .skip))
 (.seq (.reg [⟨.no,.mv (.t P4_0),some P4_5⟩,
 ⟨.no,.nilc (.t P4_5),some P4_6⟩,
 ⟨.no,.faddr 0 1 (.t P4_6),some P4_7⟩,
 ⟨.no,.load false 1 (.t P4_7),some P4_8⟩,
 ⟨.no,.len .sl (.t P4_8),some P4_9⟩,
 ⟨.no,.mv (.t P4_9),some P4_2⟩])
 .ret))), [.t P4_2], 0, false, false⟩
noncomputable def rf_raw_Writer_All : RFn := ⟨apOf 4 0 1, mkU 4, (.seq (.reg [⟨.no,.mv (.c (.str [])),some P4_2⟩])
 (.seq (.seq (.reg [⟨.no,.mv (.t P4_0),some P4_3⟩,
 ⟨.no,.eq .ptr (.t P4_3) (.c .nilp),some P4_4⟩])
 (.cond (.t P4_4) (.seq (.reg [⟨.no,.mv (.c (.str [])),some P4_2⟩])
 .ret)
 .skip))
 (.seq (.reg [⟨.no,.mv (.t P4_0),some P4_5⟩,
 ⟨.no,.nilc (.t P4_5),some P4_6⟩,
 ⟨.no,.faddr 0 1 (.t P4_6),some P4_7⟩,
 ⟨.no,.load false 1 (.t P4_7),some P4_8⟩,
 ⟨.no,.conv .toStr (.t P4_8),some P4_9⟩,
 ⟨.no,.mv (.t P4_9),some P4_2⟩])
 .ret))), [.t P4_2], 0, false, false⟩
noncomputable def rf_heap_Pages : RFn := ⟨apOf 6 0 2, mkU 6, (.seq (.reg [⟨.no,.mv (.c (.sl 0 [] .nil)),some P6_4⟩,
 ⟨.no,.mv (.c (.int .i64 (.ofNat 0))),some P6_5⟩])
 (.seq (.reg [⟨.no,.mv (.c (.sl 0 [] .nil)),some P6_6⟩])
 (.seq (.seq (.reg [⟨.no,.mv (.t P6_1),some P6_10⟩,
 ⟨.no,.mv (.t P6_10),some P6_7⟩])
 (.block 0 (.loop (.seq (.seq (.reg [⟨.no,.mv (.t P6_7),some P6_11⟩,
 ⟨.no,.ne .int (.t P6_11) (.c (.int .u32 (.ofNat 0))),some P6_12⟩])
 (.cond (.t P6_12) .skip
 (.exit 0)))
 (.block 1 (.seq (.reg [⟨.no,.mv (.t P6_0),some P6_14⟩,
 ⟨.no,.call (.c (.fn f_txn_Manager_Pool [] [])) [(.t P6_14)],some P6_15⟩,
 ⟨.no,.mv (.t P6_7),some P6_16⟩,
 ⟨.no,.call (.c (.fn f_pool_Pool_Get [] [])) [(.t P6_15),(.t P6_16)],some P6_17⟩,
 ⟨.no,.mv (.t P6_17),some P6_13⟩,
 ⟨.no,.extr (.t P6_13) 0,some P6_18⟩,
 ⟨.no,.extr (.t P6_13) 1,some P6_19⟩,
 ⟨.no,.alloc [(.int .u32 (.ofNat 0)),(.int .u64 (.ofNat 0)),(.int .i64 (.ofNat 0)),(.str []),(.sl 0 [] .nil)],some P6_8⟩,
 ⟨.no,.store 5 (.t P6_8) (.t P6_18),none⟩,
 ⟨.no,.mv (.t P6_19),some P6_9⟩])
 (.seq (.block 2 (.seq (.reg [⟨.no,.mv (.t P6_9),some P6_21⟩,
 ⟨.no,.ne .int (.t P6_21) (.c (.int .i64 (.ofNat 0))),some P6_22⟩,
 ⟨.no,.mv (.t P6_22),some P6_20⟩])
 (.cond (.t P6_20) (.seq (.reg [⟨.no,.mv (.t P6_9),some P6_23⟩,
 ⟨.no,.mv (.c (.sl 0 [] .nil)),some P6_4⟩,
 ⟨.no,.mv (.t P6_23),some P6_5⟩])
 .ret)
 (.seq (.reg [⟨.no,.faddr 2 1 (.t P6_8),some P6_25⟩,
 ⟨.no,.load false 1 (.t P6_25),some P6_26⟩,
 ⟨.no,.ne .int (.t P6_26) (.c (.int .i64 (.ofNat 2))),some P6_27⟩,
 ⟨.no,.mv (.t P6_27),some P6_28⟩,
 ⟨(.on P6_28 false),.mv (.t P6_6),some P6_29⟩,
 ⟨(.on P6_28 false),.len .sl (.t P6_29),some P6_30⟩,
 ⟨(.on P6_28 false),.bin .gtr (.t P6_30) (.c (.int .i64 (.ofNat 2048))),some P6_31⟩,
 ⟨.no,.pick (.t P6_28) (.c (.bool true)) (.t P6_31),some P6_32⟩,
 ⟨.no,.mv (.t P6_32),some P6_24⟩])
 (.cond (.t P6_24) (.seq (.reg [⟨.no,.mv (.c (.sl 0 [] .nil)),some P6_4⟩,
 ⟨.no,.mv (.c (.int .i64 (.ofNat 100))),some P6_5⟩])
 .ret)
 .skip)))))
 (.seq (.reg [⟨.no,.mv (.t P6_6),some P6_33⟩,
 ⟨.no,.mv (.t P6_7),some P6_34⟩,
 ⟨.no,.buildSl 1 [(.int .u32 (.ofNat 0))] [(0,1,(.t P6_34))],some P6_35⟩,
 ⟨.no,.app 1 4 false (.t P6_33) (.t P6_35),some P6_36⟩,
 ⟨.no,.mv (.t P6_36),some P6_6⟩])
 (.reg [⟨.no,.load true 5 (.t P6_8),some P6_37⟩,
 ⟨.no,.call (.c (.fn f_heap_next [] [])) [(.t P6_37)],some P6_38⟩,
 ⟨.no,.mv (.t P6_38),some P6_7⟩])))))))))
 (.seq (.reg [⟨.no,.mv (.t P6_6),some P6_39⟩,
 ⟨.no,.mv (.t P6_39),some P6_4⟩,
 ⟨.no,.mv (.c (.int .i64 (.ofNat 0))),some P6_5⟩])
 .ret)))), [.t P6_4,.t P6_5], 0, false, false⟩
noncomputable def rf_heap_slot : RFn := ⟨apOf 5 0 2, mkU 5, (.seq (.reg [⟨.no,.mv (.c (.str [])),some P5_4⟩])
 (.seq (.reg [⟨.no,.call (.c (.fn f_raw_NewWriter [] [])) [],some P5_6⟩,
 ⟨.no,.mv (.t P5_6),some P5_5⟩])
 (.seq (.reg [⟨.no,.mv (.t P5_5),some P5_7⟩,
 ⟨.no,.mv (.t P5_1),some P5_8⟩,
 ⟨.no,.call (.c (.fn f_raw_Writer_Bool [] [])) [(.t P5_7),(.t P5_8)],some P5_9⟩])
 (.seq (.reg [⟨.no,.mv (.t P5_5),some P5_10⟩,
 ⟨.no,.mv (.t P5_0),some P5_11⟩,
 ⟨.no,.len .str (.t P5_11),some P5_12⟩,
 ⟨.no,.conv (.toInt .u64) (.t P5_12),some P5_13⟩,
 ⟨.no,.call (.c (.fn f_raw_Writer_Number [] [])) [(.t P5_10),(.t P5_13),(.c (.int .i64 (.ofNat 1)))],some P5_14⟩])
 (.seq (.reg [⟨.no,.mv (.t P5_5),some P5_15⟩,
 ⟨.no,.mv (.t P5_0),some P5_16⟩,
 ⟨.no,.call (.c (.fn f_raw_Writer_Bytes [] [])) [(.t P5_15),(.t P5_16)],some P5_17⟩])
 (.seq (.reg [⟨.no,.mv (.t P5_5),some P5_18⟩,
 ⟨.no,.call (.c (.fn f_raw_Writer_All [] [])) [(.t P5_18)],some P5_19⟩,
 ⟨.no,.mv (.t P5_5),some P5_20⟩,
 ⟨.no,.call (.c (.fn f_raw_Writer_Len [] [])) [(.t P5_20)],some P5_21⟩,
 ⟨.no,.bin .sub (.c (.int .i64 (.ofNat 62))) (.t P5_21),some P5_22⟩,
 ⟨.no,.call (.c (.fn f_strings_Repeat [] [])) [(.c (.str [0])),(.t P5_22)],some P5_23⟩,
 ⟨.no,.bin .add (.t P5_19) (.t P5_23),some P5_24⟩,
 ⟨.no,.mv (.t P5_24),some P5_4⟩])
 .ret)))))), [.t P5_4], 0, false, false⟩
noncomputable def rf_heap_set : RFn := ⟨apOf 5 0 5, mkU 5, (.seq (.reg [⟨.no,.box (.t P5_2),some P5_7⟩,
 ⟨.no,.mv (.c (.int .i64 (.ofNat 0))),some P5_10⟩])
 (.seq (.reg [⟨.no,.mv (.t P5_0),some P5_14⟩,
 ⟨.no,.mv (.t P5_1),some P5_15⟩,
 ⟨.no,.faddr 0 1 (.t P5_7),some P5_16⟩,
 ⟨.no,.load false 1 (.t P5_16),some P5_17⟩,
 ⟨.no,.faddr 1 1 (.t P5_7),some P5_18⟩,
 ⟨.no,.load false 1 (.t P5_18),some P5_19⟩,
 ⟨.no,.mv (.t P5_3),some P5_20⟩,
 ⟨.no,.mv (.t P5_4),some P5_21⟩,
 ⟨.no,.build [(.int .i64 (.ofNat 0)),(.int .i64 (.ofNat 0)),(.str []),(.str [])] [(0,1,(.c (.int .i64 (.ofNat 4)))),(1,1,(.t P5_19)),(2,1,(.t P5_20)),(3,1,(.t P5_21))],some P5_22⟩,
 ⟨.no,.build [(.int .u32 (.ofNat 0)),(.int .i64 (.ofNat 0)),(.int .i64 (.ofNat 0)),(.str []),(.str []),(.int .i64 (.ofNat 0)),(.int .i64 (.ofNat 0)),(.str []),(.int .u32 (.ofNat 0)),(.int .i64 (.ofNat 0)),(.bool false)] [(0,1,(.t P5_17)),(1,4,(.t P5_22)),(5,1,(.c (.int .i64 (.ofNat 1))))],some P5_23⟩,
 ⟨.no,.call (.c (.fn f_txn_Manager_Log [] [])) [(.t P5_14),(.t P5_15),(.t P5_23)],some P5_24⟩,
 ⟨.no,.mv (.t P5_24),some P5_13⟩,
 ⟨.no,.extr (.t P5_13) 0,some P5_25⟩,
 ⟨.no,.extr (.t P5_13) 1,some P5_26⟩,
 ⟨.no,.mv (.t P5_25),some P5_11⟩,
 ⟨.no,.mv (.t P5_26),some P5_12⟩])
 (.seq (.reg [⟨.no,.mv (.t P5_12),some P5_27⟩,
 ⟨.no,.mv (.t P5_27),some P5_10⟩])
 .ret))), [.t P5_10], 0, false, false⟩
noncomputable def rf_page_Apply : RFn := ⟨apOf 7 0 3, mkU 7, (.seq (.reg [⟨.no,.box (.t P7_0),some P7_3⟩,
 ⟨.no,.box (.t P7_1),some P7_4⟩,
 ⟨.no,.alloc [(.int .u32 (.ofNat 0)),(.int .u64 (.ofNat 0)),(.int .i64 (.ofNat 0)),(.str []),(.sl 0 [] .nil)],some P7_6⟩,
 ⟨.no,.mv (.c (.int .i64 (.ofNat 0))),some P7_7⟩])
 (.seq (.seq (.reg [⟨.no,.load true 4 (.t P7_4),some P7_12⟩,
 ⟨.no,.call (.c (.fn f_page_Check [] [])) [(.t P7_12)],some P7_13⟩,
 ⟨.no,.mv (.t P7_13),some P7_8⟩])
 (.seq (.reg [⟨.no,.mv (.t P7_8),some P7_14⟩,
 ⟨.no,.ne .int (.t P7_14) (.c (.int .i64 (.ofNat 0))),some P7_15⟩])
 (.cond (.t P7_15) (.seq (.reg [⟨.no,.build [(.int .u32 (.ofNat 0)),(.int .u64 (.ofNat 0)),(.int .i64 (.ofNat 0)),(.str []),(.sl 0 [] .nil)] [],some P7_16⟩,
 ⟨.no,.mv (.t P7_8),some P7_17⟩,
 ⟨.no,.store 5 (.t P7_6) (.t P7_16),none⟩,
 ⟨.no,.mv (.t P7_17),some P7_7⟩])
 .ret)
 .skip)))
 (.seq (.seq (.reg [⟨.no,.load true 5 (.t P7_3),some P7_18⟩,
 ⟨.no,.load true 4 (.t P7_4),some P7_19⟩,
 ⟨.no,.call (.c (.fn f_page_stands [] [])) [(.t P7_18),(.t P7_19)],some P7_20⟩,
 ⟨.no,.mv (.t P7_20),some P7_9⟩])
 (.seq (.reg [⟨.no,.mv (.t P7_9),some P7_21⟩,
 ⟨.no,.ne .int (.t P7_21) (.c (.int .i64 (.ofNat 0))),some P7_22⟩])
 (.cond (.t P7_22) (.seq (.reg [⟨.no,.build [(.int .u32 (.ofNat 0)),(.int .u64 (.ofNat 0)),(.int .i64 (.ofNat 0)),(.str []),(.sl 0 [] .nil)] [],some P7_23⟩,
 ⟨.no,.mv (.t P7_9),some P7_24⟩,
 ⟨.no,.store 5 (.t P7_6) (.t P7_23),none⟩,
 ⟨.no,.mv (.t P7_24),some P7_7⟩])
 .ret)
 .skip)))
 (.seq (.reg [⟨.no,.load true 5 (.t P7_3),some P7_25⟩,
 ⟨.no,.alloc [(.int .u32 (.ofNat 0)),(.int .u64 (.ofNat 0)),(.int .i64 (.ofNat 0)),(.str []),(.sl 0 [] .nil)],some P7_10⟩,
 ⟨.no,.store 5 (.t P7_10) (.t P7_25),none⟩])
 (.seq (.reg [⟨.no,.faddr 4 1 (.t P7_3),some P7_26⟩,
 ⟨.no,.load false 1 (.t P7_26),some P7_27⟩,
 ⟨.no,.call (.c (.fn f_slices_Clone_string [] [])) [(.t P7_27)],some P7_28⟩,
 ⟨.no,.mv (.t P7_2),some P7_29⟩,
 ⟨.no,.faddr 4 1 (.t P7_10),some P7_30⟩,
 ⟨.no,.store 1 (.t P7_30) (.t P7_28),none⟩,
 ⟨.no,.faddr 1 1 (.t P7_10),some P7_31⟩,
 ⟨.no,.store 1 (.t P7_31) (.t P7_29),none⟩])
 (.seq (.seq (.reg [⟨.no,.faddr 0 1 (.t P7_4),some P7_32⟩,
 ⟨.no,.load false 1 (.t P7_32),some P7_33⟩])
 (.block 0 (.seq (.reg [⟨.no,.eq .int (.t P7_33) (.c (.int .i64 (.ofNat 1))),some P7_35⟩,
 ⟨.no,.mv (.t P7_35),some P7_34⟩])
 (.cond (.t P7_34) (.reg [⟨.no,.faddr 0 1 (.t P7_3),some P7_36⟩,
 ⟨.no,.load false 1 (.t P7_36),some P7_37⟩,
 ⟨.no,.mv (.t P7_2),some P7_38⟩,
 ⟨.no,.faddr 1 1 (.t P7_4),some P7_39⟩,
 ⟨.no,.load false 1 (.t P7_39),some P7_40⟩,
 ⟨.no,.faddr 2 1 (.t P7_4),some P7_41⟩,
 ⟨.no,.load false 1 (.t P7_41),some P7_42⟩,
 ⟨.no,.build [(.int .u32 (.ofNat 0)),(.int .u64 (.ofNat 0)),(.int .i64 (.ofNat 0)),(.str []),(.sl 0 [] .nil)] [(0,1,(.t P7_37)),(1,1,(.t P7_38)),(2,1,(.t P7_40)),(3,1,(.t P7_42))],some P7_43⟩,
 ⟨.no,.store 5 (.t P7_10) (.t P7_43),none⟩])
 (.seq (.reg [⟨.no,.eq .int (.t P7_33) (.c (.int .i64 (.ofNat 2))),some P7_45⟩,
 ⟨.no,.mv (.t P7_45),some P7_44⟩])
 (.cond (.t P7_44) (.reg [⟨.no,.faddr 4 1 (.t P7_10),some P7_46⟩,
 ⟨.no,.load false 1 (.t P7_46),some P7_47⟩,
 ⟨.no,.faddr 1 1 (.t P7_4),some P7_48⟩,
 ⟨.no,.load false 1 (.t P7_48),some P7_49⟩,
 ⟨.no,.faddr 2 1 (.t P7_4),some P7_50⟩,
 ⟨.no,.load false 1 (.t P7_50),some P7_51⟩,
 ⟨.no,.buildSl 1 [(.str [])] [(0,1,(.t P7_51))],some P7_52⟩,
 ⟨.no,.call (.c (.fn f_slices_Insert_string [] [])) [(.t P7_47),(.t P7_49),(.t P7_52)],some P7_53⟩,
 ⟨.no,.faddr 4 1 (.t P7_10),some P7_54⟩,
 ⟨.no,.store 1 (.t P7_54) (.t P7_53),none⟩])
 (.seq (.reg [⟨.no,.eq .int (.t P7_33) (.c (.int .i64 (.ofNat 3))),some P7_56⟩,
 ⟨.no,.mv (.t P7_56),some P7_55⟩])
 (.cond (.t P7_55) (.reg [⟨.no,.faddr 4 1 (.t P7_10),some P7_57⟩,
 ⟨.no,.load false 1 (.t P7_57),some P7_58⟩,
 ⟨.no,.faddr 1 1 (.t P7_4),some P7_59⟩,
 ⟨.no,.load false 1 (.t P7_59),some P7_60⟩,
 ⟨.no,.faddr 1 1 (.t P7_4),some P7_61⟩,
 ⟨.no,.load false 1 (.t P7_61),some P7_62⟩,
 ⟨.no,.bin .add (.t P7_62) (.c (.int .i64 (.ofNat 1))),some P7_63⟩,
 ⟨.no,.call (.c (.fn f_slices_Delete_string [] [])) [(.t P7_58),(.t P7_60),(.t P7_63)],some P7_64⟩,
 ⟨.no,.faddr 4 1 (.t P7_10),some P7_65⟩,
 ⟨.no,.store 1 (.t P7_65) (.t P7_64),none⟩])
 (.seq (.reg [⟨.no,.eq .int (.t P7_33) (.c (.int .i64 (.ofNat 4))),some P7_67⟩,
 ⟨.no,.mv (.t P7_67),some P7_66⟩])
 (.cond (.t P7_66) (.reg [⟨.no,.faddr 4 1 (.t P7_10),some P7_68⟩,
 ⟨.no,.load false 1 (.t P7_68),some P7_69⟩,
 ⟨.no,.faddr 1 1 (.t P7_4),some P7_70⟩,
 ⟨.no,.load false 1 (.t P7_70),some P7_71⟩,
 ⟨.no,.faddr 2 1 (.t P7_4),some P7_72⟩,
 ⟨.no,.load false 1 (.t P7_72),some P7_73⟩,
 ⟨.no,.ixSl 1 (.t P7_69) (.t P7_71),some P7_74⟩,
 ⟨.no,.store 1 (.t P7_74) (.t P7_73),none⟩])
 (.seq (.reg [⟨.no,.eq .int (.t P7_33) (.c (.int .i64 (.ofNat 5))),some P7_76⟩,
 ⟨.no,.mv (.t P7_76),some P7_75⟩])
 (.cond (.t P7_75) (.reg [⟨.no,.faddr 2 1 (.t P7_4),some P7_77⟩,
 ⟨.no,.load false 1 (.t P7_77),some P7_78⟩,
 ⟨.no,.faddr 3 1 (.t P7_10),some P7_79⟩,
 ⟨.no,.store 1 (.t P7_79) (.t P7_78),none⟩])
 (.seq (.reg [⟨.no,.eq .int (.t P7_33) (.c (.int .i64 (.ofNat 7))),some P7_81⟩,
 ⟨.no,.mv (.t P7_81),some P7_80⟩])
 (.cond (.t P7_80) (.draw [] 12 [⟨⟨.no,.faddr 2 1 (.t P7_4),some P7_82⟩,.val,0,0⟩,
 ⟨⟨.no,.load false 1 (.t P7_82),some P7_83⟩,.read,0,0⟩,
 ⟨⟨.no,.ixStr (.t P7_83) (.c (.int .i64 (.ofNat 0))),some P7_84⟩,.val,0,0⟩,
 ⟨⟨.no,.convO (.toInt .i64) (.t P7_84),some P7_85⟩,.eff,0,1⟩,
 ⟨⟨.no,.faddr 2 1 (.t P7_4),some P7_86⟩,.val,0,2⟩,
 ⟨⟨.no,.load false 1 (.t P7_86),some P7_87⟩,.read,0,2⟩,
 ⟨⟨.no,.sliceS (.t P7_87) (some (.c (.int .i64 (.ofNat 1)))) none,some P7_88⟩,.val,0,2⟩,
 ⟨⟨.no,.faddr 2 1 (.t P7_10),some P7_89⟩,.val,1,1⟩,
 ⟨⟨.no,.store 1 (.t P7_89) (.t P7_85),none⟩,.eff,1,2⟩,
 ⟨⟨.no,.faddr 3 1 (.t P7_10),some P7_90⟩,.val,2,2⟩,
 ⟨⟨.no,.store 1 (.t P7_90) (.t P7_88),none⟩,.eff,2,3⟩])
 (.seq (.reg [⟨.no,.eq .int (.t P7_33) (.c (.int .i64 (.ofNat 6))),some P7_92⟩,
 ⟨.no,.mv (.t P7_92),some P7_91⟩])
 (.cond (.t P7_91) (.seq (.reg [⟨.no,.faddr 4 1 (.t P7_10),some P7_93⟩,
 ⟨.no,.load false 1 (.t P7_93),some P7_94⟩,
 ⟨.no,.ixSl 1 (.t P7_94) (.c (.int .i64 (.ofNat 0))),some P7_95⟩,
 ⟨.no,.load false 1 (.t P7_95),some P7_96⟩,
 ⟨.no,.mv (.t P7_96),some P7_11⟩])
 (.draw [] 21 [⟨⟨.no,.faddr 4 1 (.t P7_10),some P7_97⟩,.val,0,0⟩,
 ⟨⟨.no,.load false 1 (.t P7_97),some P7_98⟩,.read,0,0⟩,
 ⟨⟨.no,.mv (.t P7_11),some P7_99⟩,.val,0,0⟩,
 ⟨⟨.no,.faddr 1 1 (.t P7_4),some P7_100⟩,.val,0,0⟩,
 ⟨⟨.no,.load false 1 (.t P7_100),some P7_101⟩,.read,0,0⟩,
 ⟨⟨.no,.sliceS (.t P7_99) none (some (.t P7_101)),some P7_102⟩,.val,0,0⟩,
 ⟨⟨.no,.faddr 2 1 (.t P7_4),some P7_103⟩,.val,0,0⟩,
 ⟨⟨.no,.load false 1 (.t P7_103),some P7_104⟩,.read,0,0⟩,
 ⟨⟨.no,.bin .add (.t P7_102) (.t P7_104),some P7_105⟩,.val,0,0⟩,
 ⟨⟨.no,.mv (.t P7_11),some P7_106⟩,.val,0,0⟩,
 ⟨⟨.no,.faddr 1 1 (.t P7_4),some P7_107⟩,.val,0,0⟩,
 ⟨⟨.no,.load false 1 (.t P7_107),some P7_108⟩,.read,0,0⟩,
 ⟨⟨.no,.faddr 2 1 (.t P7_4),some P7_109⟩,.val,0,0⟩,
 ⟨⟨.no,.load false 1 (.t P7_109),some P7_110⟩,.read,0,0⟩,
 ⟨⟨.no,.len .str (.t P7_110),some P7_111⟩,.read,0,0⟩,
 ⟨⟨.no,.bin .add (.t P7_108) (.t P7_111),some P7_112⟩,.val,0,0⟩,
 ⟨⟨.no,.sliceS (.t P7_106) (some (.t P7_112)) none,some P7_113⟩,.val,0,0⟩,
 ⟨⟨.no,.bin .add (.t P7_105) (.t P7_113),some P7_114⟩,.val,0,0⟩,
 ⟨⟨.no,.ixSl 1 (.t P7_98) (.c (.int .i64 (.ofNat 0))),some P7_115⟩,.val,0,0⟩,
 ⟨⟨.no,.store 1 (.t P7_115) (.t P7_114),none⟩,.eff,0,1⟩]))
 .skip))))))))))))))))
 (.seq (.seq (.reg [⟨.no,.load true 5 (.t P7_10),some P7_116⟩,
 ⟨.no,.call (.c (.fn f_page_Room [] [])) [(.t P7_116)],some P7_117⟩,
 ⟨.no,.bin .lss (.t P7_117) (.c (.int .i64 (.ofNat 0))),some P7_118⟩])
 (.cond (.t P7_118) (.seq (.reg [⟨.no,.build [(.int .u32 (.ofNat 0)),(.int .u64 (.ofNat 0)),(.int .i64 (.ofNat 0)),(.str []),(.sl 0 [] .nil)] [],some P7_119⟩,
 ⟨.no,.store 5 (.t P7_6) (.t P7_119),none⟩,
 ⟨.no,.mv (.c (.int .i64 (.ofNat 30))),some P7_7⟩])
 .ret)
 .skip))
 (.seq (.reg [⟨.no,.load true 5 (.t P7_10),some P7_120⟩,
 ⟨.no,.store 5 (.t P7_6) (.t P7_120),none⟩,
 ⟨.no,.mv (.c (.int .i64 (.ofNat 0))),some P7_7⟩])
 .ret)))))))), [.cell true 5 P7_6,.t P7_7], 0, true, false⟩
noncomputable def rf_disk_Disk_Read : RFn := ⟨apOf 6 0 2, mkU 6, (.seq (.reg [⟨.no,.mv (.c (.str [])),some P6_4⟩,
 ⟨.no,.mv (.c (.int .i64 (.ofNat 0))),some P6_5⟩])
 (.seq (.seq (.reg [⟨.no,.mv (.t P6_0),some P6_8⟩,
 ⟨.no,.call (.c (.fn f_disk_Disk_Dead [] [])) [(.t P6_8)],some P6_9⟩])
 (.cond (.t P6_9) (.seq (.reg [⟨.no,.mv (.c (.str [])),some P6_4⟩,
 ⟨.no,.mv (.c (.int .i64 (.ofNat 7))),some P6_5⟩])
 .ret)
 .skip))
 (.seq (.seq (.reg [⟨.no,.mv (.t P6_0),some P6_10⟩,
 ⟨.no,.mv (.t P6_1),some P6_11⟩,
 ⟨.no,.call (.c (.fn f_disk_Disk_may [] [])) [(.t P6_10),(.t P6_11)],some P6_12⟩,
 ⟨.no,.mv (.t P6_12),some P6_6⟩])
 (.seq (.reg [⟨.no,.mv (.t P6_6),some P6_13⟩,
 ⟨.no,.ne .int (.t P6_13) (.c (.int .i64 (.ofNat 0))),some P6_14⟩])
 (.cond (.t P6_14) (.seq (.reg [⟨.no,.mv (.t P6_6),some P6_15⟩,
 ⟨.no,.mv (.c (.str [])),some P6_4⟩,
 ⟨.no,.mv (.t P6_15),some P6_5⟩])
 .ret)
 .skip)))
 (.seq (.seq (.reg [⟨.no,.mv (.t P6_0),some P6_16⟩,
 ⟨.no,.nilc (.t P6_16),some P6_17⟩,
 ⟨.no,.faddr 3 1 (.t P6_17),some P6_18⟩,
 ⟨.no,.load false 1 (.t P6_18),some P6_19⟩,
 ⟨.no,.len .sl (.t P6_19),some P6_20⟩,
 ⟨.no,.bin .sub (.t P6_20) (.c (.int .i64 (.ofNat 1))),some P6_21⟩,
 ⟨.no,.mv (.t P6_21),some P6_7⟩])
 (.block 0 (.loop (.seq (.seq (.reg [⟨.no,.mv (.t P6_7),some P6_22⟩,
 ⟨.no,.bin .geq (.t P6_22) (.c (.int .i64 (.ofNat 0))),some P6_23⟩])
 (.cond (.t P6_23) .skip
 (.exit 0)))
 (.seq (.block 1 (.seq (.reg [⟨.no,.mv (.t P6_0),some P6_26⟩,
 ⟨.no,.nilc (.t P6_26),some P6_27⟩,
 ⟨.no,.faddr 3 1 (.t P6_27),some P6_28⟩,
 ⟨.no,.load false 1 (.t P6_28),some P6_29⟩,
 ⟨.no,.mv (.t P6_7),some P6_30⟩,
 ⟨.no,.ixSl 3 (.t P6_29) (.t P6_30),some P6_31⟩,
 ⟨.no,.faddr 0 1 (.t P6_31),some P6_32⟩,
 ⟨.no,.load false 1 (.t P6_32),some P6_33⟩,
 ⟨.no,.mv (.t P6_1),some P6_34⟩,
 ⟨.no,.eq .int (.t P6_33) (.t P6_34),some P6_35⟩])
 (.cond (.t P6_35) (.seq (.reg [⟨.no,.mv (.t P6_0),some P6_36⟩,
 ⟨.no,.nilc (.t P6_36),some P6_37⟩,
 ⟨.no,.faddr 3 1 (.t P6_37),some P6_38⟩,
 ⟨.no,.load false 1 (.t P6_38),some P6_39⟩,
 ⟨.no,.mv (.t P6_7),some P6_40⟩,
 ⟨.no,.ixSl 3 (.t P6_39) (.t P6_40),some P6_41⟩,
 ⟨.no,.faddr 1 1 (.t P6_41),some P6_42⟩,
 ⟨.no,.load false 1 (.t P6_42),some P6_43⟩,
 ⟨.no,.mv (.t P6_43),some P6_4⟩,
 ⟨.no,.mv (.c (.int .i64 (.ofNat 0))),some P6_5⟩])
 .ret)
 .skip)))
 (.reg [⟨.no,.mv (.t P6_7),some P6_24⟩,
 ⟨.no,.bin .sub (.t P6_24) (.c (.int .i64 (.ofNat 1))),some P6_25⟩,
 ⟨.no,.mv (.t P6_25),some P6_7⟩]))))))
 (.seq (.reg [⟨.no,.mv (.t P6_0),some P6_44⟩,
 ⟨.no,.mv (.t P6_1),some P6_45⟩,
 ⟨.no,.call (.c (.fn f_disk_Disk_sure [] [])) [(.t P6_44),(.t P6_45)],some P6_46⟩,
 ⟨.no,.mv (.t P6_46),some P6_4⟩,
 ⟨.no,.mv (.c (.int .i64 (.ofNat 0))),some P6_5⟩])
 .ret))))), [.t P6_4,.t P6_5], 0, false, false⟩
noncomputable def rf_raw_Reader_Err : RFn := ⟨apOf 4 0 1, mkU 4, (.seq (.reg [⟨.no,.mv (.c (.int .i64 (.ofNat 0))),some P4_2⟩])
 (.seq (.seq (.reg [⟨.no,.mv (.t P4_0),some P4_3⟩,
 ⟨.no,.eq .ptr (.t P4_3) (.c .nilp),some P4_4⟩])
 (.cond (.t P4_4) (.seq (.reg [⟨.no,.mv (.c (.int .i64 (.ofNat 1))),some P4_2⟩])
 .ret)
 .skip))
 (.seq (.reg [⟨.no,.mv (.t P4_0),some P4_5⟩,
 ⟨.no,.nilc (.t P4_5),some P4_6⟩,
 ⟨.no,.faddr 2 1 (.t P4_6),some P4_7⟩,
 ⟨.no,.load false 1 (.t P4_7),some P4_8⟩,
 ⟨.no,.mv (.t P4_8),some P4_2⟩])
 .ret))), [.t P4_2], 0, false, false⟩
noncomputable def rf_raw_Reader_Bytes : RFn := ⟨apOf 6 0 2, mkU 6, (.seq (.reg [⟨.no,.mv (.c (.str [])),some P6_4⟩])
 (.seq (.block 0 (.seq (.reg [⟨.no,.mv (.t P6_0),some P6_6⟩,
 ⟨.no,.call (.c (.fn f_raw_Reader_Err [] [])) [(.t P6_6)],some P6_7⟩,
 ⟨.no,.ne .int (.t P6_7) (.c (.int .i64 (.ofNat 0))),some P6_8⟩,
 ⟨.no,.mv (.t P6_8),some P6_5⟩])
 (.cond (.t P6_5) (.seq (.reg [⟨.no,.mv (.c (.str [])),some P6_4⟩])
 .ret)
 (.seq (.reg [⟨.no,.mv (.t P6_1),some P6_10⟩,
 ⟨.no,.bin .lss (.t P6_10) (.c (.int .i64 (.ofNat 0))),some P6_11⟩,
 ⟨.no,.mv (.t P6_11),some P6_9⟩])
 (.cond (.t P6_9) (.seq (.reg [⟨.no,.mv (.t P6_0),some P6_12⟩,
 ⟨.no,.nilc (.t P6_12),some P6_13⟩,
 ⟨.no,.faddr 2 1 (.t P6_13),some P6_14⟩,
 ⟨.no,.store 1 (.t P6_14) (.c (.int .i64 (.ofNat 1))),none⟩])
 (.seq (.reg [⟨.no,.mv (.c (.str [])),some P6_4⟩])
 .ret))
 (.seq (.draw [] 14 [⟨⟨.no,.mv (.t P6_0),some P6_16⟩,.val,0,0⟩,
 ⟨⟨.no,.nilc (.t P6_16),some P6_17⟩,.val,0,0⟩,
 ⟨⟨.no,.faddr 0 1 (.t P6_17),some P6_18⟩,.val,0,0⟩,
 ⟨⟨.no,.load false 1 (.t P6_18),some P6_19⟩,.read,0,0⟩,
 ⟨⟨.no,.len .str (.t P6_19),some P6_20⟩,.read,0,0⟩,
 ⟨⟨.no,.mv (.t P6_0),some P6_21⟩,.val,0,0⟩,
 ⟨⟨.no,.nilc (.t P6_21),some P6_22⟩,.val,0,0⟩,
 ⟨⟨.no,.faddr 1 1 (.t P6_22),some P6_23⟩,.val,0,0⟩,
 ⟨⟨.no,.load false 1 (.t P6_23),some P6_24⟩,.read,0,0⟩,
 ⟨⟨.no,.bin .sub (.t P6_20) (.t P6_24),some P6_25⟩,.val,0,0⟩,
 ⟨⟨.no,.mv (.t P6_1),some P6_26⟩,.val,0,0⟩,
 ⟨⟨.no,.bin .lss (.t P6_25) (.t P6_26),some P6_27⟩,.val,0,0⟩,
 ⟨⟨.no,.mv (.t P6_27),some P6_15⟩,.val,0,0⟩])
 (.cond (.t P6_15) (.seq (.reg [⟨.no,.mv (.t P6_0),some P6_28⟩,
 ⟨.no,.nilc (.t P6_28),some P6_29⟩,
 ⟨.no,.faddr 2 1 (.t P6_29),some P6_30⟩,
 ⟨.no,.store 1 (.t P6_30) (.c (.int .i64 (.ofNat 4))),none⟩])
 (.seq (.reg [⟨.no,.mv (.c (.str [])),some P6_4⟩])
 .ret))
 .skip)))))))
 (.seq (.reg [⟨.no,.mv (.t P6_0),some P6_31⟩,
 ⟨.no,.nilc (.t P6_31),some P6_32⟩,
 ⟨.no,.faddr 1 1 (.t P6_32),some P6_33⟩,
 ⟨.no,.load false 1 (.t P6_33),some P6_34⟩,
 ⟨.no,.mv (.t P6_1),some P6_35⟩,
 ⟨.no,.bin .add (.t P6_34) (.t P6_35),some P6_36⟩,
 ⟨.no,.nilc (.t P6_31),some P6_37⟩,
 ⟨.no,.faddr 1 1 (.t P6_37),some P6_38⟩,
 ⟨.no,.store 1 (.t P6_38) (.t P6_36),none⟩])
 (.seq (.draw [] 17 [⟨⟨.no,.mv (.t P6_0),some P6_39⟩,.val,0,0⟩,
 ⟨⟨.no,.nilc (.t P6_39),some P6_40⟩,.val,0,0⟩,
 ⟨⟨.no,.faddr 0 1 (.t P6_40),some P6_41⟩,.val,0,0⟩,
 ⟨⟨.no,.load false 1 (.t P6_41),some P6_42⟩,.read,0,0⟩,
 ⟨⟨.no,.mv (.t P6_0),some P6_43⟩,.val,0,0⟩,
 ⟨⟨.no,.nilc (.t P6_43),some P6_44⟩,.val,0,0⟩,
 ⟨⟨.no,.faddr 1 1 (.t P6_44),some P6_45⟩,.val,0,0⟩,
 ⟨⟨.no,.load false 1 (.t P6_45),some P6_46⟩,.read,0,0⟩,
 ⟨⟨.no,.mv (.t P6_1),some P6_47⟩,.val,0,0⟩,
 ⟨⟨.no,.bin .sub (.t P6_46) (.t P6_47),some P6_48⟩,.val,0,0⟩,
 ⟨⟨.no,.mv (.t P6_0),some P6_49⟩,.val,0,0⟩,
 ⟨⟨.no,.nilc (.t P6_49),some P6_50⟩,.val,0,0⟩,
 ⟨⟨.no,.faddr 1 1 (.t P6_50),some P6_51⟩,.val,0,0⟩,
 ⟨⟨.no,.load false 1 (.t P6_51),some P6_52⟩,.read,0,0⟩,
 ⟨⟨.no,.sliceS (.t P6_42) (some (.t P6_48)) (some (.t P6_52)),some P6_53⟩,.val,0,0⟩,
 ⟨⟨.no,.mv (.t P6_53),some P6_4⟩,.val,0,0⟩])
 .ret)))), [.t P6_4], 0, false, false⟩
noncomputable def rf_raw_Reader_Left : RFn := ⟨apOf 4 0 1, mkU 4, (.seq (.reg [⟨.no,.mv (.c (.int .i64 (.ofNat 0))),some P4_2⟩])
 (.seq (.seq (.reg [⟨.no,.mv (.t P4_0),some P4_3⟩,
 ⟨.no,.eq .ptr (.t P4_3) (.c .nilp),some P4_4⟩])
 (.cond (.t P4_4) (.seq (.reg [⟨.no,.mv (.c (.int .i64 (.ofNat 0))),some P4_2⟩])
 .ret)
 .skip))
 (.seq (.draw [] 12 [⟨⟨.no,.mv (.t P4_0),some P4_5⟩,.val,0,0⟩,
 ⟨⟨.no,.nilc (.t P4_5),some P4_6⟩,.val,0,0⟩,
 ⟨⟨.no,.faddr 0 1 (.t P4_6),some P4_7⟩,.val,0,0⟩,
 ⟨⟨.no,.load false 1 (.t P4_7),some P4_8⟩,.read,0,0⟩,
 ⟨⟨.no,.len .str (.t P4_8),some P4_9⟩,.read,0,0⟩,
 ⟨⟨.no,.mv (.t P4_0),some P4_10⟩,.val,0,0⟩,
 ⟨⟨.no,.nilc (.t P4_10),some P4_11⟩,.val,0,0⟩,
 ⟨⟨.no,.faddr 1 1 (.t P4_11),some P4_12⟩,.val,0,0⟩,
 ⟨⟨.no,.load false 1 (.t P4_12),some P4_13⟩,.read,0,0⟩,
 ⟨⟨.no,.bin .sub (.t P4_9) (.t P4_13),some P4_14⟩,.val,0,0⟩,
 ⟨⟨.no,.mv (.t P4_14),some P4_2⟩,.val,0,0⟩])
 .ret))), [.t P4_2], 0, false, false⟩
noncomputable def rf_cmp_Or_int : RFn := ⟨apOf 5 0 1, mkU 5, (.seq (.reg [⟨.no,.mv (.c (.int .i64 (.ofNat 0))),some P5_2⟩])
 (.seq (.reg [⟨.no,.mv (.c (.int .i64 (.ofNat 0))),some P5_3⟩])
 (.seq (.seq (.reg [⟨.no,.mv (.t P5_0),some P5_6⟩,
 ⟨.no,.len .sl (.t P5_6),some P5_7⟩,
 ⟨.no,.mv (.c (.int .i64 (.ofNat 0))),some P5_8⟩])
 (.block 0 (.loop (.seq (.reg [⟨.no,.bin .lss (.t P5_8) (.t P5_7),some P5_9⟩])
 (.seq (.cond (.t P5_9) .skip
 (.exit 0))
 (.seq (.block 1 (.seq (.reg [⟨.no,.ixSl 1 (.t P5_6) (.t P5_8),some P5_10⟩,
 ⟨.no,.load false 1 (.t P5_10),some P5_11⟩,
 ⟨.no,.mv (.t P5_11),some P5_5⟩])
 (.seq (.reg [⟨.no,.mv (.t P5_5),some P5_12⟩,
 ⟨.no,.mv (.t P5_3),some P5_13⟩,
 ⟨.no,.ne .int (.t P5_12) (.t P5_13),some P5_14⟩])
 (.cond (.t P5_14) (.seq (.reg [⟨.no,.mv (.t P5_5),some P5_15⟩,
 ⟨.no,.mv (.t P5_15),some P5_2⟩])
 .ret)
 .skip))))
 (.reg [⟨.no,.bin .add (.t P5_8) (.c (.int .i64 (.ofNat 1))),some P5_16⟩,
 ⟨.no,.mv (.t P5_16),some P5_8⟩])))))))
 (.seq (.reg [⟨.no,.mv (.t P5_3),some P5_17⟩,
 ⟨.no,.mv (.t P5_17),some P5_2⟩])
 .ret)))), [.t P5_2], 0, false, false⟩
noncomputable def rf_cmp_Compare_string : RFn := ⟨apOf 5 0 2, mkU 5, (.seq (.reg [⟨.no,.mv (.c (.int .i64 (.ofNat 0))),some P5_4⟩])
 (.seq (.reg [⟨.no,.mv (.t P5_0),some P5_7⟩,
 ⟨.no,.call (.c (.fn f_cmp_isNaN_string [] [])) [(.t P5_7)],some P5_8⟩,
 ⟨.no,.mv (.t P5_8),some P5_5⟩])
 (.seq (.reg [⟨.no,.mv (.t P5_1),some P5_9⟩,
 ⟨.no,.call (.c (.fn f_cmp_isNaN_string [] [])) [(.t P5_9)],some P5_10⟩,
 ⟨.no,.mv (.t P5_10),some P5_6⟩])
 (.seq (.seq (.reg [⟨.no,.mv (.t P5_5),some P5_11⟩])
 (.cond (.t P5_11) (.seq (.seq (.reg [⟨.no,.mv (.t P5_6),some P5_12⟩])
 (.cond (.t P5_12) (.seq (.reg [⟨.no,.mv (.c (.int .i64 (.ofNat 0))),some P5_4⟩])
 .ret)
 .skip))
 (.seq (.reg [⟨.no,.mv (.c (.int .i64 (.negSucc 0))),some P5_4⟩])
 .ret))
 .skip))
 (.seq (.seq (.reg [⟨.no,.mv (.t P5_6),some P5_13⟩])
 (.cond (.t P5_13) (.seq (.reg [⟨.no,.mv (.c (.int .i64 (.ofNat 1))),some P5_4⟩])
 .ret)
 .skip))
 (.seq (.seq (.reg [⟨.no,.mv (.t P5_0),some P5_14⟩,
 ⟨.no,.mv (.t P5_1),some P5_15⟩,
 ⟨.no,.bin .lss (.t P5_14) (.t P5_15),some P5_16⟩])
 (.cond (.t P5_16) (.seq (.reg [⟨.no,.mv (.c (.int .i64 (.negSucc 0))),some P5_4⟩])
 .ret)
 .skip))
 (.seq (.seq (.reg [⟨.no,.mv (.t P5_0),some P5_17⟩,
 ⟨.no,.mv (.t P5_1),some P5_18⟩,
 ⟨.no,.bin .gtr (.t P5_17) (.t P5_18),some P5_19⟩])
 (.cond (.t P5_19) (.seq (.reg [⟨.no,.mv (.c (.int .i64 (.ofNat 1))),some P5_4⟩])
 .ret)
 .skip))
 (.seq (.reg [⟨.no,.mv (.c (.int .i64 (.ofNat 0))),some P5_4⟩])
 .ret)))))))), [.t P5_4], 0, false, false⟩
noncomputable def rf_raw_Writer_Bool : RFn := ⟨apOf 4 0 2, mkU 4, (.seq (.reg [⟨.no,.mv (.c (.int .u64 (.ofNat 0))),some P4_4⟩])
 (.seq (.seq (.reg [⟨.no,.mv (.t P4_1),some P4_5⟩])
 (.cond (.t P4_5) (.reg [⟨.no,.mv (.c (.int .u64 (.ofNat 1))),some P4_4⟩])
 .skip))
 (.reg [⟨.no,.mv (.t P4_0),some P4_6⟩,
 ⟨.no,.mv (.t P4_4),some P4_7⟩,
 ⟨.no,.call (.c (.fn f_raw_Writer_Number [] [])) [(.t P4_6),(.t P4_7),(.c (.int .i64 (.ofNat 1)))],some P4_8⟩]))), [], 0, false, false⟩
noncomputable def rf_node_put : RFn := ⟨apOf 5 0 2, mkU 5, (.seq (.reg [⟨.no,.box (.t P5_1),some P5_3⟩])
 (.seq (.reg [⟨.no,.mv (.t P5_0),some P5_4⟩,
 ⟨.no,.faddr 1 2 (.t P5_3),some P5_5⟩,
 ⟨.no,.faddr 0 1 (.t P5_5),some P5_6⟩,
 ⟨.no,.load false 1 (.t P5_6),some P5_7⟩,
 ⟨.no,.conv (.toInt .u64) (.t P5_7),some P5_8⟩,
 ⟨.no,.call (.c (.fn f_raw_Writer_Number [] [])) [(.t P5_4),(.t P5_8),(.c (.int .i64 (.ofNat 4)))],some P5_9⟩])
 (.seq (.reg [⟨.no,.mv (.t P5_0),some P5_10⟩,
 ⟨.no,.faddr 1 2 (.t P5_3),some P5_11⟩,
 ⟨.no,.faddr 1 1 (.t P5_11),some P5_12⟩,
 ⟨.no,.load false 1 (.t P5_12),some P5_13⟩,
 ⟨.no,.conv (.toInt .u64) (.t P5_13),some P5_14⟩,
 ⟨.no,.call (.c (.fn f_raw_Writer_Number [] [])) [(.t P5_10),(.t P5_14),(.c (.int .i64 (.ofNat 2)))],some P5_15⟩])
 (.reg [⟨.no,.mv (.t P5_0),some P5_16⟩,
 ⟨.no,.faddr 0 1 (.t P5_3),some P5_17⟩,
 ⟨.no,.load false 1 (.t P5_17),some P5_18⟩,
 ⟨.no,.call (.c (.fn f_raw_Writer_Bytes [] [])) [(.t P5_16),(.t P5_18)],some P5_19⟩])))), [], 0, false, false⟩
noncomputable def rf_rec_named : RFn := ⟨apOf 4 0 1, mkU 4, (.seq (.reg [⟨.no,.mv (.c (.bool false)),some P4_2⟩,
 ⟨.no,.mv (.c (.bool false)),some P4_3⟩,
 ⟨.no,.mv (.c (.bool false)),some P4_4⟩])
 (.seq (.seq (.reg [⟨.no,.mv (.t P4_0),some P4_5⟩])
 (.block 0 (.seq (.reg [⟨.no,.eq .int (.t P4_5) (.c (.int .i64 (.ofNat 1))),some P4_7⟩,
 ⟨.no,.mv (.t P4_7),some P4_6⟩])
 (.cond (.t P4_6) (.seq (.reg [⟨.no,.mv (.c (.bool true)),some P4_2⟩,
 ⟨.no,.mv (.c (.bool false)),some P4_3⟩,
 ⟨.no,.mv (.c (.bool false)),some P4_4⟩])
 .ret)
 (.seq (.reg [⟨.no,.eq .int (.t P4_5) (.c (.int .i64 (.ofNat 2))),some P4_9⟩,
 ⟨.no,.mv (.t P4_9),some P4_8⟩])
 (.cond (.t P4_8) (.seq (.reg [⟨.no,.mv (.c (.bool true)),some P4_2⟩,
 ⟨.no,.mv (.c (.bool true)),some P4_3⟩,
 ⟨.no,.mv (.c (.bool false)),some P4_4⟩])
 .ret)
 (.seq (.reg [⟨.no,.eq .int (.t P4_5) (.c (.int .i64 (.ofNat 3))),some P4_11⟩,
 ⟨.no,.mv (.t P4_11),some P4_10⟩])
 (.cond (.t P4_10) (.seq (.reg [⟨.no,.mv (.c (.bool false)),some P4_2⟩,
 ⟨.no,.mv (.c (.bool true)),some P4_3⟩,
 ⟨.no,.mv (.c (.bool false)),some P4_4⟩])
 .ret)
 (.seq (.reg [⟨.no,.eq .int (.t P4_5) (.c (.int .i64 (.ofNat 8))),some P4_13⟩,
 ⟨.no,.mv (.t P4_13),some P4_12⟩])
 (.cond (.t P4_12) (.seq (.reg [⟨.no,.mv (.c (.bool false)),some P4_2⟩,
 ⟨.no,.mv (.c (.bool false)),some P4_3⟩,
 ⟨.no,.mv (.c (.bool true)),some P4_4⟩])
 .ret)
 .skip))))))))))
 (.seq (.reg [⟨.no,.mv (.c (.bool false)),some P4_2⟩,
 ⟨.no,.mv (.c (.bool false)),some P4_3⟩,
 ⟨.no,.mv (.c (.bool false)),some P4_4⟩])
 .ret))), [.t P4_2,.t P4_3,.t P4_4], 0, false, false⟩
noncomputable def rf_rec_putChange : RFn := ⟨apOf 7 0 2, mkU 7, (.seq (.reg [⟨.no,.box (.t P7_1),some P7_3⟩])
 (.seq (.reg [⟨.no,.mv (.t P7_0),some P7_4⟩,
 ⟨.no,.faddr 4 1 (.t P7_3),some P7_5⟩,
 ⟨.no,.load false 1 (.t P7_5),some P7_6⟩,
 ⟨.no,.conv (.toInt .u64) (.t P7_6),some P7_7⟩,
 ⟨.no,.call (.c (.fn f_raw_Writer_Number [] [])) [(.t P7_4),(.t P7_7),(.c (.int .i64 (.ofNat 4)))],some P7_8⟩])
 (.seq (.reg [⟨.no,.mv (.t P7_0),some P7_9⟩,
 ⟨.no,.faddr 5 4 (.t P7_3),some P7_10⟩,
 ⟨.no,.faddr 0 1 (.t P7_10),some P7_11⟩,
 ⟨.no,.load false 1 (.t P7_11),some P7_12⟩,
 ⟨.no,.conv (.toInt .u64) (.t P7_12),some P7_13⟩,
 ⟨.no,.call (.c (.fn f_raw_Writer_Number [] [])) [(.t P7_9),(.t P7_13),(.c (.int .i64 (.ofNat 1)))],some P7_14⟩])
 (.seq (.reg [⟨.no,.mv (.t P7_0),some P7_15⟩,
 ⟨.no,.faddr 5 4 (.t P7_3),some P7_16⟩,
 ⟨.no,.faddr 1 1 (.t P7_16),some P7_17⟩,
 ⟨.no,.load false 1 (.t P7_17),some P7_18⟩,
 ⟨.no,.conv (.toInt .u64) (.t P7_18),some P7_19⟩,
 ⟨.no,.call (.c (.fn f_raw_Writer_Number [] [])) [(.t P7_15),(.t P7_19),(.c (.int .i64 (.ofNat 2)))],some P7_20⟩])
 (.seq (.reg [⟨.no,.mv (.t P7_0),some P7_21⟩,
 ⟨.no,.faddr 5 4 (.t P7_3),some P7_22⟩,
 ⟨.no,.faddr 2 1 (.t P7_22),some P7_23⟩,
 ⟨.no,.load false 1 (.t P7_23),some P7_24⟩,
 ⟨.no,.call (.c (.fn f_raw_Writer_Text [] [])) [(.t P7_21),(.t P7_24)],some P7_25⟩])
 (.seq (.reg [⟨.no,.mv (.t P7_0),some P7_26⟩,
 ⟨.no,.faddr 5 4 (.t P7_3),some P7_27⟩,
 ⟨.no,.faddr 3 1 (.t P7_27),some P7_28⟩,
 ⟨.no,.load false 1 (.t P7_28),some P7_29⟩,
 ⟨.no,.call (.c (.fn f_raw_Writer_Text [] [])) [(.t P7_26),(.t P7_29)],some P7_30⟩])
 (.seq (.reg [⟨.no,.mv (.t P7_0),some P7_31⟩,
 ⟨.no,.faddr 9 1 (.t P7_3),some P7_32⟩,
 ⟨.no,.load false 1 (.t P7_32),some P7_33⟩,
 ⟨.no,.conv (.toInt .u64) (.t P7_33),some P7_34⟩,
 ⟨.no,.call (.c (.fn f_raw_Writer_Number [] [])) [(.t P7_31),(.t P7_34),(.c (.int .i64 (.ofNat 1)))],some P7_35⟩])
 (.seq (.reg [⟨.no,.faddr 9 1 (.t P7_3),some P7_36⟩,
 ⟨.no,.load false 1 (.t P7_36),some P7_37⟩,
 ⟨.no,.eq .int (.t P7_37) (.c (.int .i64 (.ofNat 2))),some P7_38⟩])
 (.cond (.t P7_38) (.seq (.reg [⟨.no,.mv (.t P7_0),some P7_39⟩,
 ⟨.no,.faddr 10 1 (.t P7_3),some P7_40⟩,
 ⟨.no,.load false 1 (.t P7_40),some P7_41⟩,
 ⟨.no,.conv (.toInt .u64) (.t P7_41),some P7_42⟩,
 ⟨.no,.call (.c (.fn f_raw_Writer_Number [] [])) [(.t P7_39),(.t P7_42),(.c (.int .i64 (.ofNat 2)))],some P7_43⟩])
 (.seq (.reg [⟨.no,.mv (.t P7_0),some P7_44⟩,
 ⟨.no,.faddr 11 3 (.t P7_3),some P7_45⟩,
 ⟨.no,.faddr 0 1 (.t P7_45),some P7_46⟩,
 ⟨.no,.load false 1 (.t P7_46),some P7_47⟩,
 ⟨.no,.call (.c (.fn f_raw_Writer_Text [] [])) [(.t P7_44),(.t P7_47)],some P7_48⟩])
 (.seq (.reg [⟨.no,.mv (.t P7_0),some P7_49⟩,
 ⟨.no,.faddr 11 3 (.t P7_3),some P7_50⟩,
 ⟨.no,.faddr 1 2 (.t P7_50),some P7_51⟩,
 ⟨.no,.faddr 0 1 (.t P7_51),some P7_52⟩,
 ⟨.no,.load false 1 (.t P7_52),some P7_53⟩,
 ⟨.no,.conv (.toInt .u64) (.t P7_53),some P7_54⟩,
 ⟨.no,.call (.c (.fn f_raw_Writer_Number [] [])) [(.t P7_49),(.t P7_54),(.c (.int .i64 (.ofNat 4)))],some P7_55⟩])
 (.seq (.reg [⟨.no,.mv (.t P7_0),some P7_56⟩,
 ⟨.no,.faddr 11 3 (.t P7_3),some P7_57⟩,
 ⟨.no,.faddr 1 2 (.t P7_57),some P7_58⟩,
 ⟨.no,.faddr 1 1 (.t P7_58),some P7_59⟩,
 ⟨.no,.load false 1 (.t P7_59),some P7_60⟩,
 ⟨.no,.conv (.toInt .u64) (.t P7_60),some P7_61⟩,
 ⟨.no,.call (.c (.fn f_raw_Writer_Number [] [])) [(.t P7_56),(.t P7_61),(.c (.int .i64 (.ofNat 2)))],some P7_62⟩])
 (.reg [⟨.no,.mv (.t P7_0),some P7_63⟩,
 ⟨.no,.faddr 14 1 (.t P7_3),some P7_64⟩,
 ⟨.no,.load false 1 (.t P7_64),some P7_65⟩,
 ⟨.no,.call (.c (.fn f_raw_Writer_Bool [] [])) [(.t P7_63),(.t P7_65)],some P7_66⟩])))))
 .skip))))))))), [], 0, false, false⟩
noncomputable def rf_wal_Log_add : RFn := ⟨apOf 6 0 3, mkU 6, (.seq (.reg [⟨.no,.mv (.c (.int .u64 (.ofNat 0))),some P6_6⟩,
 ⟨.no,.mv (.c (.int .i64 (.ofNat 0))),some P6_7⟩])
 (.seq (.seq (.reg [⟨.no,.mv (.t P6_0),some P6_10⟩,
 ⟨.no,.eq .ptr (.t P6_10) (.c .nilp),some P6_11⟩])
 (.cond (.t P6_11) (.seq (.reg [⟨.no,.mv (.c (.int .u64 (.ofNat 0))),some P6_6⟩,
 ⟨.no,.mv (.c (.int .i64 (.ofNat 1))),some P6_7⟩])
 .ret)
 .skip))
 (.seq (.reg [⟨.no,.mv (.t P6_0),some P6_13⟩,
 ⟨.no,.nilc (.t P6_13),some P6_14⟩,
 ⟨.no,.faddr 3 1 (.t P6_14),some P6_15⟩,
 ⟨.no,.load false 1 (.t P6_15),some P6_16⟩,
 ⟨.no,.mv (.t P6_1),some P6_17⟩,
 ⟨.no,.call (.c (.fn f_wal_Frame [] [])) [(.t P6_16),(.t P6_17)],some P6_18⟩,
 ⟨.no,.mv (.t P6_18),some P6_12⟩,
 ⟨.no,.extr (.t P6_12) 0,some P6_19⟩,
 ⟨.no,.extr (.t P6_12) 1,some P6_20⟩,
 ⟨.no,.mv (.t P6_19),some P6_8⟩,
 ⟨.no,.mv (.t P6_20),some P6_9⟩])
 (.seq (.seq (.reg [⟨.no,.mv (.t P6_9),some P6_21⟩,
 ⟨.no,.ne .int (.t P6_21) (.c (.int .i64 (.ofNat 0))),some P6_22⟩])
 (.cond (.t P6_22) (.seq (.reg [⟨.no,.mv (.t P6_9),some P6_23⟩,
 ⟨.no,.mv (.c (.int .u64 (.ofNat 0))),some P6_6⟩,
 ⟨.no,.mv (.t P6_23),some P6_7⟩])
 .ret)
 .skip))
 (.seq (.seq (.reg [⟨.no,.mv (.t P6_8),some P6_24⟩,
 ⟨.no,.len .str (.t P6_24),some P6_25⟩,
 ⟨.no,.mv (.t P6_2),some P6_26⟩,
 ⟨.no,.bin .add (.t P6_25) (.t P6_26),some P6_27⟩,
 ⟨.no,.mv (.t P6_0),some P6_28⟩,
 ⟨.no,.call (.c (.fn f_wal_Log_Room [] [])) [(.t P6_28)],some P6_29⟩,
 ⟨.no,.bin .gtr (.t P6_27) (.t P6_29),some P6_30⟩])
 (.cond (.t P6_30) (.seq (.reg [⟨.no,.mv (.c (.int .u64 (.ofNat 0))),some P6_6⟩,
 ⟨.no,.mv (.c (.int .i64 (.ofNat 50))),some P6_7⟩])
 .ret)
 .skip))
 (.seq (.reg [⟨.no,.mv (.t P6_0),some P6_31⟩,
 ⟨.no,.nilc (.t P6_31),some P6_32⟩,
 ⟨.no,.faddr 6 1 (.t P6_32),some P6_33⟩,
 ⟨.no,.load false 1 (.t P6_33),some P6_34⟩,
 ⟨.no,.mv (.t P6_8),some P6_35⟩,
 ⟨.no,.bin .add (.t P6_34) (.t P6_35),some P6_36⟩,
 ⟨.no,.nilc (.t P6_31),some P6_37⟩,
 ⟨.no,.faddr 6 1 (.t P6_37),some P6_38⟩,
 ⟨.no,.store 1 (.t P6_38) (.t P6_36),none⟩])
 (.seq (.reg [⟨.no,.mv (.t P6_0),some P6_39⟩,
 ⟨.no,.mv (.t P6_1),some P6_40⟩,
 ⟨.no,.call (.c (.fn f_wal_Log_put [] [])) [(.t P6_39),(.t P6_40)],some P6_41⟩,
 ⟨.no,.mv (.t P6_41),some P6_6⟩,
 ⟨.no,.mv (.c (.int .i64 (.ofNat 0))),some P6_7⟩])
 .ret))))))), [.t P6_6,.t P6_7], 0, false, false⟩
noncomputable def rf_raw_Reader_End : RFn := ⟨apOf 4 0 1, mkU 4, (.seq (.reg [⟨.no,.mv (.c (.int .i64 (.ofNat 0))),some P4_2⟩])
 (.seq (.seq (.reg [⟨.no,.mv (.t P4_0),some P4_3⟩,
 ⟨.no,.call (.c (.fn f_raw_Reader_Left [] [])) [(.t P4_3)],some P4_4⟩,
 ⟨.no,.bin .gtr (.t P4_4) (.c (.int .i64 (.ofNat 0))),some P4_5⟩])
 (.cond (.t P4_5) (.reg [⟨.no,.mv (.t P4_0),some P4_6⟩,
 ⟨.no,.call (.c (.fn f_raw_Reader_Fail [] [])) [(.t P4_6),(.c (.int .i64 (.ofNat 5)))],some P4_7⟩])
 .skip))
 (.seq (.reg [⟨.no,.mv (.t P4_0),some P4_8⟩,
 ⟨.no,.call (.c (.fn f_raw_Reader_Err [] [])) [(.t P4_8)],some P4_9⟩,
 ⟨.no,.mv (.t P4_9),some P4_2⟩])
 .ret))), [.t P4_2], 0, false, false⟩
noncomputable def rf_slices_insertionSortCmpFunc_api_Table : RFn := ⟨apOf 6 0 4, mkU 6, (.seq (.reg [⟨.no,.mv (.t P6_1),some P6_10⟩,
 ⟨.no,.bin .add (.t P6_10) (.c (.int .i64 (.ofNat 1))),some P6_11⟩,
 ⟨.no,.mv (.t P6_11),some P6_8⟩])
 (.block 0 (.loop (.seq (.seq (.reg [⟨.no,.mv (.t P6_8),some P6_12⟩,
 ⟨.no,.mv (.t P6_2),some P6_13⟩,
 ⟨.no,.bin .lss (.t P6_12) (.t P6_13),some P6_14⟩])
 (.cond (.t P6_14) .skip
 (.exit 0)))
 (.seq (.block 1 (.seq (.reg [⟨.no,.mv (.t P6_8),some P6_17⟩,
 ⟨.no,.mv (.t P6_17),some P6_9⟩])
 (.block 2 (.loop (.seq (.seq (.draw [] 18 [⟨⟨.no,.mv (.t P6_9),some P6_18⟩,.val,0,0⟩,
 ⟨⟨.no,.mv (.t P6_1),some P6_19⟩,.val,0,0⟩,
 ⟨⟨.no,.bin .gtr (.t P6_18) (.t P6_19),some P6_20⟩,.val,0,0⟩,
 ⟨⟨.no,.mv (.t P6_20),some P6_21⟩,.val,0,0⟩,
 ⟨⟨(.on P6_21 true),.mv (.t P6_3),some P6_22⟩,.val,0,0⟩,
 ⟨⟨(.on P6_21 true),.mv (.t P6_0),some P6_23⟩,.val,0,0⟩,
 ⟨⟨(.on P6_21 true),.mv (.t P6_9),some P6_24⟩,.val,0,0⟩,
 ⟨⟨(.on P6_21 true),.ixSl 5 (.t P6_23) (.t P6_24),some P6_25⟩,.val,0,0⟩,
 ⟨⟨(.on P6_21 true),.load true 5 (.t P6_25),some P6_26⟩,.read,0,0⟩,
 ⟨⟨(.on P6_21 true),.mv (.t P6_0),some P6_27⟩,.val,0,0⟩,
 ⟨⟨(.on P6_21 true),.mv (.t P6_9),some P6_28⟩,.val,0,0⟩,
 ⟨⟨(.on P6_21 true),.bin .sub (.t P6_28) (.c (.int .i64 (.ofNat 1))),some P6_29⟩,.val,0,0⟩,
 ⟨⟨(.on P6_21 true),.ixSl 5 (.t P6_27) (.t P6_29),some P6_30⟩,.val,0,0⟩,
 ⟨⟨(.on P6_21 true),.load true 5 (.t P6_30),some P6_31⟩,.read,0,0⟩,
 ⟨⟨(.on P6_21 true),.call (.t P6_22) [(.t P6_26),(.t P6_31)],some P6_32⟩,.eff,0,1⟩,
 ⟨⟨(.on P6_21 true),.bin .lss (.t P6_32) (.c (.int .i64 (.ofNat 0))),some P6_33⟩,.val,1,1⟩,
 ⟨⟨.no,.pick (.t P6_21) (.t P6_33) (.c (.bool false)),some P6_34⟩,.val,1,1⟩])
 (.cond (.t P6_34) .skip
 (.exit 2)))
 (.seq (.block 3 (.draw [] 19 [⟨⟨.no,.mv (.t P6_0),some P6_37⟩,.val,0,0⟩,
 ⟨⟨.no,.mv (.t P6_9),some P6_38⟩,.val,0,0⟩,
 ⟨⟨.no,.mv (.t P6_0),some P6_39⟩,.val,0,1⟩,
 ⟨⟨.no,.mv (.t P6_9),some P6_40⟩,.val,0,1⟩,
 ⟨⟨.no,.bin .sub (.t P6_40) (.c (.int .i64 (.ofNat 1))),some P6_41⟩,.val,0,1⟩,
 ⟨⟨.no,.mv (.t P6_0),some P6_42⟩,.val,0,0⟩,
 ⟨⟨.no,.mv (.t P6_9),some P6_43⟩,.val,0,0⟩,
 ⟨⟨.no,.bin .sub (.t P6_43) (.c (.int .i64 (.ofNat 1))),some P6_44⟩,.val,0,0⟩,
 ⟨⟨.no,.ixSl 5 (.t P6_42) (.t P6_44),some P6_45⟩,.val,0,0⟩,
 ⟨⟨.no,.load true 5 (.t P6_45),some P6_46⟩,.read,0,0⟩,
 ⟨⟨.no,.mv (.t P6_0),some P6_47⟩,.val,0,0⟩,
 ⟨⟨.no,.mv (.t P6_9),some P6_48⟩,.val,0,0⟩,
 ⟨⟨.no,.ixSl 5 (.t P6_47) (.t P6_48),some P6_49⟩,.val,0,0⟩,
 ⟨⟨.no,.load true 5 (.t P6_49),some P6_50⟩,.read,0,0⟩,
 ⟨⟨.no,.ixSl 5 (.t P6_37) (.t P6_38),some P6_51⟩,.val,0,0⟩,
 ⟨⟨.no,.store 5 (.t P6_51) (.t P6_46),none⟩,.eff,0,1⟩,
 ⟨⟨.no,.ixSl 5 (.t P6_39) (.t P6_41),some P6_52⟩,.val,1,1⟩,
 ⟨⟨.no,.store 5 (.t P6_52) (.t P6_50),none⟩,.eff,1,2⟩]))
 (.reg [⟨.no,.mv (.t P6_9),some P6_35⟩,
 ⟨.no,.bin .sub (.t P6_35) (.c (.int .i64 (.ofNat 1))),some P6_36⟩,
 ⟨.no,.mv (.t P6_36),some P6_9⟩])))))))
 (.reg [⟨.no,.mv (.t P6_8),some P6_15⟩,
 ⟨.no,.bin .add (.t P6_15) (.c (.int .i64 (.ofNat 1))),some P6_16⟩,
 ⟨.no,.mv (.t P6_16),some P6_8⟩])))))), [], 0, false, false⟩
noncomputable def rf_math_bits_Len64 : RFn := ⟨apOf 5 0 1, mkU 5, (.seq (.reg [⟨.no,.mv (.c (.int .i64 (.ofNat 0))),some P5_2⟩])
 (.seq (.seq (.reg [⟨.no,.mv (.t P5_0),some P5_3⟩,
 ⟨.no,.bin .geq (.t P5_3) (.c (.int .u64 (.ofNat 4294967296))),some P5_4⟩])
 (.cond (.t P5_4) (.seq (.reg [⟨.no,.mv (.t P5_0),some P5_5⟩,
 ⟨.no,.bin .shr (.t P5_5) (.c (.int .u64 (.ofNat 32))),some P5_6⟩,
 ⟨.no,.mv (.t P5_6),some P5_0⟩])
 (.reg [⟨.no,.mv (.c (.int .i64 (.ofNat 32))),some P5_2⟩]))
 .skip))
 (.seq (.seq (.reg [⟨.no,.mv (.t P5_0),some P5_7⟩,
 ⟨.no,.bin .geq (.t P5_7) (.c (.int .u64 (.ofNat 65536))),some P5_8⟩])
 (.cond (.t P5_8) (.seq (.reg [⟨.no,.mv (.t P5_0),some P5_9⟩,
 ⟨.no,.bin .shr (.t P5_9) (.c (.int .u64 (.ofNat 16))),some P5_10⟩,
 ⟨.no,.mv (.t P5_10),some P5_0⟩])
 (.reg [⟨.no,.mv (.t P5_2),some P5_11⟩,
 ⟨.no,.bin .add (.t P5_11) (.c (.int .i64 (.ofNat 16))),some P5_12⟩,
 ⟨.no,.mv (.t P5_12),some P5_2⟩]))
 .skip))
 (.seq (.seq (.reg [⟨.no,.mv (.t P5_0),some P5_13⟩,
 ⟨.no,.bin .geq (.t P5_13) (.c (.int .u64 (.ofNat 256))),some P5_14⟩])
 (.cond (.t P5_14) (.seq (.reg [⟨.no,.mv (.t P5_0),some P5_15⟩,
 ⟨.no,.bin .shr (.t P5_15) (.c (.int .u64 (.ofNat 8))),some P5_16⟩,
 ⟨.no,.mv (.t P5_16),some P5_0⟩])
 (.reg [⟨.no,.mv (.t P5_2),some P5_17⟩,
 ⟨.no,.bin .add (.t P5_17) (.c (.int .i64 (.ofNat 8))),some P5_18⟩,
 ⟨.no,.mv (.t P5_18),some P5_2⟩]))
 .skip))
 (.seq (.reg [⟨.no,.mv (.t P5_2),some P5_19⟩,
 ⟨.no,.mv (.t P5_0),some P5_20⟩,
 ⟨.no,.conv (.toInt .u8) (.t P5_20),some P5_21⟩,
 ⟨.no,.ixStr (.c (.str [0,1,2,2,3,3,3,3,4,4,4,4,4,4,4,4,5,5,5,5,5,5,5,5,5,5,5,5,5,5,5,5,6,6,6,6,6,6,6,6,6,6,6,6,6,6,6,6,6,6,6,6,6,6,6,6,6,6,6,6,6,6,6,6,7,7,7,7,7,7,7,7,7,7,7,7,7,7,7,7,7,7,7,7,7,7,7,7,7,7,7,7,7,7,7,7,7,7,7,7,7,7,7,7,7,7,7,7,7,7,7,7,7,7,7,7,7,7,7,7,7,7,7,7,7,7,7,7,8,8,8,8,8,8,8,8,8,8,8,8,8,8,8,8,8,8,8,8,8,8,8,8,8,8,8,8,8,8,8,8,8,8,8,8,8,8,8,8,8,8,8,8,8,8,8,8,8,8,8,8,8,8,8,8,8,8,8,8,8,8,8,8,8,8,8,8,8,8,8,8,8,8,8,8,8,8,8,8,8,8,8,8,8,8,8,8,8,8,8,8,8,8,8,8,8,8,8,8,8,8,8,8,8,8,8,8,8,8,8,8,8,8,8,8,8,8,8,8,8,8,8,8,8,8,8,8])) (.t P5_21),some P5_22⟩,
 ⟨.no,.conv (.toInt .i64) (.t P5_22),some P5_23⟩,
 ⟨.no,.bin .add (.t P5_19) (.t P5_23),some P5_24⟩,
 ⟨.no,.mv (.t P5_24),some P5_2⟩])
 .ret))))), [.t P5_2], 0, false, false⟩
noncomputable def rf_space_Taken : RFn := ⟨apOf 5 0 2, mkU 5, (.seq (.reg [⟨.no,.box (.t P5_0),some P5_2⟩,
 ⟨.no,.mv (.c (.bool false)),some P5_4⟩])
 (.seq (.seq (.reg [⟨.no,.load true 5 (.t P5_2),some P5_6⟩,
 ⟨.no,.call (.c (.fn f_space_Is [] [])) [(.t P5_6)],some P5_7⟩,
 ⟨.no,.un .not (.t P5_7),some P5_8⟩,
 ⟨.no,.mv (.t P5_8),some P5_9⟩,
 ⟨(.on P5_9 false),.mv (.t P5_1),some P5_10⟩,
 ⟨(.on P5_9 false),.bin .lss (.t P5_10) (.c (.int .u32 (.ofNat 1))),some P5_11⟩,
 ⟨.no,.pick (.t P5_9) (.c (.bool true)) (.t P5_11),some P5_12⟩,
 ⟨.no,.mv (.t P5_12),some P5_13⟩,
 ⟨(.on P5_13 false),.mv (.t P5_1),some P5_14⟩,
 ⟨(.on P5_13 false),.bin .gtr (.t P5_14) (.c (.int .u32 (.ofNat 2048))),some P5_15⟩,
 ⟨.no,.pick (.t P5_13) (.c (.bool true)) (.t P5_15),some P5_16⟩])
 (.cond (.t P5_16) (.seq (.reg [⟨.no,.mv (.c (.bool false)),some P5_4⟩])
 .ret)
 .skip))
 (.seq (.reg [⟨.no,.mv (.t P5_1),some P5_17⟩,
 ⟨.no,.conv (.toInt .i64) (.t P5_17),some P5_18⟩,
 ⟨.no,.bin .sub (.t P5_18) (.c (.int .i64 (.ofNat 1))),some P5_19⟩,
 ⟨.no,.mv (.t P5_19),some P5_5⟩])
 (.seq (.reg [⟨.no,.faddr 4 1 (.t P5_2),some P5_20⟩,
 ⟨.no,.load false 1 (.t P5_20),some P5_21⟩,
 ⟨.no,.ixSl 1 (.t P5_21) (.c (.int .i64 (.ofNat 0))),some P5_22⟩,
 ⟨.no,.load false 1 (.t P5_22),some P5_23⟩,
 ⟨.no,.mv (.t P5_5),some P5_24⟩,
 ⟨.no,.bin .quo (.t P5_24) (.c (.int .i64 (.ofNat 8))),some P5_25⟩,
 ⟨.no,.ixStr (.t P5_23) (.t P5_25),some P5_26⟩,
 ⟨.no,.mv (.t P5_5),some P5_27⟩,
 ⟨.no,.bin .rem (.t P5_27) (.c (.int .i64 (.ofNat 8))),some P5_28⟩,
 ⟨.no,.bin .shr (.t P5_26) (.t P5_28),some P5_29⟩,
 ⟨.no,.bin .and (.t P5_29) (.c (.int .u8 (.ofNat 1))),some P5_30⟩,
 ⟨.no,.eq .int (.t P5_30) (.c (.int .u8 (.ofNat 1))),some P5_31⟩,
 ⟨.no,.mv (.t P5_31),some P5_4⟩])
 .ret)))), [.t P5_4], 0, false, false⟩
noncomputable def rf_heap_next : RFn := ⟨apOf 4 0 1, mkU 4, (.seq (.reg [⟨.no,.box (.t P4_0),some P4_1⟩,
 ⟨.no,.mv (.c (.int .u32 (.ofNat 0))),some P4_2⟩])
 (.seq (.reg [⟨.no,.faddr 3 1 (.t P4_1),some P4_6⟩,
 ⟨.no,.load false 1 (.t P4_6),some P4_7⟩,
 ⟨.no,.call (.c (.fn f_raw_Get [] [])) [(.t P4_7),(.c (.int .i64 (.ofNat 0))),(.c (.int .i64 (.ofNat 4)))],some P4_8⟩,
 ⟨.no,.mv (.t P4_8),some P4_5⟩,
 ⟨.no,.extr (.t P4_5) 0,some P4_9⟩,
 ⟨.no,.extr (.t P4_5) 1,some P4_10⟩,
 ⟨.no,.mv (.t P4_9),some P4_3⟩,
 ⟨.no,.mv (.t P4_10),some P4_4⟩])
 (.seq (.reg [⟨.no,.mv (.t P4_3),some P4_11⟩,
 ⟨.no,.conv (.toInt .u32) (.t P4_11),some P4_12⟩,
 ⟨.no,.mv (.t P4_12),some P4_2⟩])
 .ret))), [.t P4_2], 0, false, false⟩
noncomputable def rf_disk_Disk_sure : RFn := ⟨apOf 5 0 2, mkU 5, (.seq (.reg [⟨.no,.mv (.c (.str [])),some P5_4⟩])
 (.seq (.seq (.reg [⟨.no,.mv (.t P5_0),some P5_8⟩,
 ⟨.no,.nilc (.t P5_8),some P5_9⟩,
 ⟨.no,.faddr 1 1 (.t P5_9),some P5_10⟩,
 ⟨.no,.load false 1 (.t P5_10),some P5_11⟩,
 ⟨.no,.mv (.t P5_1),some P5_12⟩,
 ⟨.no,.look (.int .u32) (.str []) (.t P5_11) (.t P5_12) true,some P5_13⟩,
 ⟨.no,.mv (.t P5_13),some P5_7⟩,
 ⟨.no,.extr (.t P5_7) 0,some P5_14⟩,
 ⟨.no,.extr (.t P5_7) 1,some P5_15⟩,
 ⟨.no,.mv (.t P5_14),some P5_5⟩,
 ⟨.no,.mv (.t P5_15),some P5_6⟩])
 (.seq (.reg [⟨.no,.mv (.t P5_6),some P5_16⟩])
 (.cond (.t P5_16) (.seq (.reg [⟨.no,.mv (.t P5_5),some P5_17⟩,
 ⟨.no,.mv (.t P5_17),some P5_4⟩])
 .ret)
 .skip)))
 (.seq (.reg [⟨.no,.call (.c (.fn f_strings_Repeat [] [])) [(.c (.str [0])),(.c (.int .i64 (.ofNat 512)))],some P5_18⟩,
 ⟨.no,.mv (.t P5_18),some P5_4⟩])
 .ret))), [.t P5_4], 0, false, false⟩
noncomputable def rf_page_stands : RFn := ⟨apOf 7 0 2, mkU 7, (.seq (.reg [⟨.no,.box (.t P7_0),some P7_2⟩,
 ⟨.no,.box (.t P7_1),some P7_3⟩,
 ⟨.no,.mv (.c (.int .i64 (.ofNat 0))),some P7_4⟩])
 (.seq (.seq (.reg [⟨.no,.faddr 0 1 (.t P7_3),some P7_5⟩,
 ⟨.no,.load false 1 (.t P7_5),some P7_6⟩])
 (.block 0 (.seq (.reg [⟨.no,.eq .int (.t P7_6) (.c (.int .i64 (.ofNat 2))),some P7_8⟩,
 ⟨.no,.mv (.t P7_8),some P7_7⟩])
 (.cond (.t P7_7) (.seq (.seq (.reg [⟨.no,.faddr 1 1 (.t P7_3),some P7_9⟩,
 ⟨.no,.load false 1 (.t P7_9),some P7_10⟩,
 ⟨.no,.faddr 4 1 (.t P7_2),some P7_11⟩,
 ⟨.no,.load false 1 (.t P7_11),some P7_12⟩,
 ⟨.no,.len .sl (.t P7_12),some P7_13⟩,
 ⟨.no,.bin .gtr (.t P7_10) (.t P7_13),some P7_14⟩])
 (.cond (.t P7_14) (.seq (.reg [⟨.no,.mv (.c (.int .i64 (.ofNat 1))),some P7_4⟩])
 .ret)
 .skip))
 (.seq (.reg [⟨.no,.faddr 4 1 (.t P7_2),some P7_15⟩,
 ⟨.no,.load false 1 (.t P7_15),some P7_16⟩,
 ⟨.no,.len .sl (.t P7_16),some P7_17⟩,
 ⟨.no,.bin .geq (.t P7_17) (.c (.int .i64 (.ofNat 64))),some P7_18⟩])
 (.cond (.t P7_18) (.seq (.reg [⟨.no,.mv (.c (.int .i64 (.ofNat 3))),some P7_4⟩])
 .ret)
 .skip)))
 (.seq (.seq (.reg [⟨.no,.eq .int (.t P7_6) (.c (.int .i64 (.ofNat 3))),some P7_20⟩,
 ⟨.no,.mv (.t P7_20),some P7_19⟩])
 (.cond (.t P7_19) .skip
 (.reg [⟨.no,.eq .int (.t P7_6) (.c (.int .i64 (.ofNat 4))),some P7_21⟩,
 ⟨.no,.mv (.t P7_21),some P7_19⟩])))
 (.cond (.t P7_19) (.seq (.seq (.reg [⟨.no,.faddr 1 1 (.t P7_3),some P7_22⟩,
 ⟨.no,.load false 1 (.t P7_22),some P7_23⟩,
 ⟨.no,.faddr 4 1 (.t P7_2),some P7_24⟩,
 ⟨.no,.load false 1 (.t P7_24),some P7_25⟩,
 ⟨.no,.len .sl (.t P7_25),some P7_26⟩,
 ⟨.no,.bin .geq (.t P7_23) (.t P7_26),some P7_27⟩])
 (.cond (.t P7_27) (.seq (.reg [⟨.no,.mv (.c (.int .i64 (.ofNat 1))),some P7_4⟩])
 .ret)
 .skip))
 (.seq (.draw [] 10 [⟨⟨.no,.faddr 4 1 (.t P7_2),some P7_28⟩,.val,0,0⟩,
 ⟨⟨.no,.load false 1 (.t P7_28),some P7_29⟩,.read,0,0⟩,
 ⟨⟨.no,.faddr 1 1 (.t P7_3),some P7_30⟩,.val,0,0⟩,
 ⟨⟨.no,.load false 1 (.t P7_30),some P7_31⟩,.read,0,0⟩,
 ⟨⟨.no,.ixSl 1 (.t P7_29) (.t P7_31),some P7_32⟩,.val,0,0⟩,
 ⟨⟨.no,.load false 1 (.t P7_32),some P7_33⟩,.read,0,0⟩,
 ⟨⟨.no,.faddr 3 1 (.t P7_3),some P7_34⟩,.val,0,0⟩,
 ⟨⟨.no,.load false 1 (.t P7_34),some P7_35⟩,.read,0,0⟩,
 ⟨⟨.no,.ne .str (.t P7_33) (.t P7_35),some P7_36⟩,.val,0,0⟩])
 (.cond (.t P7_36) (.seq (.reg [⟨.no,.mv (.c (.int .i64 (.ofNat 31))),some P7_4⟩])
 .ret)
 .skip)))
 (.seq (.reg [⟨.no,.eq .int (.t P7_6) (.c (.int .i64 (.ofNat 5))),some P7_38⟩,
 ⟨.no,.mv (.t P7_38),some P7_37⟩])
 (.cond (.t P7_37) (.seq (.reg [⟨.no,.faddr 3 1 (.t P7_2),some P7_39⟩,
 ⟨.no,.load false 1 (.t P7_39),some P7_40⟩,
 ⟨.no,.faddr 3 1 (.t P7_3),some P7_41⟩,
 ⟨.no,.load false 1 (.t P7_41),some P7_42⟩,
 ⟨.no,.ne .str (.t P7_40) (.t P7_42),some P7_43⟩])
 (.cond (.t P7_43) (.seq (.reg [⟨.no,.mv (.c (.int .i64 (.ofNat 31))),some P7_4⟩])
 .ret)
 .skip))
 (.seq (.reg [⟨.no,.eq .int (.t P7_6) (.c (.int .i64 (.ofNat 7))),some P7_45⟩,
 ⟨.no,.mv (.t P7_45),some P7_44⟩])
 (.cond (.t P7_44) (.seq (.seq (.reg [⟨.no,.faddr 4 1 (.t P7_2),some P7_46⟩,
 ⟨.no,.load false 1 (.t P7_46),some P7_47⟩,
 ⟨.no,.len .sl (.t P7_47),some P7_48⟩,
 ⟨.no,.ne .int (.t P7_48) (.c (.int .i64 (.ofNat 0))),some P7_49⟩])
 (.cond (.t P7_49) (.seq (.reg [⟨.no,.mv (.c (.int .i64 (.ofNat 1))),some P7_4⟩])
 .ret)
 .skip))
 (.seq (.draw [] 9 [⟨⟨.no,.faddr 2 1 (.t P7_2),some P7_50⟩,.val,0,0⟩,
 ⟨⟨.no,.load false 1 (.t P7_50),some P7_51⟩,.read,0,0⟩,
 ⟨⟨.no,.faddr 3 1 (.t P7_2),some P7_52⟩,.val,0,0⟩,
 ⟨⟨.no,.load false 1 (.t P7_52),some P7_53⟩,.read,0,0⟩,
 ⟨⟨.no,.call (.c (.fn f_page_Kind [] [])) [(.t P7_51),(.t P7_53)],some P7_54⟩,.eff,0,1⟩,
 ⟨⟨.no,.faddr 3 1 (.t P7_3),some P7_55⟩,.val,0,1⟩,
 ⟨⟨.no,.load false 1 (.t P7_55),some P7_56⟩,.read,0,1⟩,
 ⟨⟨.no,.ne .str (.t P7_54) (.t P7_56),some P7_57⟩,.val,1,1⟩])
 (.cond (.t P7_57) (.seq (.reg [⟨.no,.mv (.c (.int .i64 (.ofNat 31))),some P7_4⟩])
 .ret)
 .skip)))
 (.seq (.reg [⟨.no,.eq .int (.t P7_6) (.c (.int .i64 (.ofNat 6))),some P7_59⟩,
 ⟨.no,.mv (.t P7_59),some P7_58⟩])
 (.cond (.t P7_58) (.seq (.seq (.draw [] 19 [⟨⟨.no,.faddr 4 1 (.t P7_2),some P7_60⟩,.val,0,0⟩,
 ⟨⟨.no,.load false 1 (.t P7_60),some P7_61⟩,.read,0,0⟩,
 ⟨⟨.no,.len .sl (.t P7_61),some P7_62⟩,.read,0,0⟩,
 ⟨⟨.no,.eq .int (.t P7_62) (.c (.int .i64 (.ofNat 0))),some P7_63⟩,.val,0,0⟩,
 ⟨⟨.no,.mv (.t P7_63),some P7_64⟩,.val,0,0⟩,
 ⟨⟨(.on P7_64 false),.faddr 4 1 (.t P7_2),some P7_65⟩,.val,0,0⟩,
 ⟨⟨(.on P7_64 false),.load false 1 (.t P7_65),some P7_66⟩,.read,0,0⟩,
 ⟨⟨(.on P7_64 false),.ixSl 1 (.t P7_66) (.c (.int .i64 (.ofNat 0))),some P7_67⟩,.val,0,0⟩,
 ⟨⟨(.on P7_64 false),.load false 1 (.t P7_67),some P7_68⟩,.read,0,0⟩,
 ⟨⟨(.on P7_64 false),.len .str (.t P7_68),some P7_69⟩,.read,0,0⟩,
 ⟨⟨(.on P7_64 false),.faddr 1 1 (.t P7_3),some P7_70⟩,.val,0,0⟩,
 ⟨⟨(.on P7_64 false),.load false 1 (.t P7_70),some P7_71⟩,.read,0,0⟩,
 ⟨⟨(.on P7_64 false),.bin .sub (.t P7_69) (.t P7_71),some P7_72⟩,.val,0,0⟩,
 ⟨⟨(.on P7_64 false),.faddr 2 1 (.t P7_3),some P7_73⟩,.val,0,0⟩,
 ⟨⟨(.on P7_64 false),.load false 1 (.t P7_73),some P7_74⟩,.read,0,0⟩,
 ⟨⟨(.on P7_64 false),.len .str (.t P7_74),some P7_75⟩,.read,0,0⟩,
 ⟨⟨(.on P7_64 false),.bin .lss (.t P7_72) (.t P7_75),some P7_76⟩,.val,0,0⟩,
 ⟨⟨.no,.pick (.t P7_64) (.c (.bool true)) (.t P7_76),some P7_77⟩,.val,0,0⟩])
 (.cond (.t P7_77) (.seq (.reg [⟨.no,.mv (.c (.int .i64 (.ofNat 1))),some P7_4⟩])
 .ret)
 .skip))
 (.seq (.draw [] 17 [⟨⟨.no,.faddr 4 1 (.t P7_2),some P7_78⟩,.val,0,0⟩,
 ⟨⟨.no,.load false 1 (.t P7_78),some P7_79⟩,.read,0,0⟩,
 ⟨⟨.no,.ixSl 1 (.t P7_79) (.c (.int .i64 (.ofNat 0))),some P7_80⟩,.val,0,0⟩,
 ⟨⟨.no,.load false 1 (.t P7_80),some P7_81⟩,.read,0,0⟩,
 ⟨⟨.no,.faddr 1 1 (.t P7_3),some P7_82⟩,.val,0,0⟩,
 ⟨⟨.no,.load false 1 (.t P7_82),some P7_83⟩,.read,0,0⟩,
 ⟨⟨.no,.faddr 1 1 (.t P7_3),some P7_84⟩,.val,0,0⟩,
 ⟨⟨.no,.load false 1 (.t P7_84),some P7_85⟩,.read,0,0⟩,
 ⟨⟨.no,.faddr 2 1 (.t P7_3),some P7_86⟩,.val,0,0⟩,
 ⟨⟨.no,.load false 1 (.t P7_86),some P7_87⟩,.read,0,0⟩,
 ⟨⟨.no,.len .str (.t P7_87),some P7_88⟩,.read,0,0⟩,
 ⟨⟨.no,.bin .add (.t P7_85) (.t P7_88),some P7_89⟩,.val,0,0⟩,
 ⟨⟨.no,.sliceS (.t P7_81) (some (.t P7_83)) (some (.t P7_89)),some P7_90⟩,.val,0,0⟩,
 ⟨⟨.no,.faddr 3 1 (.t P7_3),some P7_91⟩,.val,0,0⟩,
 ⟨⟨.no,.load false 1 (.t P7_91),some P7_92⟩,.read,0,0⟩,
 ⟨⟨.no,.ne .str (.t P7_90) (.t P7_92),some P7_93⟩,.val,0,0⟩])
 (.cond (.t P7_93) (.seq (.reg [⟨.no,.mv (.c (.int .i64 (.ofNat 31))),some P7_4⟩])
 .ret)
 .skip)))
 .skip))))))))))))
 (.seq (.reg [⟨.no,.mv (.c (.int .i64 (.ofNat 0))),some P7_4⟩])
 .ret))), [.t P7_4], 0, false, false⟩
noncomputable def rf_page_Encode : RFn := ⟨apOf 7 0 1, mkU 7, (.seq (.reg [⟨.no,.box (.t P7_0),some P7_1⟩,
 ⟨.no,.mv (.c (.str [])),some P7_2⟩,
 ⟨.no,.mv (.c (.int .i64 (.ofNat 0))),some P7_3⟩])
 (.seq (.block 0 (.seq (.reg [⟨.no,.faddr 2 1 (.t P7_1),some P7_10⟩,
 ⟨.no,.load false 1 (.t P7_10),some P7_11⟩,
 ⟨.no,.bin .lss (.t P7_11) (.c (.int .i64 (.ofNat 0))),some P7_12⟩,
 ⟨.no,.mv (.t P7_12),some P7_13⟩,
 ⟨(.on P7_13 false),.faddr 2 1 (.t P7_1),some P7_14⟩,
 ⟨(.on P7_13 false),.load false 1 (.t P7_14),some P7_15⟩,
 ⟨(.on P7_13 false),.bin .gtr (.t P7_15) (.c (.int .i64 (.ofNat 255))),some P7_16⟩,
 ⟨.no,.pick (.t P7_13) (.c (.bool true)) (.t P7_16),some P7_17⟩,
 ⟨.no,.mv (.t P7_17),some P7_18⟩,
 ⟨(.on P7_18 false),.faddr 3 1 (.t P7_1),some P7_19⟩,
 ⟨(.on P7_18 false),.load false 1 (.t P7_19),some P7_20⟩,
 ⟨(.on P7_18 false),.len .str (.t P7_20),some P7_21⟩,
 ⟨(.on P7_18 false),.bin .gtr (.t P7_21) (.c (.int .i64 (.ofNat 32))),some P7_22⟩,
 ⟨.no,.pick (.t P7_18) (.c (.bool true)) (.t P7_22),some P7_23⟩,
 ⟨.no,.mv (.t P7_23),some P7_24⟩,
 ⟨(.on P7_24 false),.faddr 4 1 (.t P7_1),some P7_25⟩,
 ⟨(.on P7_24 false),.load false 1 (.t P7_25),some P7_26⟩,
 ⟨(.on P7_24 false),.len .sl (.t P7_26),some P7_27⟩,
 ⟨(.on P7_24 false),.bin .gtr (.t P7_27) (.c (.int .i64 (.ofNat 64))),some P7_28⟩,
 ⟨.no,.pick (.t P7_24) (.c (.bool true)) (.t P7_28),some P7_29⟩,
 ⟨.no,.mv (.t P7_29),some P7_9⟩])
 (.cond (.t P7_9) (.seq (.reg [⟨.no,.mv (.c (.str [])),some P7_2⟩,
 ⟨.no,.mv (.c (.int .i64 (.ofNat 1))),some P7_3⟩])
 .ret)
 (.seq (.reg [⟨.no,.load true 5 (.t P7_1),some P7_31⟩,
 ⟨.no,.call (.c (.fn f_page_Room [] [])) [(.t P7_31)],some P7_32⟩,
 ⟨.no,.bin .lss (.t P7_32) (.c (.int .i64 (.ofNat 0))),some P7_33⟩,
 ⟨.no,.mv (.t P7_33),some P7_30⟩])
 (.cond (.t P7_30) (.seq (.reg [⟨.no,.mv (.c (.str [])),some P7_2⟩,
 ⟨.no,.mv (.c (.int .i64 (.ofNat 30))),some P7_3⟩])
 .ret)
 .skip)))))
 (.seq (.reg [⟨.no,.call (.c (.fn f_raw_NewWriter [] [])) [],some P7_34⟩,
 ⟨.no,.mv (.t P7_34),some P7_4⟩])
 (.seq (.reg [⟨.no,.mv (.t P7_4),some P7_35⟩,
 ⟨.no,.faddr 1 1 (.t P7_1),some P7_36⟩,
 ⟨.no,.load false 1 (.t P7_36),some P7_37⟩,
 ⟨.no,.call (.c (.fn f_raw_Writer_Number [] [])) [(.t P7_35),(.t P7_37),(.c (.int .i64 (.ofNat 8)))],some P7_38⟩])
 (.seq (.reg [⟨.no,.mv (.t P7_4),some P7_39⟩,
 ⟨.no,.faddr 0 1 (.t P7_1),some P7_40⟩,
 ⟨.no,.load false 1 (.t P7_40),some P7_41⟩,
 ⟨.no,.conv (.toInt .u64) (.t P7_41),some P7_42⟩,
 ⟨.no,.call (.c (.fn f_raw_Writer_Number [] [])) [(.t P7_39),(.t P7_42),(.c (.int .i64 (.ofNat 4)))],some P7_43⟩])
 (.seq (.reg [⟨.no,.mv (.t P7_4),some P7_44⟩,
 ⟨.no,.faddr 2 1 (.t P7_1),some P7_45⟩,
 ⟨.no,.load false 1 (.t P7_45),some P7_46⟩,
 ⟨.no,.conv (.toInt .u64) (.t P7_46),some P7_47⟩,
 ⟨.no,.call (.c (.fn f_raw_Writer_Number [] [])) [(.t P7_44),(.t P7_47),(.c (.int .i64 (.ofNat 1)))],some P7_48⟩])
 (.seq (.reg [⟨.no,.mv (.t P7_4),some P7_49⟩,
 ⟨.no,.faddr 3 1 (.t P7_1),some P7_50⟩,
 ⟨.no,.load false 1 (.t P7_50),some P7_51⟩,
 ⟨.no,.len .str (.t P7_51),some P7_52⟩,
 ⟨.no,.conv (.toInt .u64) (.t P7_52),some P7_53⟩,
 ⟨.no,.call (.c (.fn f_raw_Writer_Number [] [])) [(.t P7_49),(.t P7_53),(.c (.int .i64 (.ofNat 1)))],some P7_54⟩])
 (.seq (.reg [⟨.no,.mv (.t P7_4),some P7_55⟩,
 ⟨.no,.faddr 3 1 (.t P7_1),some P7_56⟩,
 ⟨.no,.load false 1 (.t P7_56),some P7_57⟩,
 ⟨.no,.call (.c (.fn f_raw_Writer_Bytes [] [])) [(.t P7_55),(.t P7_57)],some P7_58⟩])
 (.seq (.reg [⟨.no,.mv (.t P7_4),some P7_59⟩,
 ⟨.no,.faddr 4 1 (.t P7_1),some P7_60⟩,
 ⟨.no,.load false 1 (.t P7_60),some P7_61⟩,
 ⟨.no,.len .sl (.t P7_61),some P7_62⟩,
 ⟨.no,.conv (.toInt .u64) (.t P7_62),some P7_63⟩,
 ⟨.no,.call (.c (.fn f_raw_Writer_Number [] [])) [(.t P7_59),(.t P7_63),(.c (.int .i64 (.ofNat 1)))],some P7_64⟩])
 (.seq (.seq (.reg [⟨.no,.faddr 4 1 (.t P7_1),some P7_65⟩,
 ⟨.no,.load false 1 (.t P7_65),some P7_66⟩,
 ⟨.no,.len .sl (.t P7_66),some P7_67⟩,
 ⟨.no,.mv (.c (.int .i64 (.ofNat 0))),some P7_68⟩])
 (.block 1 (.loop (.seq (.reg [⟨.no,.bin .lss (.t P7_68) (.t P7_67),some P7_69⟩])
 (.seq (.cond (.t P7_69) .skip
 (.exit 1))
 (.seq (.block 2 (.seq (.reg [⟨.no,.ixSl 1 (.t P7_66) (.t P7_68),some P7_70⟩,
 ⟨.no,.load false 1 (.t P7_70),some P7_71⟩,
 ⟨.no,.mv (.t P7_71),some P7_6⟩])
 (.reg [⟨.no,.mv (.t P7_4),some P7_72⟩,
 ⟨.no,.mv (.t P7_6),some P7_73⟩,
 ⟨.no,.len .str (.t P7_73),some P7_74⟩,
 ⟨.no,.conv (.toInt .u64) (.t P7_74),some P7_75⟩,
 ⟨.no,.call (.c (.fn f_raw_Writer_Number [] [])) [(.t P7_72),(.t P7_75),(.c (.int .i64 (.ofNat 2)))],some P7_76⟩])))
 (.reg [⟨.no,.bin .add (.t P7_68) (.c (.int .i64 (.ofNat 1))),some P7_77⟩,
 ⟨.no,.mv (.t P7_77),some P7_68⟩])))))))
 (.seq (.seq (.reg [⟨.no,.faddr 4 1 (.t P7_1),some P7_78⟩,
 ⟨.no,.load false 1 (.t P7_78),some P7_79⟩,
 ⟨.no,.len .sl (.t P7_79),some P7_80⟩,
 ⟨.no,.mv (.c (.int .i64 (.ofNat 0))),some P7_81⟩])
 (.block 3 (.loop (.seq (.reg [⟨.no,.bin .lss (.t P7_81) (.t P7_80),some P7_82⟩])
 (.seq (.cond (.t P7_82) .skip
 (.exit 3))
 (.seq (.block 4 (.seq (.reg [⟨.no,.ixSl 1 (.t P7_79) (.t P7_81),some P7_83⟩,
 ⟨.no,.load false 1 (.t P7_83),some P7_84⟩,
 ⟨.no,.mv (.t P7_84),some P7_8⟩])
 (.reg [⟨.no,.mv (.t P7_4),some P7_85⟩,
 ⟨.no,.mv (.t P7_8),some P7_86⟩,
 ⟨.no,.call (.c (.fn f_raw_Writer_Bytes [] [])) [(.t P7_85),(.t P7_86)],some P7_87⟩])))
 (.reg [⟨.no,.bin .add (.t P7_81) (.c (.int .i64 (.ofNat 1))),some P7_88⟩,
 ⟨.no,.mv (.t P7_88),some P7_81⟩])))))))
 (.seq (.reg [⟨.no,.mv (.t P7_4),some P7_89⟩,
 ⟨.no,.mv (.t P7_4),some P7_90⟩,
 ⟨.no,.call (.c (.fn f_raw_Writer_Len [] [])) [(.t P7_90)],some P7_91⟩,
 ⟨.no,.bin .sub (.c (.int .i64 (.ofNat 500))) (.t P7_91),some P7_92⟩,
 ⟨.no,.call (.c (.fn f_strings_Repeat [] [])) [(.c (.str [0])),(.t P7_92)],some P7_93⟩,
 ⟨.no,.call (.c (.fn f_raw_Writer_Bytes [] [])) [(.t P7_89),(.t P7_93)],some P7_94⟩])
 (.seq (.reg [⟨.no,.mv (.t P7_4),some P7_95⟩,
 ⟨.no,.faddr 1 1 (.t P7_1),some P7_96⟩,
 ⟨.no,.load false 1 (.t P7_96),some P7_97⟩,
 ⟨.no,.call (.c (.fn f_raw_Writer_Number [] [])) [(.t P7_95),(.t P7_97),(.c (.int .i64 (.ofNat 8)))],some P7_98⟩])
 (.seq (.reg [⟨.no,.mv (.t P7_4),some P7_99⟩,
 ⟨.no,.call (.c (.fn f_raw_Writer_All [] [])) [(.t P7_99)],some P7_100⟩,
 ⟨.no,.call (.c (.fn f_raw_Sum [] [])) [(.t P7_100)],some P7_101⟩,
 ⟨.no,.conv (.toInt .u64) (.t P7_101),some P7_102⟩,
 ⟨.no,.call (.c (.fn f_raw_Put [] [])) [(.t P7_102),(.c (.int .i64 (.ofNat 4)))],some P7_103⟩,
 ⟨.no,.mv (.t P7_4),some P7_104⟩,
 ⟨.no,.call (.c (.fn f_raw_Writer_All [] [])) [(.t P7_104)],some P7_105⟩,
 ⟨.no,.bin .add (.t P7_103) (.t P7_105),some P7_106⟩,
 ⟨.no,.mv (.t P7_106),some P7_2⟩,
 ⟨.no,.mv (.c (.int .i64 (.ofNat 0))),some P7_3⟩])
 .ret)))))))))))))), [.t P7_2,.t P7_3], 0, false, false⟩
noncomputable def rf_slices_Clone_string : RFn := ⟨apOf 3 0 1, mkU 3, (.seq (.reg [⟨.no,.mv (.c (.sl 0 [] .nil)),some P3_2⟩])
 (.seq (.seq (.reg [⟨.no,.mv (.t P3_0),some P3_3⟩,
 ⟨.no,.eq .sl (.t P3_3) (.c (.sl 0 [] .nil)),some P3_4⟩])
 (.cond (.t P3_4) (.seq (.reg [⟨.no,.mv (.c (.sl 0 [] .nil)),some P3_2⟩])
 .ret)
 .skip))
 (.seq (.reg [⟨.no,.buildSl 0 [(.str [])] [],some P3_5⟩,
 ⟨.no,.mv (.t P3_0),some P3_6⟩,
 ⟨.no,.app 1 16 false (.t P3_5) (.t P3_6),some P3_7⟩,
 ⟨.no,.mv (.t P3_7),some P3_2⟩])
 .ret))), [.t P3_2], 1, true, false⟩
noncomputable def s_girderlaw15_IndexNames_0 : RC := (.seq (.reg [⟨.no,.box (.t P5_1),some P5_4⟩,
 ⟨.no,.mv (.c (.bool false)),some P5_6⟩])
 (.seq (.draw [] 27 [⟨⟨.no,.call (.c (.fn f_girderlaw15_awake [] [])) [],some P5_7⟩,.eff,0,1⟩,
 ⟨⟨.no,.mv (.t P5_7),some P5_8⟩,.val,1,1⟩,
 ⟨⟨(.on P5_8 true),.mv (.t P5_0),some P5_9⟩,.val,1,1⟩,
 ⟨⟨(.on P5_8 true),.load true 2 (.t P5_4),some P5_10⟩,.read,1,1⟩,
 ⟨⟨(.on P5_8 true),.call (.c (.fn f_index_Row [] [])) [(.t P5_9),(.t P5_10)],some P5_11⟩,.eff,1,2⟩,
 ⟨⟨(.on P5_8 true),.mv (.t P5_0),some P5_12⟩,.val,1,2⟩,
 ⟨⟨(.on P5_8 true),.load true 2 (.t P5_4),some P5_13⟩,.read,1,2⟩,
 ⟨⟨(.on P5_8 true),.build [(.int .i64 (.ofNat 0)),(.int .i64 (.ofNat 0)),(.int .u32 (.ofNat 0)),(.int .i64 (.ofNat 0))] [(0,1,(.c (.int .i64 (.ofNat 2)))),(1,1,(.t P5_12)),(2,2,(.t P5_13))],some P5_14⟩,.val,1,2⟩,
 ⟨⟨(.on P5_8 true),.eq (.agg [.int,.int,.int,.int]) (.t P5_11) (.t P5_14),some P5_15⟩,.val,2,2⟩,
 ⟨⟨.no,.pick (.t P5_8) (.t P5_15) (.c (.bool false)),some P5_16⟩,.val,2,2⟩,
 ⟨⟨.no,.mv (.t P5_16),some P5_17⟩,.val,2,2⟩,
 ⟨⟨(.on P5_17 true),.mv (.t P5_2),some P5_18⟩,.val,2,2⟩,
 ⟨⟨(.on P5_17 true),.call (.c (.fn f_index_End [] [])) [(.t P5_18)],some P5_19⟩,.eff,2,3⟩,
 ⟨⟨(.on P5_17 true),.mv (.t P5_2),some P5_20⟩,.val,2,3⟩,
 ⟨⟨(.on P5_17 true),.conv (.toInt .i64) (.t P5_20),some P5_21⟩,.read,2,3⟩,
 ⟨⟨(.on P5_17 true),.build [(.int .i64 (.ofNat 0)),(.int .i64 (.ofNat 0)),(.int .u32 (.ofNat 0)),(.int .i64 (.ofNat 0))] [(0,1,(.c (.int .i64 (.ofNat 3)))),(1,1,(.t P5_21))],some P5_22⟩,.val,2,3⟩,
 ⟨⟨(.on P5_17 true),.eq (.agg [.int,.int,.int,.int]) (.t P5_19) (.t P5_22),some P5_23⟩,.val,3,3⟩,
 ⟨⟨.no,.pick (.t P5_17) (.t P5_23) (.c (.bool false)),some P5_24⟩,.val,3,3⟩,
 ⟨⟨.no,.mv (.t P5_24),some P5_25⟩,.val,3,3⟩,
 ⟨⟨(.on P5_25 true),.mv (.t P5_0),some P5_26⟩,.val,3,3⟩,
 ⟨⟨(.on P5_25 true),.call (.c (.fn f_index_Table [] [])) [(.t P5_26)],some P5_27⟩,.eff,3,4⟩,
 ⟨⟨(.on P5_25 true),.mv (.t P5_0),some P5_28⟩,.val,3,4⟩,
 ⟨⟨(.on P5_25 true),.build [(.int .i64 (.ofNat 0)),(.int .i64 (.ofNat 0)),(.int .u32 (.ofNat 0)),(.int .i64 (.ofNat 0))] [(0,1,(.c (.int .i64 (.ofNat 1)))),(1,1,(.t P5_28))],some P5_29⟩,.val,3,4⟩,
 ⟨⟨(.on P5_25 true),.eq (.agg [.int,.int,.int,.int]) (.t P5_27) (.t P5_29),some P5_30⟩,.val,4,4⟩,
 ⟨⟨.no,.pick (.t P5_25) (.t P5_30) (.c (.bool false)),some P5_31⟩,.val,4,4⟩,
 ⟨⟨.no,.mv (.t P5_31),some P5_6⟩,.val,4,4⟩])
 .ret))
noncomputable def c_girderlaw15_IndexNames_0 : RC := s_girderlaw15_IndexNames_0 
noncomputable def S_girderlaw15_IndexNames_0 (call : Oracle) (e : Env) (n : Nat) (kR : V → Hp → Option (V × Hp)) (g0 g1 g2 : V) (h : Hp) : Option (V × Hp) :=
    se (pBox e.place g1 h) fun t4 h1 =>
    se (call f_girderlaw15_awake [] h1) fun t7 h2 =>
    sd (cond2 t7 true h2 (some (g0, h2))) fun t9 =>
    sd (cond2 t7 true h2 (vv (aLoad true 2 t4 h2) h2)) fun t10 =>
    se (cond2 t7 true h2 (call f_index_Row [t9, t10] h2)) fun t11 h3 =>
    sd (cond2 t7 true h3 (some (g0, h3))) fun t12 =>
    sd (cond2 t7 true h3 (vv (aLoad true 2 t4 h3) h3)) fun t13 =>
    sd (cond2 t7 true h3 (vv (pBuild [(.int .i64 (.ofNat 0)),(.int .i64 (.ofNat 0)),(.int .u32 (.ofNat 0)),(.int .i64 (.ofNat 0))] [(0, 1, (.int .i64 (.ofNat 2))), (1, 1, t12), (2, 2, t13)]) h3)) fun t14 =>
    sd (cond2 t7 true h3 (vv (pEq (.agg [.int,.int,.int,.int]) t11 t14) h3)) fun t15 =>
    sd (vv (pPick t7 t15 (.bool false)) h3) fun t16 =>
    sd (cond2 t16 true h3 (some (g2, h3))) fun t18 =>
    se (cond2 t16 true h3 (call f_index_End [t18] h3)) fun t19 h4 =>
    sd (cond2 t16 true h4 (some (g2, h4))) fun t20 =>
    sd (cond2 t16 true h4 (vv (pConv (.toInt .i64) t20 h4) h4)) fun t21 =>
    sd (cond2 t16 true h4 (vv (pBuild [(.int .i64 (.ofNat 0)),(.int .i64 (.ofNat 0)),(.int .u32 (.ofNat 0)),(.int .i64 (.ofNat 0))] [(0, 1, (.int .i64 (.ofNat 3))), (1, 1, t21)]) h4)) fun t22 =>
    sd (cond2 t16 true h4 (vv (pEq (.agg [.int,.int,.int,.int]) t19 t22) h4)) fun t23 =>
    sd (vv (pPick t16 t23 (.bool false)) h4) fun t24 =>
    sd (cond2 t24 true h4 (some (g0, h4))) fun t26 =>
    se (cond2 t24 true h4 (call f_index_Table [t26] h4)) fun t27 h5 =>
    sd (cond2 t24 true h5 (some (g0, h5))) fun t28 =>
    sd (cond2 t24 true h5 (vv (pBuild [(.int .i64 (.ofNat 0)),(.int .i64 (.ofNat 0)),(.int .u32 (.ofNat 0)),(.int .i64 (.ofNat 0))] [(0, 1, (.int .i64 (.ofNat 1))), (1, 1, t28)]) h5)) fun t29 =>
    sd (cond2 t24 true h5 (vv (pEq (.agg [.int,.int,.int,.int]) t27 t29) h5)) fun t30 =>
    sd (vv (pPick t24 t30 (.bool false)) h5) fun t31 =>
    ifT (same1 (cond2 t16 true h3 (vv (pConv (.toInt .i64) t20 h3) h3)) t21) (
    ifT (same1 (cond2 t7 true h2 (vv (aLoad true 2 t4 h2) h2)) t13) ( kR t31 h5))
theorem F_girderlaw15_IndexNames_0 (call : Oracle) (e : Env) (n : Nat) (K : KT (V × Hp)) (G : Nat → V) (h : Hp) : rCode call e n (s_girderlaw15_IndexNames_0 ) K (mkF 5 0 G) h =
    se (pBox e.place (G 1) h) fun t4 h1 =>
    se (call f_girderlaw15_awake [] h1) fun t7 h2 =>
    sd (cond2 t7 true h2 (some ((G 0), h2))) fun t9 =>
    sd (cond2 t7 true h2 (vv (aLoad true 2 t4 h2) h2)) fun t10 =>
    se (cond2 t7 true h2 (call f_index_Row [t9, t10] h2)) fun t11 h3 =>
    sd (cond2 t7 true h3 (some ((G 0), h3))) fun t12 =>
    sd (cond2 t7 true h3 (vv (aLoad true 2 t4 h3) h3)) fun t13 =>
    sd (cond2 t7 true h3 (vv (pBuild [(.int .i64 (.ofNat 0)),(.int .i64 (.ofNat 0)),(.int .u32 (.ofNat 0)),(.int .i64 (.ofNat 0))] [(0, 1, (.int .i64 (.ofNat 2))), (1, 1, t12), (2, 2, t13)]) h3)) fun t14 =>
    sd (cond2 t7 true h3 (vv (pEq (.agg [.int,.int,.int,.int]) t11 t14) h3)) fun t15 =>
    sd (vv (pPick t7 t15 (.bool false)) h3) fun t16 =>
    sd (cond2 t16 true h3 (some ((G 2), h3))) fun t18 =>
    se (cond2 t16 true h3 (call f_index_End [t18] h3)) fun t19 h4 =>
    sd (cond2 t16 true h4 (some ((G 2), h4))) fun t20 =>
    sd (cond2 t16 true h4 (vv (pConv (.toInt .i64) t20 h4) h4)) fun t21 =>
    sd (cond2 t16 true h4 (vv (pBuild [(.int .i64 (.ofNat 0)),(.int .i64 (.ofNat 0)),(.int .u32 (.ofNat 0)),(.int .i64 (.ofNat 0))] [(0, 1, (.int .i64 (.ofNat 3))), (1, 1, t21)]) h4)) fun t22 =>
    sd (cond2 t16 true h4 (vv (pEq (.agg [.int,.int,.int,.int]) t19 t22) h4)) fun t23 =>
    sd (vv (pPick t16 t23 (.bool false)) h4) fun t24 =>
    sd (cond2 t24 true h4 (some ((G 0), h4))) fun t26 =>
    se (cond2 t24 true h4 (call f_index_Table [t26] h4)) fun t27 h5 =>
    sd (cond2 t24 true h5 (some ((G 0), h5))) fun t28 =>
    sd (cond2 t24 true h5 (vv (pBuild [(.int .i64 (.ofNat 0)),(.int .i64 (.ofNat 0)),(.int .u32 (.ofNat 0)),(.int .i64 (.ofNat 0))] [(0, 1, (.int .i64 (.ofNat 1))), (1, 1, t28)]) h5)) fun t29 =>
    sd (cond2 t24 true h5 (vv (pEq (.agg [.int,.int,.int,.int]) t27 t29) h5)) fun t30 =>
    sd (vv (pPick t24 t30 (.bool false)) h5) fun t31 =>
    ifT (same1 (cond2 t16 true h3 (vv (pConv (.toInt .i64) t20 h3) h3)) t21) (
    ifT (same1 (cond2 t7 true h2 (vv (aLoad true 2 t4 h2) h2)) t13) ( K .ret (mkF 5 0 (up [(4, t4), (6, t31), (7, t7), (8, t7), (9, t9), (10, t10), (11, t11), (12, t12), (13, t13), (14, t14), (15, t15), (16, t16), (17, t16), (18, t18), (19, t19), (20, t20), (21, t21), (22, t22), (23, t23), (24, t24), (25, t24), (26, t26), (27, t27), (28, t28), (29, t29), (30, t30), (31, t31)] G)) h5)) := by kernel_rfl
theorem J_girderlaw15_IndexNames_0 (call : Oracle) (e : Env) (n : Nat) (K : KT (V × Hp)) (kR : V → Hp → Option (V × Hp)) (hR : ∀ G H, K .ret (mkF 5 0 G) H = kR (G 6) H) (G : Nat → V) (H : Hp) : rCode call e n c_girderlaw15_IndexNames_0 K (mkF 5 0 G) H = S_girderlaw15_IndexNames_0 call e n kR (G 0) (G 1) (G 2) H := by
  refine (F_girderlaw15_IndexNames_0 call e n  K G H).trans ?_
  simp only [hR]
  kernel_rfl
noncomputable def rf_girderlaw15_IndexNames : RFn := ⟨apOf 5 0 3, mkU 5, c_girderlaw15_IndexNames_0, [.t P5_6], 0, false, false⟩
noncomputable def S_girderlaw15_IndexNames (call : Oracle) (n : Nat) (a0 a1 a2 : V) (H : Hp) : Option (V × Hp) := S_girderlaw15_IndexNames_0 call ⟨false, placeOf 0 (H.depth + 1), H.depth + 1⟩ n (fun g6 h => leave false H.depth [g6] h) a0 a1 a2 (aPush H)
theorem E_girderlaw15_IndexNames (call : Oracle) (n : Nat) (a0 a1 a2 : V) (H : Hp) : rBody rf_girderlaw15_IndexNames call n [a0, a1, a2] H = S_girderlaw15_IndexNames call n a0 a1 a2 H :=
  (show rBody rf_girderlaw15_IndexNames call n [a0, a1, a2] H = rCode call ⟨false, placeOf 0 (H.depth + 1), H.depth + 1⟩ n c_girderlaw15_IndexNames_0 (rLeave false [.t P5_6] H.depth) (mkF 5 0 (up [(0, a0), (1, a1), (2, a2)] (fun _ => .undef))) (aPush H) by kernel_rfl).trans (J_girderlaw15_IndexNames_0 call _ n _ (fun g6 h => leave false H.depth [g6] h) (by intro G H; kernel_rfl) _ (aPush H))
noncomputable def s_girderlaw17_CatalogNames_0 : RC := (.seq (.reg [⟨.no,.mv (.c (.bool false)),some P4_2⟩])
 (.seq (.reg [⟨.no,.call (.c (.fn f_girderlaw17_awake [] [])) [],some P4_3⟩,
 ⟨.no,.mv (.t P4_3),some P4_4⟩,
 ⟨(.on P4_4 true),.mv (.t P4_0),some P4_5⟩,
 ⟨(.on P4_4 true),.call (.c (.fn f_catalog_Name [] [])) [(.t P4_5)],some P4_6⟩,
 ⟨(.on P4_4 true),.mv (.t P4_0),some P4_7⟩,
 ⟨(.on P4_4 true),.call (.c (.fn f_girderlaw17_name [] [])) [(.t P4_7)],some P4_8⟩,
 ⟨(.on P4_4 true),.eq .bool (.t P4_6) (.t P4_8),some P4_9⟩,
 ⟨.no,.pick (.t P4_4) (.t P4_9) (.c (.bool false)),some P4_10⟩,
 ⟨.no,.mv (.t P4_10),some P4_2⟩])
 .ret))
noncomputable def c_girderlaw17_CatalogNames_0 : RC := s_girderlaw17_CatalogNames_0 
noncomputable def S_girderlaw17_CatalogNames_0 (call : Oracle) (e : Env) (n : Nat) (kR : V → Hp → Option (V × Hp)) (g0 : V) (h : Hp) : Option (V × Hp) :=
    se (call f_girderlaw17_awake [] h) fun t3 h1 =>
    se (cond2 t3 true h1 (some (g0, h1))) fun t5 h2 =>
    se (cond2 t3 true h2 (call f_catalog_Name [t5] h2)) fun t6 h3 =>
    se (cond2 t3 true h3 (some (g0, h3))) fun t7 h4 =>
    se (cond2 t3 true h4 (call f_girderlaw17_name [t7] h4)) fun t8 h5 =>
    se (cond2 t3 true h5 (vv (pEq .bool t6 t8) h5)) fun t9 h6 =>
    sv (pPick t3 t9 (.bool false)) h6 fun t10 h7 => kR t10 h7
theorem F_girderlaw17_CatalogNames_0 (call : Oracle) (e : Env) (n : Nat) (K : KT (V × Hp)) (G : Nat → V) (h : Hp) : rCode call e n (s_girderlaw17_CatalogNames_0 ) K (mkF 4 0 G) h =
    se (call f_girderlaw17_awake [] h) fun t3 h1 =>
    se (cond2 t3 true h1 (some ((G 0), h1))) fun t5 h2 =>
    se (cond2 t3 true h2 (call f_catalog_Name [t5] h2)) fun t6 h3 =>
    se (cond2 t3 true h3 (some ((G 0), h3))) fun t7 h4 =>
    se (cond2 t3 true h4 (call f_girderlaw17_name [t7] h4)) fun t8 h5 =>
    se (cond2 t3 true h5 (vv (pEq .bool t6 t8) h5)) fun t9 h6 =>
    sv (pPick t3 t9 (.bool false)) h6 fun t10 h7 => K .ret (mkF 4 0 (up [(2, t10), (3, t3), (4, t3), (5, t5), (6, t6), (7, t7), (8, t8), (9, t9), (10, t10)] G)) h7 := by kernel_rfl
theorem J_girderlaw17_CatalogNames_0 (call : Oracle) (e : Env) (n : Nat) (K : KT (V × Hp)) (kR : V → Hp → Option (V × Hp)) (hR : ∀ G H, K .ret (mkF 4 0 G) H = kR (G 2) H) (G : Nat → V) (H : Hp) : rCode call e n c_girderlaw17_CatalogNames_0 K (mkF 4 0 G) H = S_girderlaw17_CatalogNames_0 call e n kR (G 0) H := by
  refine (F_girderlaw17_CatalogNames_0 call e n  K G H).trans ?_
  simp only [hR]
  kernel_rfl
noncomputable def rf_girderlaw17_CatalogNames : RFn := ⟨apOf 4 0 1, mkU 4, c_girderlaw17_CatalogNames_0, [.t P4_2], 0, false, false⟩
noncomputable def S_girderlaw17_CatalogNames (call : Oracle) (n : Nat) (a0 : V) (H : Hp) : Option (V × Hp) := S_girderlaw17_CatalogNames_0 call ⟨false, placeOf 0 (H.depth + 1), H.depth + 1⟩ n (fun g2 h => leave false H.depth [g2] h) a0 (aPush H)
theorem E_girderlaw17_CatalogNames (call : Oracle) (n : Nat) (a0 : V) (H : Hp) : rBody rf_girderlaw17_CatalogNames call n [a0] H = S_girderlaw17_CatalogNames call n a0 H :=
  (show rBody rf_girderlaw17_CatalogNames call n [a0] H = rCode call ⟨false, placeOf 0 (H.depth + 1), H.depth + 1⟩ n c_girderlaw17_CatalogNames_0 (rLeave false [.t P4_2] H.depth) (mkF 4 0 (up [(0, a0)] (fun _ => .undef))) (aPush H) by kernel_rfl).trans (J_girderlaw17_CatalogNames_0 call _ n _ (fun g2 h => leave false H.depth [g2] h) (by intro G H; kernel_rfl) _ (aPush H))
noncomputable def s_index_End_0 : RC := (.seq (.reg [⟨.no,.alloc [(.int .i64 (.ofNat 0)),(.int .i64 (.ofNat 0)),(.int .u32 (.ofNat 0)),(.int .i64 (.ofNat 0))],some P3_2⟩])
 (.seq (.reg [⟨.no,.mv (.t P3_0),some P3_3⟩,
 ⟨.no,.conv (.toInt .i64) (.t P3_3),some P3_4⟩,
 ⟨.no,.build [(.int .i64 (.ofNat 0)),(.int .i64 (.ofNat 0)),(.int .u32 (.ofNat 0)),(.int .i64 (.ofNat 0))] [(0,1,(.c (.int .i64 (.ofNat 3)))),(1,1,(.t P3_4))],some P3_5⟩,
 ⟨.no,.store 4 (.t P3_2) (.t P3_5),none⟩])
 .ret))
noncomputable def c_index_End_0 : RC := s_index_End_0 
noncomputable def S_index_End_0 (call : Oracle) (e : Env) (n : Nat) (kR : V → Hp → Option (V × Hp)) (g0 : V) (h : Hp) : Option (V × Hp) :=
    se (pAlloc e.place [(.int .i64 (.ofNat 0)),(.int .i64 (.ofNat 0)),(.int .u32 (.ofNat 0)),(.int .i64 (.ofNat 0))] h) fun t2 h1 =>
    sv (pConv (.toInt .i64) g0 h1) h1 fun t4 h2 =>
    sv (pBuild [(.int .i64 (.ofNat 0)),(.int .i64 (.ofNat 0)),(.int .u32 (.ofNat 0)),(.int .i64 (.ofNat 0))] [(0, 1, (.int .i64 (.ofNat 3))), (1, 1, t4)]) h2 fun t5 h3 =>
    se (pStore 4 t2 t5 h3) fun _ h4 => kR t2 h4
theorem F_index_End_0 (call : Oracle) (e : Env) (n : Nat) (K : KT (V × Hp)) (G : Nat → V) (h : Hp) : rCode call e n (s_index_End_0 ) K (mkF 3 0 G) h =
    se (pAlloc e.place [(.int .i64 (.ofNat 0)),(.int .i64 (.ofNat 0)),(.int .u32 (.ofNat 0)),(.int .i64 (.ofNat 0))] h) fun t2 h1 =>
    sv (pConv (.toInt .i64) (G 0) h1) h1 fun t4 h2 =>
    sv (pBuild [(.int .i64 (.ofNat 0)),(.int .i64 (.ofNat 0)),(.int .u32 (.ofNat 0)),(.int .i64 (.ofNat 0))] [(0, 1, (.int .i64 (.ofNat 3))), (1, 1, t4)]) h2 fun t5 h3 =>
    se (pStore 4 t2 t5 h3) fun _ h4 => K .ret (mkF 3 0 (up [(2, t2), (3, (G 0)), (4, t4), (5, t5)] G)) h4 := by kernel_rfl
theorem J_index_End_0 (call : Oracle) (e : Env) (n : Nat) (K : KT (V × Hp)) (kR : V → Hp → Option (V × Hp)) (hR : ∀ G H, K .ret (mkF 3 0 G) H = kR (G 2) H) (G : Nat → V) (H : Hp) : rCode call e n c_index_End_0 K (mkF 3 0 G) H = S_index_End_0 call e n kR (G 0) H := by
  refine (F_index_End_0 call e n  K G H).trans ?_
  simp only [hR]
  kernel_rfl
noncomputable def rf_index_End : RFn := ⟨apOf 3 0 1, mkU 3, c_index_End_0, [.cell true 4 P3_2], 0, false, false⟩
noncomputable def S_index_End (call : Oracle) (n : Nat) (a0 : V) (H : Hp) : Option (V × Hp) := S_index_End_0 call ⟨false, placeOf 0 (H.depth + 1), H.depth + 1⟩ n (fun g2 h => ob (aLoad true 4 g2 h) fun r0 => leave false H.depth [r0] h) a0 (aPush H)
theorem E_index_End (call : Oracle) (n : Nat) (a0 : V) (H : Hp) : rBody rf_index_End call n [a0] H = S_index_End call n a0 H :=
  (show rBody rf_index_End call n [a0] H = rCode call ⟨false, placeOf 0 (H.depth + 1), H.depth + 1⟩ n c_index_End_0 (rLeave false [.cell true 4 P3_2] H.depth) (mkF 3 0 (up [(0, a0)] (fun _ => .undef))) (aPush H) by kernel_rfl).trans (J_index_End_0 call _ n _ (fun g2 h => ob (aLoad true 4 g2 h) fun r0 => leave false H.depth [r0] h) (by intro G H; kernel_rfl) _ (aPush H))
noncomputable def s_girderlaw17_name_3 : RC := (.seq (.reg [⟨.no,.mv (.t P6_0),some P6_32⟩,
 ⟨.no,.len .str (.t P6_32),some P6_33⟩,
 ⟨.no,.bin .geq (.t P6_33) (.c (.int .i64 (.ofNat 1))),some P6_34⟩,
 ⟨.no,.mv (.t P6_34),some P6_35⟩,
 ⟨(.on P6_35 true),.mv (.t P6_0),some P6_36⟩,
 ⟨(.on P6_35 true),.len .str (.t P6_36),some P6_37⟩,
 ⟨(.on P6_35 true),.bin .leq (.t P6_37) (.c (.int .i64 (.ofNat 16))),some P6_38⟩,
 ⟨.no,.pick (.t P6_35) (.t P6_38) (.c (.bool false)),some P6_39⟩,
 ⟨.no,.mv (.t P6_39),some P6_2⟩])
 .ret)
noncomputable def c_girderlaw17_name_3 : RC := s_girderlaw17_name_3 
noncomputable def S_girderlaw17_name_3 (call : Oracle) (e : Env) (n : Nat) (kR : V → Hp → Option (V × Hp)) (g0 : V) (h : Hp) : Option (V × Hp) :=
    sv (pLen .str g0 h) h fun t33 h1 =>
    sv (aBin .geq t33 (.int .i64 (.ofNat 1))) h1 fun t34 h2 =>
    se (cond2 t34 true h2 (some (g0, h2))) fun t36 h3 =>
    se (cond2 t34 true h3 (vv (pLen .str t36 h3) h3)) fun t37 h4 =>
    se (cond2 t34 true h4 (vv (aBin .leq t37 (.int .i64 (.ofNat 16))) h4)) fun t38 h5 =>
    sv (pPick t34 t38 (.bool false)) h5 fun t39 h6 => kR t39 h6
theorem F_girderlaw17_name_3 (call : Oracle) (e : Env) (n : Nat) (K : KT (V × Hp)) (G : Nat → V) (h : Hp) : rCode call e n (s_girderlaw17_name_3 ) K (mkF 6 0 G) h =
    sv (pLen .str (G 0) h) h fun t33 h1 =>
    sv (aBin .geq t33 (.int .i64 (.ofNat 1))) h1 fun t34 h2 =>
    se (cond2 t34 true h2 (some ((G 0), h2))) fun t36 h3 =>
    se (cond2 t34 true h3 (vv (pLen .str t36 h3) h3)) fun t37 h4 =>
    se (cond2 t34 true h4 (vv (aBin .leq t37 (.int .i64 (.ofNat 16))) h4)) fun t38 h5 =>
    sv (pPick t34 t38 (.bool false)) h5 fun t39 h6 => K .ret (mkF 6 0 (up [(2, t39), (32, (G 0)), (33, t33), (34, t34), (35, t34), (36, t36), (37, t37), (38, t38), (39, t39)] G)) h6 := by kernel_rfl
theorem J_girderlaw17_name_3 (call : Oracle) (e : Env) (n : Nat) (K : KT (V × Hp)) (kR : V → Hp → Option (V × Hp)) (hR : ∀ G H, K .ret (mkF 6 0 G) H = kR (G 2) H) (G : Nat → V) (H : Hp) : rCode call e n c_girderlaw17_name_3 K (mkF 6 0 G) H = S_girderlaw17_name_3 call e n kR (G 0) H := by
  refine (F_girderlaw17_name_3 call e n  K G H).trans ?_
  simp only [hR]
  kernel_rfl
noncomputable def s_girderlaw17_name_2 : RC := (.seq (.seq (.reg [⟨.no,.mv (.t P6_3),some P6_4⟩,
 ⟨.no,.mv (.t P6_0),some P6_5⟩,
 ⟨.no,.len .str (.t P6_5),some P6_6⟩,
 ⟨.no,.bin .lss (.t P6_4) (.t P6_6),some P6_7⟩])
 (.cond (.t P6_7) .skip
 (.exit 0)))
 (.seq (.block 1 (.seq (.reg [⟨.no,.mv (.t P6_0),some P6_10⟩,
 ⟨.no,.mv (.t P6_3),some P6_11⟩,
 ⟨.no,.ixStr (.t P6_10) (.t P6_11),some P6_12⟩,
 ⟨.no,.bin .lss (.t P6_12) (.c (.int .u8 (.ofNat 97))),some P6_13⟩,
 ⟨.no,.mv (.t P6_13),some P6_14⟩,
 ⟨(.on P6_14 false),.mv (.t P6_0),some P6_15⟩,
 ⟨(.on P6_14 false),.mv (.t P6_3),some P6_16⟩,
 ⟨(.on P6_14 false),.ixStr (.t P6_15) (.t P6_16),some P6_17⟩,
 ⟨(.on P6_14 false),.bin .gtr (.t P6_17) (.c (.int .u8 (.ofNat 122))),some P6_18⟩,
 ⟨.no,.pick (.t P6_14) (.c (.bool true)) (.t P6_18),some P6_19⟩,
 ⟨.no,.mv (.t P6_19),some P6_20⟩,
 ⟨(.on P6_20 true),.mv (.t P6_0),some P6_21⟩,
 ⟨(.on P6_20 true),.mv (.t P6_3),some P6_22⟩,
 ⟨(.on P6_20 true),.ixStr (.t P6_21) (.t P6_22),some P6_23⟩,
 ⟨(.on P6_20 true),.bin .lss (.t P6_23) (.c (.int .u8 (.ofNat 48))),some P6_24⟩,
 ⟨(.on P6_20 true),.mv (.t P6_24),some P6_25⟩,
 ⟨(.on P6_25 false),.mv (.t P6_0),some P6_26⟩,
 ⟨(.on P6_25 false),.mv (.t P6_3),some P6_27⟩,
 ⟨(.on P6_25 false),.ixStr (.t P6_26) (.t P6_27),some P6_28⟩,
 ⟨(.on P6_25 false),.bin .gtr (.t P6_28) (.c (.int .u8 (.ofNat 57))),some P6_29⟩,
 ⟨(.on P6_20 true),.pick (.t P6_25) (.c (.bool true)) (.t P6_29),some P6_30⟩,
 ⟨.no,.pick (.t P6_20) (.t P6_30) (.c (.bool false)),some P6_31⟩])
 (.cond (.t P6_31) (.seq (.reg [⟨.no,.mv (.c (.bool false)),some P6_2⟩])
 .ret)
 .skip)))
 (.reg [⟨.no,.mv (.t P6_3),some P6_8⟩,
 ⟨.no,.bin .add (.t P6_8) (.c (.int .i64 (.ofNat 1))),some P6_9⟩,
 ⟨.no,.mv (.t P6_9),some P6_3⟩])))
noncomputable def c_girderlaw17_name_2 : RC := s_girderlaw17_name_2 
noncomputable def S_girderlaw17_name_2 (call : Oracle) (e : Env) (n : Nat) (kN : V → V → Hp → Option (V × Hp)) (kR : V → Hp → Option (V × Hp)) (kX0 : V → Hp → Option (V × Hp)) (g0 g3 : V) (h : Hp) : Option (V × Hp) :=
    sv (pLen .str g0 h) h fun t6 h1 =>
    sv (aBin .lss g3 t6) h1 fun t7 h2 =>
    ifB t7 (
      sv (aIndexStr g0 g3) h2 fun t12 h3 =>
      sv (aBin .lss t12 (.int .u8 (.ofNat 97))) h3 fun t13 h4 =>
      se (cond2 t13 false h4 (some (g0, h4))) fun t15 h5 =>
      se (cond2 t13 false h5 (some (g3, h5))) fun t16 h6 =>
      se (cond2 t13 false h6 (vv (aIndexStr t15 t16) h6)) fun t17 h7 =>
      se (cond2 t13 false h7 (vv (aBin .gtr t17 (.int .u8 (.ofNat 122))) h7)) fun t18 h8 =>
      sv (pPick t13 (.bool true) t18) h8 fun t19 h9 =>
      se (cond2 t19 true h9 (some (g0, h9))) fun t21 h10 =>
      se (cond2 t19 true h10 (some (g3, h10))) fun t22 h11 =>
      se (cond2 t19 true h11 (vv (aIndexStr t21 t22) h11)) fun t23 h12 =>
      se (cond2 t19 true h12 (vv (aBin .lss t23 (.int .u8 (.ofNat 48))) h12)) fun t24 h13 =>
      se (cond2 t19 true h13 (some (t24, h13))) fun t25 h14 =>
      se (cond2 t25 false h14 (some (g0, h14))) fun t26 h15 =>
      se (cond2 t25 false h15 (some (g3, h15))) fun t27 h16 =>
      se (cond2 t25 false h16 (vv (aIndexStr t26 t27) h16)) fun t28 h17 =>
      se (cond2 t25 false h17 (vv (aBin .gtr t28 (.int .u8 (.ofNat 57))) h17)) fun t29 h18 =>
      se (cond2 t19 true h18 (vv (pPick t25 (.bool true) t29) h18)) fun t30 h19 =>
      sv (pPick t19 t30 (.bool false)) h19 fun t31 h20 =>
      ifB t31 ( kR (.bool false) h20)
       (
        sv (aBin .add g3 (.int .i64 (.ofNat 1))) h20 fun t9 h21 => kN g0 t9 h21))
     ( kX0 g0 h2)
theorem F_girderlaw17_name_2 (call : Oracle) (e : Env) (n : Nat) (K : KT (V × Hp)) (G : Nat → V) (h : Hp) : rCode call e n (s_girderlaw17_name_2 ) K (mkF 6 0 G) h =
    sv (pLen .str (G 0) h) h fun t6 h1 =>
    sv (aBin .lss (G 3) t6) h1 fun t7 h2 =>
    ifB t7 (
      sv (aIndexStr (G 0) (G 3)) h2 fun t12 h3 =>
      sv (aBin .lss t12 (.int .u8 (.ofNat 97))) h3 fun t13 h4 =>
      se (cond2 t13 false h4 (some ((G 0), h4))) fun t15 h5 =>
      se (cond2 t13 false h5 (some ((G 3), h5))) fun t16 h6 =>
      se (cond2 t13 false h6 (vv (aIndexStr t15 t16) h6)) fun t17 h7 =>
      se (cond2 t13 false h7 (vv (aBin .gtr t17 (.int .u8 (.ofNat 122))) h7)) fun t18 h8 =>
      sv (pPick t13 (.bool true) t18) h8 fun t19 h9 =>
      se (cond2 t19 true h9 (some ((G 0), h9))) fun t21 h10 =>
      se (cond2 t19 true h10 (some ((G 3), h10))) fun t22 h11 =>
      se (cond2 t19 true h11 (vv (aIndexStr t21 t22) h11)) fun t23 h12 =>
      se (cond2 t19 true h12 (vv (aBin .lss t23 (.int .u8 (.ofNat 48))) h12)) fun t24 h13 =>
      se (cond2 t19 true h13 (some (t24, h13))) fun t25 h14 =>
      se (cond2 t25 false h14 (some ((G 0), h14))) fun t26 h15 =>
      se (cond2 t25 false h15 (some ((G 3), h15))) fun t27 h16 =>
      se (cond2 t25 false h16 (vv (aIndexStr t26 t27) h16)) fun t28 h17 =>
      se (cond2 t25 false h17 (vv (aBin .gtr t28 (.int .u8 (.ofNat 57))) h17)) fun t29 h18 =>
      se (cond2 t19 true h18 (vv (pPick t25 (.bool true) t29) h18)) fun t30 h19 =>
      sv (pPick t19 t30 (.bool false)) h19 fun t31 h20 =>
      ifB t31 ( K .ret (mkF 6 0 (up [(2, (.bool false)), (4, (G 3)), (5, (G 0)), (6, t6), (7, t7), (10, (G 0)), (11, (G 3)), (12, t12), (13, t13), (14, t13), (15, t15), (16, t16), (17, t17), (18, t18), (19, t19), (20, t19), (21, t21), (22, t22), (23, t23), (24, t24), (25, t25), (26, t26), (27, t27), (28, t28), (29, t29), (30, t30), (31, t31)] G)) h20)
       (
        sv (aBin .add (G 3) (.int .i64 (.ofNat 1))) h20 fun t9 h21 => K .normal (mkF 6 0 (up [(3, t9), (4, (G 3)), (5, (G 0)), (6, t6), (7, t7), (8, (G 3)), (9, t9), (10, (G 0)), (11, (G 3)), (12, t12), (13, t13), (14, t13), (15, t15), (16, t16), (17, t17), (18, t18), (19, t19), (20, t19), (21, t21), (22, t22), (23, t23), (24, t24), (25, t25), (26, t26), (27, t27), (28, t28), (29, t29), (30, t30), (31, t31)] G)) h21))
     ( K (.exit 0) (mkF 6 0 (up [(4, (G 3)), (5, (G 0)), (6, t6), (7, t7)] G)) h2) := by kernel_rfl
theorem J_girderlaw17_name_2 (call : Oracle) (e : Env) (n : Nat) (K : KT (V × Hp)) (kN : V → V → Hp → Option (V × Hp)) (hN : ∀ G H, K .normal (mkF 6 0 G) H = kN (G 0) (G 3) H) (kR : V → Hp → Option (V × Hp)) (hR : ∀ G H, K .ret (mkF 6 0 G) H = kR (G 2) H) (kX0 : V → Hp → Option (V × Hp)) (hX0 : ∀ G H, K (.exit 0) (mkF 6 0 G) H = kX0 (G 0) H) (G : Nat → V) (H : Hp) : rCode call e n c_girderlaw17_name_2 K (mkF 6 0 G) H = S_girderlaw17_name_2 call e n kN kR kX0 (G 0) (G 3) H := by
  refine (F_girderlaw17_name_2 call e n  K G H).trans ?_
  simp only [hN, hR, hX0]
  kernel_rfl
noncomputable def s_girderlaw17_name_1 (b0 : RC) : RC := (.loop b0)
noncomputable def c_girderlaw17_name_1 : RC := s_girderlaw17_name_1 c_girderlaw17_name_2
noncomputable def S_girderlaw17_name_1L (call : Oracle) (e : Env) (n : Nat) (kR : V → Hp → Option (V × Hp)) (kX0 : V → Hp → Option (V × Hp)) : Nat → V → V → Hp → Option (V × Hp)
  | 0, _, _, _ => none
  | m + 1, g0, g3, h => S_girderlaw17_name_2 call e n (fun g0 g3 h => S_girderlaw17_name_1L call e n kR kX0 m g0 g3 h) kR kX0 g0 g3 h
noncomputable def S_girderlaw17_name_1 (call : Oracle) (e : Env) (n : Nat) (kR : V → Hp → Option (V × Hp)) (kX0 : V → Hp → Option (V × Hp)) (g0 g3 : V) (h : Hp) : Option (V × Hp) := S_girderlaw17_name_1L call e n kR kX0 n g0 g3 h
theorem J_girderlaw17_name_1L (call : Oracle) (e : Env) (n : Nat) (K : KT (V × Hp)) (kR : V → Hp → Option (V × Hp)) (hR : ∀ G H, K .ret (mkF 6 0 G) H = kR (G 2) H) (kX0 : V → Hp → Option (V × Hp)) (hX0 : ∀ G H, K (.exit 0) (mkF 6 0 G) H = kX0 (G 0) H) : ∀ (m : Nat) (G : Nat → V) (H : Hp), rLoop (fun k => rCode call e n c_girderlaw17_name_2 (thenT K k)) m (mkF 6 0 G) H = S_girderlaw17_name_1L call e n kR kX0 m (G 0) (G 3) H
  | 0, _, _ => rfl
  | m + 1, G, H => J_girderlaw17_name_2 call e n (thenT K (rLoop (fun k => rCode call e n c_girderlaw17_name_2 (thenT K k)) m)) (S_girderlaw17_name_1L call e n kR kX0 m) (J_girderlaw17_name_1L call e n K kR hR kX0 hX0 m) kR hR kX0 hX0 G H
theorem J_girderlaw17_name_1 (call : Oracle) (e : Env) (n : Nat) (K : KT (V × Hp)) (kR : V → Hp → Option (V × Hp)) (hR : ∀ G H, K .ret (mkF 6 0 G) H = kR (G 2) H) (kX0 : V → Hp → Option (V × Hp)) (hX0 : ∀ G H, K (.exit 0) (mkF 6 0 G) H = kX0 (G 0) H) (G : Nat → V) (H : Hp) : rCode call e n c_girderlaw17_name_1 K (mkF 6 0 G) H = S_girderlaw17_name_1 call e n kR kX0 (G 0) (G 3) H := J_girderlaw17_name_1L call e n K kR hR kX0 hX0 n G H
noncomputable def s_girderlaw17_name_0 (b0 b1 : RC) : RC := (.seq (.reg [⟨.no,.mv (.c (.bool false)),some P6_2⟩])
 (.seq (.seq (.reg [⟨.no,.mv (.c (.int .i64 (.ofNat 0))),some P6_3⟩])
 (.block 0 b0))
 b1))
noncomputable def c_girderlaw17_name_0 : RC := s_girderlaw17_name_0 c_girderlaw17_name_1 c_girderlaw17_name_3
noncomputable def S_girderlaw17_name_0 (call : Oracle) (e : Env) (n : Nat) (kR : V → Hp → Option (V × Hp)) (g0 : V) (h : Hp) : Option (V × Hp) := S_girderlaw17_name_1 call e n kR (S_girderlaw17_name_3 call e n kR) g0 (.int .i64 (.ofNat 0)) h
theorem F_girderlaw17_name_0 (call : Oracle) (e : Env) (n : Nat) (b0 b1 : RC) (K : KT (V × Hp)) (G : Nat → V) (h : Hp) : rCode call e n (s_girderlaw17_name_0 b0 b1) K (mkF 6 0 G) h = rCode call e n b0 (inT 0 (thenT K (rCode call e n b1 K))) (mkF 6 0 (up [(2, (.bool false)), (3, (.int .i64 (.ofNat 0)))] G)) h := by kernel_rfl
theorem J_girderlaw17_name_0 (call : Oracle) (e : Env) (n : Nat) (K : KT (V × Hp)) (kR : V → Hp → Option (V × Hp)) (hR : ∀ G H, K .ret (mkF 6 0 G) H = kR (G 2) H) (G : Nat → V) (H : Hp) : rCode call e n c_girderlaw17_name_0 K (mkF 6 0 G) H = S_girderlaw17_name_0 call e n kR (G 0) H := by
  refine (F_girderlaw17_name_0 call e n c_girderlaw17_name_1 c_girderlaw17_name_3 K G H).trans ?_
  simp only [J_girderlaw17_name_1 call e n (inT 0 (thenT K (rCode call e n c_girderlaw17_name_3 K))) kR hR (S_girderlaw17_name_3 call e n kR) (J_girderlaw17_name_3 call e n K kR hR), hR]
  kernel_rfl
noncomputable def rf_girderlaw17_name : RFn := ⟨apOf 6 0 1, mkU 6, c_girderlaw17_name_0, [.t P6_2], 0, false, false⟩
noncomputable def S_girderlaw17_name (call : Oracle) (n : Nat) (a0 : V) (H : Hp) : Option (V × Hp) := S_girderlaw17_name_0 call ⟨false, placeOf 0 (H.depth + 1), H.depth + 1⟩ n (fun g2 h => leave false H.depth [g2] h) a0 (aPush H)
theorem E_girderlaw17_name (call : Oracle) (n : Nat) (a0 : V) (H : Hp) : rBody rf_girderlaw17_name call n [a0] H = S_girderlaw17_name call n a0 H :=
  (show rBody rf_girderlaw17_name call n [a0] H = rCode call ⟨false, placeOf 0 (H.depth + 1), H.depth + 1⟩ n c_girderlaw17_name_0 (rLeave false [.t P6_2] H.depth) (mkF 6 0 (up [(0, a0)] (fun _ => .undef))) (aPush H) by kernel_rfl).trans (J_girderlaw17_name_0 call _ n _ (fun g2 h => leave false H.depth [g2] h) (by intro G H; kernel_rfl) _ (aPush H))
end Go.Abs
