/- raw.More is a sum of Lean's own. -/
import Derived.Test.YtokjbfjkmboehaaGreatAbsHH
import Derived.Test.YtokjbfjkmboehaaGreatAbsTab
set_option linter.unusedVariables false
set_option linter.unusedSimpArgs false
namespace Go.Abs

def crcStep (x : Nat) : Nat :=
  match Nat.beq (Nat.land x 1) 1 with
  | true => Nat.xor (Nat.shiftRight x 1) 2197175160
  | false => Nat.shiftRight x 1
def crcN : Nat → Nat → Nat
  | 0, x => x
  | k + 1, x => crcN k (crcStep x)
def crcBs : List UInt8 → Nat → Nat
  | [], x => x
  | b :: bs, x => crcBs bs (crcN 8 (Nat.xor x b.toNat))
def crcMore (s : Nat) (bs : List UInt8) : Nat := Nat.xor (crcBs bs (Nat.xor s 4294967295)) 4294967295

theorem crcStep_lt {x : Nat} (h : x < 4294967296) : crcStep x < 4294967296 := by
  have h1 : Nat.shiftRight x 1 < 4294967296 := by
    show x >>> 1 < _
    rw [Nat.shiftRight_eq_div_pow]; omega
  unfold crcStep
  split
  · exact Nat.xor_lt_two_pow (n := 32) h1 (by decide)
  · exact h1
theorem crcN_lt : ∀ (k : Nat) {x : Nat}, x < 4294967296 → crcN k x < 4294967296
  | 0, x, h => h
  | k + 1, x, h => crcN_lt k (crcStep_lt h)
theorem xor_byte_lt {x : Nat} (h : x < 4294967296) (b : UInt8) : Nat.xor x b.toNat < 4294967296 :=
  Nat.xor_lt_two_pow (n := 32) h (Nat.lt_trans b.toNat_lt (by decide))
theorem crcBs_lt : ∀ (bs : List UInt8) {x : Nat}, x < 4294967296 → crcBs bs x < 4294967296
  | [], x, h => h
  | b :: bs, x, h => crcBs_lt bs (crcN_lt 8 (xor_byte_lt h b))

theorem more_round (call : Oracle) (e : Env) (n : Nat) (kN : V → V → V → V → V → Hp → Option (V × Hp)) (kX2 : V → V → V → V → Hp → Option (V × Hp)) (g1 g10 g11 : V) (x i : Nat) (h : Hp) (hx : x < 4294967296) (hi : i < 8) :
    S_raw_More_4 call e n kN kX2 g1 (.int .u32 (x : Int)) g10 g11 (.int .i64 (i : Int)) h = kN g1 (.int .u32 (crcStep x : Nat)) g10 g11 (.int .i64 ((i + 1 : Nat) : Int)) h := by
  have hs : Nat.shiftRight x 1 < 4294967296 := by
    show x >>> 1 < _
    rw [Nat.shiftRight_eq_div_pow]; omega
  have e1 : aBin .and (.int .u32 (x : Int)) (.int .u32 (.ofNat 1)) = some (.int .u32 ((x &&& 1 : Nat) : Int)) := aBin_and_u32 hx (by decide)
  have e2 : aBin .shr (.int .u32 (x : Int)) (.int .u64 (.ofNat 1)) = some (.int .u32 ((x >>> 1 : Nat) : Int)) := aBin_shr_nat .u32 .u64 x 1 (by decide)
  have e3 : aBin .xor (.int .u32 ((x >>> 1 : Nat) : Int)) (.int .u32 (.ofNat 2197175160)) = some (.int .u32 ((x >>> 1 ^^^ 2197175160 : Nat) : Int)) := aBin_xor_u32 hs (by decide)
  have e4 : wrap .i64 ((i : Int) + 1) = (i : Int) + 1 := wrap_i64 (by omega) (by omega)
  simp only [S_raw_More_4, aBin_lss, sv_some, e1, e2, e3, pEq_int]
  rw [show decide ((i : Int) < Int.ofNat 8) = true from decide_eq_true (by show (i : Int) < 8; omega)]
  simp only [ifB_true]
  by_cases hb : x &&& 1 = 1
  · rw [show decide (((x &&& 1 : Nat) : Int) = Int.ofNat 1) = true from decide_eq_true (by rw [hb]; rfl)]
    simp only [ifB_true, aBin_add, sv_some]
    have : crcStep x = x >>> 1 ^^^ 2197175160 := by
      unfold crcStep
      rw [show Nat.beq (Nat.land x 1) 1 = true from by rw [Nat.beq_eq]; exact hb]
      rfl
    rw [this]
    show kN g1 _ g10 g11 (.int .i64 (wrap .i64 ((i : Int) + 1))) h = _
    rw [e4]; rfl
  · rw [show decide (((x &&& 1 : Nat) : Int) = Int.ofNat 1) = false from decide_eq_false (by intro h; exact hb (by have h' : ((x &&& 1 : Nat) : Int) = 1 := h; omega))]
    simp only [ifB_false, aBin_add, sv_some]
    have : crcStep x = x >>> 1 := by
      unfold crcStep
      rw [show Nat.beq (Nat.land x 1) 1 = false from by
        cases hq : Nat.beq (Nat.land x 1) 1 with
        | false => rfl
        | true => rw [Nat.beq_eq] at hq; exact (hb hq).elim]
      rfl
    rw [this]
    show kN g1 _ g10 g11 (.int .i64 (wrap .i64 ((i : Int) + 1))) h = _
    rw [e4]; rfl

theorem more_inner (call : Oracle) (e : Env) (n : Nat) (kX2 : V → V → V → V → Hp → Option (V × Hp)) (g1 g10 g11 : V) (h : Hp) : ∀ (k m x : Nat), k ≤ 8 → k < m → x < 4294967296 →
    S_raw_More_3L call e n kX2 m g1 (.int .u32 (x : Int)) g10 g11 (.int .i64 ((8 - k : Nat) : Int)) h = kX2 g1 (.int .u32 (crcN k x : Nat)) g10 g11 h
  | 0, m + 1, x, _, _, hx => by
    simp only [S_raw_More_3L, S_raw_More_4, aBin_lss, sv_some]
    rfl
  | k + 1, m + 1, x, hk, hm, hx => by
    simp only [S_raw_More_3L]
    rw [more_round call e n _ kX2 g1 g10 g11 x (8 - (k + 1)) h hx (by omega), show 8 - (k + 1) + 1 = 8 - k by omega]
    rw [more_inner call e n kX2 g1 g10 g11 h k m (crcStep x) (by omega) (by omega) (crcStep_lt hx)]
    rfl

theorem more_outer (call : Oracle) (e : Env) (n : Nat) (kX0 : V → Hp → Option (V × Hp)) (h : Hp) (hn : 8 < n) (bs : List UInt8) (hbs : bs.length < 4611686018427387904) : ∀ (k m x : Nat), k ≤ bs.length → k < m → x < 4294967296 →
    S_raw_More_1L call e n kX0 m (.str bs) (.int .u32 (x : Int)) (.int .i64 (bs.length : Int)) (.int .i64 ((bs.length - k : Nat) : Int)) h = kX0 (.int .u32 (crcBs (bs.drop (bs.length - k)) x : Nat)) h
  | 0, m + 1, x, _, _, hx => by
    simp only [S_raw_More_1L, S_raw_More_2, aBin_lss, sv_some]
    rw [show decide (((bs.length - 0 : Nat) : Int) < (bs.length : Int)) = false from decide_eq_false (by omega)]
    simp [crcBs]
  | k + 1, m + 1, x, hk, hm, hx => by
    have hlt : bs.length - (k + 1) < bs.length := by omega
    have hix : aIndexStr (.str bs) (.int .i64 ((bs.length - (k + 1) : Nat) : Int)) = some (.int .u8 (bs[bs.length - (k + 1)].toNat)) := by
      simp only [aIndexStr]
      rw [if_pos (by omega), Int.toNat_natCast, List.getElem?_eq_getElem hlt]
    have hcv : pConv (.toInt .u32) (.int .u8 ((bs[bs.length - (k + 1)].toNat : Nat) : Int)) h = some (.int .u32 ((bs[bs.length - (k + 1)].toNat : Nat) : Int)) := by
      have := (bs[bs.length - (k + 1)]).toNat_lt
      simp only [pConv]
      rw [wrap_u32 (by omega) (by omega)]
    have hxr : aBin .xor (.int .u32 (x : Int)) (.int .u32 ((bs[bs.length - (k + 1)].toNat : Nat) : Int)) = some (.int .u32 ((Nat.xor x (bs[bs.length - (k + 1)]).toNat : Nat) : Int)) :=
      aBin_xor_u32 hx (Nat.lt_trans (bs[bs.length - (k + 1)]).toNat_lt (by decide))
    simp only [S_raw_More_1L, S_raw_More_2, aBin_lss, sv_some]
    rw [show decide (((bs.length - (k + 1) : Nat) : Int) < (bs.length : Int)) = true from decide_eq_true (by omega)]
    simp only [ifB_true, hix, sv_some, hcv, hxr, S_raw_More_3]
    have hin := more_inner call e n (S_raw_More_5 call e n fun g1 g5 g10 g11 h => S_raw_More_1L call e n kX0 m g1 g5 g10 g11 h) (.str bs) (.int .i64 (bs.length : Int)) (.int .i64 ((bs.length - (k + 1) : Nat) : Int)) h 8 n _ (Nat.le_refl _) hn (xor_byte_lt hx bs[bs.length - (k + 1)])
    refine hin.trans ?_
    simp only [S_raw_More_5, aBin_add, sv_some]
    have e4 : wrap .i64 (((bs.length - (k + 1) : Nat) : Int) + Int.ofNat 1) = ((bs.length - k : Nat) : Int) := by
      show wrap .i64 (((bs.length - (k + 1) : Nat) : Int) + 1) = _
      rw [wrap_i64 (by omega) (by omega)]; omega
    rw [e4, more_outer call e n kX0 h hn bs hbs k m _ (by omega) (by omega) (crcN_lt 8 (xor_byte_lt hx _))]
    rw [List.drop_eq_getElem_cons hlt, show bs.length - (k + 1) + 1 = bs.length - k by omega]
    rfl

/-- The function, run by itself. -/
theorem more_spec (call : Oracle) (n : Nat) (x : Nat) (bs : List UInt8) (H : Hp) (hx : x < 4294967296) (hbs : bs.length < 4611686018427387904) (h8 : 8 < n) (hn : bs.length < n) :
    S_raw_More call n (.int .u32 (x : Int)) (.str bs) H = some (.int .u32 (crcMore x bs : Nat), H) := by
  have h0 : Nat.xor x 4294967295 < 4294967296 := Nat.xor_lt_two_pow (n := 32) hx (by decide)
  have e1 : aBin .xor (.int .u32 (x : Int)) (.int .u32 (.ofNat 4294967295)) = some (.int .u32 ((Nat.xor x 4294967295 : Nat) : Int)) := aBin_xor_u32 hx (by decide)
  have h1 := crcBs_lt bs h0
  have e2 : aBin .xor (.int .u32 (crcBs bs (Nat.xor x 4294967295) : Nat)) (.int .u32 (.ofNat 4294967295)) = some (.int .u32 ((crcMore x bs : Nat) : Int)) := aBin_xor_u32 h1 (by decide)
  simp only [S_raw_More, S_raw_More_0, e1, sv_some, pLen, S_raw_More_1]
  have := more_outer call ⟨false, placeOf 0 (H.depth + 1), H.depth + 1⟩ n (S_raw_More_6 call ⟨false, placeOf 0 (H.depth + 1), H.depth + 1⟩ n fun g4 h => leave false H.depth [g4] h) (aPush H) h8 bs hbs bs.length n _ (Nat.le_refl _) hn h0
  rw [Nat.sub_self] at this
  refine this.trans ?_
  rw [List.drop_zero]
  simp only [S_raw_More_6, e2, sv_some, leave_int, aPop_aPush]

def primMore (args : List V) (H : Hp) : Option (V × Hp) :=
  match args with
  | [.int .u32 (.ofNat x), .str bs] => match Nat.blt x 4294967296 && Nat.blt bs.length 4611686018427387904 with
    | true => some (.int .u32 (.ofNat (crcMore x bs)), H)
    | false => none
  | _ => none

theorem more_ok {P : Program} {pol : Pol} (hm : P.follows .mixedOrders = true) (hnn : NoNum P) {d k : Nat} (hres : resolveFn P pol f_raw_More d k = some rf_raw_More) : CallOK1 P f_raw_More primMore := by
  have hno : CallOK P (fun _ _ _ => none) := by intro f args H r H' hr; cases hr
  intro args H r H' hr
  unfold primMore at hr
  split at hr
  · rename_i x bs
    split at hr
    · rename_i hck
      simp only [Option.some.injEq, Prod.mk.injEq] at hr
      obtain ⟨rfl, rfl⟩ := hr
      simp only [Bool.and_eq_true] at hck
      have hx : x < 4294967296 := by simpa [Nat.blt_eq] using hck.1
      have hb : bs.length < 4611686018427387904 := by simpa [Nat.blt_eq] using hck.2
      have hs := more_spec (fun _ _ _ => none) (bs.length + 9) x bs H hx hb (by omega) (by omega)
      rw [← E_raw_More] at hs
      exact aBody_sound hno (aDraw_sound hno) hm hnn _ f_raw_More _ H _ H (rBody_ok hres hs)
    · cases hr
  · cases hr
end Go.Abs
