/- Laws of the values' operations, for proofs over printed functions. -/
import Derived.Test.YtokjbfjkmboehaaGreatAbsGG
set_option linter.unusedVariables false
set_option linter.unusedSimpArgs false
namespace Go.Abs

section
variable {β : Type}
@[simp] theorem ifB_true (a b : Option β) : ifB (.bool true) a b = a := rfl
@[simp] theorem ifB_false (a b : Option β) : ifB (.bool false) a b = b := rfl
theorem ifB_bool (p : Bool) (a b : Option β) : ifB (.bool p) a b = if p then a else b := by cases p <;> rfl
@[simp] theorem ifT_true (a : Option β) : ifT true a = a := rfl
@[simp] theorem ob_some {α : Type} (a : α) (k : α → Option β) : ob (some a) k = k a := rfl
end

theorem wrap_i64 {n : Int} (h1 : -9223372036854775808 ≤ n) (h2 : n ≤ 9223372036854775807) : wrap .i64 n = n := by simp [wrap, h1, h2]
theorem wrap_u8 {n : Int} (h1 : 0 ≤ n) (h2 : n < 256) : wrap .u8 n = n := by simp only [wrap]; omega
theorem wrap_u32 {n : Int} (h1 : 0 ≤ n) (h2 : n < 4294967296) : wrap .u32 n = n := by simp only [wrap]; omega
theorem wrap_u64 {n : Int} (h1 : 0 ≤ n) (h2 : n < 18446744073709551616) : wrap .u64 n = n := by simp only [wrap]; omega

@[simp] theorem aBin_add (k : IntKind) (a b : Int) : aBin .add (.int k a) (.int k b) = some (.int k (wrap k (a + b))) := by simp [aBin, aBinInt]
@[simp] theorem aBin_sub (k : IntKind) (a b : Int) : aBin .sub (.int k a) (.int k b) = some (.int k (wrap k (a - b))) := by simp [aBin, aBinInt]
@[simp] theorem aBin_mul (k : IntKind) (a b : Int) : aBin .mul (.int k a) (.int k b) = some (.int k (wrap k (a * b))) := by simp [aBin, aBinInt]
theorem aBin_quo (k : IntKind) (a b : Int) (h : b ≠ 0) : aBin .quo (.int k a) (.int k b) = some (.int k (wrap k (a.tdiv b))) := by simp [aBin, aBinInt, h]
theorem aBin_rem (k : IntKind) (a b : Int) (h : b ≠ 0) : aBin .rem (.int k a) (.int k b) = some (.int k (a.tmod b)) := by simp [aBin, aBinInt, h]
@[simp] theorem aBin_lss (k : IntKind) (a b : Int) : aBin .lss (.int k a) (.int k b) = some (.bool (decide (a < b))) := by simp [aBin, aBinInt]
@[simp] theorem aBin_leq (k : IntKind) (a b : Int) : aBin .leq (.int k a) (.int k b) = some (.bool (decide (a ≤ b))) := by simp [aBin, aBinInt]
@[simp] theorem aBin_gtr (k : IntKind) (a b : Int) : aBin .gtr (.int k a) (.int k b) = some (.bool (decide (b < a))) := by simp [aBin, aBinInt]
@[simp] theorem aBin_geq (k : IntKind) (a b : Int) : aBin .geq (.int k a) (.int k b) = some (.bool (decide (b ≤ a))) := by simp [aBin, aBinInt]
@[simp] theorem pEq_int (k : IntKind) (a b : Int) : pEq .int (.int k a) (.int k b) = some (.bool (decide (a = b))) := by simp [pEq, aEq]
@[simp] theorem pNe_int (k : IntKind) (a b : Int) : pNe .int (.int k a) (.int k b) = some (.bool (!decide (a = b))) := by simp [pNe, aEq]
@[simp] theorem pEq_str (a b : List UInt8) : pEq .str (.str a) (.str b) = some (.bool (decide (a = b))) := rfl
@[simp] theorem pNe_str (a b : List UInt8) : pNe .str (.str a) (.str b) = some (.bool (!decide (a = b))) := rfl
@[simp] theorem pEq_ptr_nil (d i o : Nat) : pEq .ptr (.ptr d i o) .nilp = some (.bool false) := rfl
@[simp] theorem pNe_ptr_nil (d i o : Nat) : pNe .ptr (.ptr d i o) .nilp = some (.bool true) := rfl
@[simp] theorem pEq_nil_nil : pEq .ptr .nilp .nilp = some (.bool true) := rfl
@[simp] theorem pNe_nil_nil : pNe .ptr .nilp .nilp = some (.bool false) := rfl
@[simp] theorem aUn_not (b : Bool) : aUn .not (.bool b) = some (.bool (!b)) := rfl
theorem aBin_shr (k k' : IntKind) (a : Int) (b : Nat) : aBin .shr (.int k a) (.int k' (b : Int)) = some (.int k (a.fdiv (2 ^ min b k.bits))) := by
  simp [aBin]
theorem aBin_shr_nat (k k' : IntKind) (a b : Nat) (hb : b ≤ k.bits) : aBin .shr (.int k (a : Int)) (.int k' (b : Int)) = some (.int k ((a >>> b : Nat) : Int)) := by
  rw [aBin_shr, Nat.min_eq_left hb, Nat.shiftRight_eq_div_pow]
  have : (2 : Int) ^ b = ((2 ^ b : Nat) : Int) := by simp
  rw [this, Int.fdiv_eq_ediv_of_nonneg _ (Int.natCast_nonneg _), Int.natCast_ediv]
theorem u32_toNat {a : Nat} (h : a < 4294967296) : ((a : Int) % 4294967296).toNat = a := by omega
theorem aBin_and_u32 {a b : Nat} (ha : a < 4294967296) (hb : b < 4294967296) : aBin .and (.int .u32 (a : Int)) (.int .u32 (b : Int)) = some (.int .u32 ((a &&& b : Nat) : Int)) := by
  have h : a &&& b < 4294967296 := Nat.and_lt_two_pow (n := 32) a hb
  simp only [aBin, aBinInt, bitOp, modOf, if_true, u32_toNat ha, u32_toNat hb]
  rw [wrap_u32 (by omega) (by omega)]
theorem aBin_xor_u32 {a b : Nat} (ha : a < 4294967296) (hb : b < 4294967296) : aBin .xor (.int .u32 (a : Int)) (.int .u32 (b : Int)) = some (.int .u32 ((a ^^^ b : Nat) : Int)) := by
  have h : a ^^^ b < 4294967296 := Nat.xor_lt_two_pow (n := 32) ha hb
  simp only [aBin, aBinInt, bitOp, modOf, if_true, u32_toNat ha, u32_toNat hb]
  rw [wrap_u32 (by omega) (by omega)]

/-! ### A function is left -/
@[simp] theorem aPop_aPush (H : Hp) : aPop (aPush H) = H := rfl
@[simp] theorem aPush_depth (H : Hp) : (aPush H).depth = H.depth + 1 := rfl
@[simp] theorem leave_int (k : IntKind) (n : Int) (D : Nat) (H : Hp) : leave false D [.int k n] H = some (.int k n, aPop H) := rfl
@[simp] theorem leave_bool (b : Bool) (D : Nat) (H : Hp) : leave false D [.bool b] H = some (.bool b, aPop H) := rfl
@[simp] theorem leave_str (s : List UInt8) (D : Nat) (H : Hp) : leave false D [.str s] H = some (.str s, aPop H) := rfl
@[simp] theorem leave_nil (D : Nat) (H : Hp) : leave false D [] H = some (.tup [], aPop H) := rfl

mutual
theorem eqV_refl : ∀ (v : V), eqV v v = true
  | .undef | .unk | .bool _ | .int _ _ | .str _ | .nilp | .ptr .. | .sref .. | .nilm | .mapr .. | .nilf => by simp [eqV]
  | .imm a => by simp [eqV, eqL_refl a]
  | .sl n a t => by simp [eqV, eqL_refl a]
  | .fn f a b => by simp [eqV, eqL_refl a, eqL_refl b]
  | .agg a => by simp [eqV, eqL_refl a]
  | .tup a => by simp [eqV, eqL_refl a]
theorem eqL_refl : ∀ (l : List V), eqL l l = true
  | [] => by simp [eqL]
  | v :: l => by simp [eqL, eqV_refl v, eqL_refl l]
end
@[simp] theorem same1_self (v : V) (H : Hp) : same1 (some (v, H)) v = true := eqV_refl v
@[simp] theorem cond2_true (H : Hp) (o : Option (V × Hp)) : cond2 (.bool true) true H o = o := rfl
@[simp] theorem cond2_false (H : Hp) (o : Option (V × Hp)) : cond2 (.bool false) true H o = some (.undef, H) := rfl
@[simp] theorem cond2_true' (H : Hp) (o : Option (V × Hp)) : cond2 (.bool true) false H o = some (.undef, H) := rfl
@[simp] theorem cond2_false' (H : Hp) (o : Option (V × Hp)) : cond2 (.bool false) false H o = o := rfl
@[simp] theorem cond2_undef (w : Bool) (H : Hp) (o : Option (V × Hp)) : cond2 .undef w H o = some (.undef, H) := rfl
@[simp] theorem pPick_true (a b : V) : pPick (.bool true) a b = some a := rfl
@[simp] theorem pPick_false (a b : V) : pPick (.bool false) a b = some b := rfl
@[simp] theorem pConv_int (k k' : IntKind) (n : Int) (H : Hp) : pConv (.toInt k) (.int k' n) H = some (.int k (wrap k n)) := rfl
@[simp] theorem pLen_str (s : List UInt8) (H : Hp) : pLen .str (.str s) H = some (.int .i64 s.length) := rfl
@[simp] theorem pEq_bool (a b : Bool) : pEq .bool (.bool a) (.bool b) = some (.bool (decide (a = b))) := rfl

/-! ### The frame on top -/
@[simp] theorem placeOf_zero (D : Nat) : placeOf 0 D = D := rfl
theorem depth_eq (H : Hp) : H.depth = H.stk.length := rfl
@[simp] theorem depth_mk (g : Fr) (fs : List Fr) : (⟨g, fs⟩ : Hp).depth = fs.length := rfl
theorem aPush_eq (H : Hp) : aPush H = ⟨H.glob, ⟨[], []⟩ :: H.stk⟩ := rfl
@[simp] theorem aPop_mk (g : Fr) (f : Fr) (fs : List Fr) : aPop ⟨g, f :: fs⟩ = ⟨g, fs⟩ := rfl
@[simp] theorem newObj_top (g : Fr) (os : List AO) (ps : List (Option Nat)) (fs : List Fr) (o : AO) : (⟨g, ⟨os, ps⟩ :: fs⟩ : Hp).newObj (fs.length + 1) o = some (os.length, ⟨g, ⟨os ++ [o], ps⟩ :: fs⟩) := by
  simp [Hp.newObj, Hp.fr, stkGet, Hp.setFr, stkSet]
@[simp] theorem obj_top (g : Fr) (os : List AO) (ps : List (Option Nat)) (fs : List Fr) (i : Nat) : (⟨g, ⟨os, ps⟩ :: fs⟩ : Hp).obj (fs.length + 1) i = os[i]? := by
  simp [Hp.obj, Hp.fr, stkGet]
@[simp] theorem setObj_top (g : Fr) (os : List AO) (ps : List (Option Nat)) (fs : List Fr) (i : Nat) (o : AO) : (⟨g, ⟨os, ps⟩ :: fs⟩ : Hp).setObj (fs.length + 1) i o = ⟨g, ⟨os.set i o, ps⟩ :: fs⟩ := by
  simp [Hp.setObj, Hp.fr, stkGet, Hp.setFr, stkSet]

theorem aBin_bit (op : BinOp) (k : IntKind) (a b : Nat) (f : Nat → Nat → Nat) (h : bitOp op k (a : Int) (b : Int) = some (wrap k ((f a b : Nat) : Int))) (hop : op = .and ∨ op = .or ∨ op = .xor) :
    aBin op (.int k (a : Int)) (.int k (b : Int)) = some (.int k (wrap k ((f a b : Nat) : Int))) := by
  rcases hop with rfl | rfl | rfl <;> simp [aBin, aBinInt, h]
end Go.Abs
