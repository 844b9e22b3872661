/- All operations that hang on their operands alone. -/
import Derived.Test.YtokjbfjkmboehaaGreatAbsP
set_option linter.unusedVariables false
set_option linter.unusedSimpArgs false
namespace Go.Abs
open Go.RowKit

section
variable {P : Program} {w0 w : World} {D : Nat} {g : Gh} {H : Hp}

theorem beq_dec {α : Type} [BEq α] [LawfulBEq α] [DecidableEq α] (a b : α) : (a == b) = decide (a = b) := by rw [Bool.eq_iff_iff]; simp
theorem ite_same {α : Type} {c : Prop} [Decidable c] {A B r : α} (h1 : A = r) (h2 : B = r) : (if c then A else B) = r := by split <;> assumption
theorem eqGuard_ok (op : BinOp) (t : TypeId) (x y : Operand) (a b : Value) (h : (a = .nilIface → False)) (k : ∀ cs, a = .agg cs → P.eqGuardType P.depth t = false) : (eqGuard op t x y a b).run P w = .ok () w := by
  unfold eqGuard
  rw [Sem.run_ite]
  refine ite_same rfl ?_
  cases a <;> first | rfl | (exact (h rfl).elim) | skip
  cases b <;> first | rfl | skip
  simp [k _ rfl]

/-- Whole aggregates, cell by cell. -/
theorem equal_agg {t : TypeId} {ks : List PK} {cs ds : List V} {xs ys : List Value} {b : Bool} (hk : kindsT P 20 t = some ks) (h1 : cs.length = ks.length) (h2 : ds.length = ks.length)
    (hx : VRL g cs xs) (hy : VRL g ds ys) (hb : eqCells ks cs ds = some b) (ht : tAgg P t = some true) (n : Nat) (hn : 20 ≤ n) : (Op.equalIn n t (.agg ⟨xs⟩) (.agg ⟨ys⟩)).run P w = .ok b w := by
  obtain ⟨x, y, r1, r2, r3⟩ := flat_equal (P := P) (w := w) 20 t ks cs ds xs ys b 0 hk hx hy (by omega) (by omega)
    (by rw [List.drop_zero, List.drop_zero, List.take_of_length_le (by omega), List.take_of_length_le (by omega)]; exact hb)
  have l1 := hx.length
  have l2 := hy.length
  have e1 : (part t ⟨xs⟩ 0).run P w = .ok (.agg ⟨xs⟩) w := by
    simp [part, run_agg ht, run_size (kindsT_size hk), List.extract_eq_take_drop]
    rw [List.take_of_length_le (by omega)]
  have e2 : (part t ⟨ys⟩ 0).run P w = .ok (.agg ⟨ys⟩) w := by
    simp [part, run_agg ht, run_size (kindsT_size hk), List.extract_eq_take_drop]
    rw [List.take_of_length_le (by omega)]
  rw [e1] at r1; cases r1
  rw [e2] at r2; cases r2
  exact r3 n hn

theorem eql_run {t : TypeId} {x y : Value} {b : Bool} (hb : binOp .eql t x y = (do pure (.bool (← Op.equal t x y)))) (hn : binOp .neq t x y = (do pure (.bool (!(← Op.equal t x y)))))
    (h : ∀ n, (Op.equalIn (n + 1) t x y).run P w = .ok b w) : (binOp .eql t x y).run P w = .ok (.bool b) w ∧ (binOp .neq t x y).run P w = .ok (.bool (!b)) w := by
  have e : (Op.equal t x y).run P w = .ok b w := h 9999
  rw [hb, hn]
  simp only [Sem.run_bind, e, Result.andThen_ok, Sem.run_pure, and_self]
theorem VR.notIface {v : V} {x : Value} (h : VR g v x) (hu : v ≠ .unk) : x = .nilIface → False := by
  rintro rfl
  cases v <;> simp [VR, Go.undef] at h <;> exact hu rfl

/-- '==' as the type's kind looks at it. -/
theorem sim_eq {t : TypeId} {k : EK} {v u : V} {x y : Value} {b : Bool} (ht : tEq P t = some k) (hb : aEq k v u = some b) (hv : VR g v x) (hu : VR g u y) (ox oy : Operand) :
    (∀ op, op = .eql ∨ op = .neq → (eqGuard op t ox oy x y).run P w = .ok () w) ∧ (binOp .eql t x y).run P w = .ok (.bool b) w ∧ (binOp .neq t x y).run P w = .ok (.bool (!b)) w := by
  have guard : v ≠ .unk → (∀ cs, x = .agg cs → P.eqGuardType P.depth t = false) → (∀ op, op = .eql ∨ op = .neq → (eqGuard op t ox oy x y).run P w = .ok () w) :=
    fun h k op _ => eqGuard_ok op t ox oy x y (hv.notIface h) k
  unfold tEq at ht
  split at ht
  · rename_i hd; cases ht
    simp only [aEq] at hb
    split at hb
    · cases hb
      simp only [VR] at hv hu; subst hv; subst hu
      exact ⟨fun op _ => eqGuard_ok op t ox oy _ _ (by simp) (by simp), eql_run rfl rfl (fun n => by rw [run_equalIn_bool' _ _ _ _ _ hd, beq_dec])⟩
    · cases hb
  · rename_i kk hd; cases ht
    simp only [aEq] at hb
    split at hb
    · split at hb
      · rename_i hk; cases hb
        simp only [VR] at hv hu; subst hv; subst hu; subst hk
        refine ⟨fun op _ => eqGuard_ok op t ox oy _ _ (by simp) (by simp), ?_, ?_⟩ <;> simp [binOp, Op.intCmp, bne, beq_dec]
      · cases hb
    · cases hb
  · rename_i hd; cases ht
    simp only [aEq] at hb
    split at hb
    · cases hb
      simp only [VR] at hv hu; subst hv; subst hu
      refine ⟨fun op _ => eqGuard_ok op t ox oy _ _ (by simp) (by simp), ?_, ?_⟩ <;> simp [binOp, Op.stringOp, byteArray_toList, beq_dec]
    · cases hb
  · rename_i e hd; cases ht
    simp only [aEq] at hb
    split at hb <;> cases hb <;> simp only [VR] at hv hu
    · subst hv; subst hu
      exact ⟨fun op _ => eqGuard_ok op t ox oy _ _ (by simp) (by simp), eql_run rfl rfl (fun n => by simp [Op.equalIn, run_under hd])⟩
    · subst hv; obtain ⟨_, _, rfl⟩ := hu
      exact ⟨fun op _ => eqGuard_ok op t ox oy _ _ (by simp) (by simp), eql_run rfl rfl (fun n => by simp [Op.equalIn, run_under hd])⟩
    · subst hv; obtain ⟨_, _, _, rfl, _⟩ := hu
      exact ⟨fun op _ => eqGuard_ok op t ox oy _ _ (by simp) (by simp), eql_run rfl rfl (fun n => by simp [Op.equalIn, run_under hd])⟩
    · subst hu; obtain ⟨_, _, rfl⟩ := hv
      exact ⟨fun op _ => eqGuard_ok op t ox oy _ _ (by simp) (by simp), eql_run rfl rfl (fun n => by simp [Op.equalIn, run_under hd])⟩
    · subst hu; obtain ⟨_, _, _, rfl, _⟩ := hv
      exact ⟨fun op _ => eqGuard_ok op t ox oy _ _ (by simp) (by simp), eql_run rfl rfl (fun n => by simp [Op.equalIn, run_under hd])⟩
  · rename_i e hd; cases ht
    simp only [aEq] at hb
    split at hb
    · rename_i len cs tk
      simp only [VR] at hv hu
      obtain ⟨base, cap, ys, rfl, hl, _, hs⟩ := hv
      obtain ⟨base', cap', ys', rfl, hl', _, hs'⟩ := hu
      have hb' : base' = none := hs'.2.2.2
      have hc' : cap' = 0 := (hs'.1 hb').2
      subst hb'; subst hc'
      split at hb
      · rename_i hc; cases hb
        obtain ⟨rfl, rfl⟩ := hc
        have h1 : base = none := hs.2.2.2
        subst h1
        exact ⟨fun op _ => eqGuard_ok op t ox oy _ _ (by simp) (by simp), eql_run rfl rfl (fun n => by simp [Op.equalIn, run_under hd])⟩
      · split at hb
        · rename_i hpos; cases hb
          cases base with
          | none => have := (hs.1 rfl).2; omega
          | some a =>
            exact ⟨fun op _ => eqGuard_ok op t ox oy _ _ (by simp) (by simp), eql_run rfl rfl (fun n => by simp [Op.equalIn, run_under hd])⟩
        · cases hb
    · cases hb
      simp only [VR] at hv hu
      obtain ⟨_, _, _, _, rfl, _⟩ := hv
      obtain ⟨base', cap', ys', rfl, hl', _, hs'⟩ := hu
      have hb' : base' = none := hs'.2.2.2
      subst hb'
      exact ⟨fun op _ => eqGuard_ok op t ox oy _ _ (by simp) (by simp), eql_run rfl rfl (fun n => by simp [Op.equalIn, run_under hd])⟩
    · cases hb
  · rename_i k1 e1 hd; cases ht
    simp only [aEq] at hb
    split at hb <;> cases hb <;> simp only [VR] at hv hu
    · subst hv; subst hu
      exact ⟨fun op _ => eqGuard_ok op t ox oy _ _ (by simp) (by simp), eql_run rfl rfl (fun n => by simp [Op.equalIn, run_under hd])⟩
    · obtain ⟨_, _, rfl⟩ := hv; subst hu
      exact ⟨fun op _ => eqGuard_ok op t ox oy _ _ (by simp) (by simp), eql_run rfl rfl (fun n => by simp [Op.equalIn, run_under hd])⟩
  · rename_i ps rs vd hd; cases ht
    simp only [aEq] at hb
    split at hb <;> cases hb <;> simp only [VR] at hv hu
    · subst hv; subst hu
      exact ⟨fun op _ => eqGuard_ok op t ox oy _ _ (by simp) (by simp), eql_run rfl rfl (fun n => by simp [Op.equalIn, run_under hd])⟩
    · obtain ⟨_, _, rfl, _⟩ := hv; subst hu
      exact ⟨fun op _ => eqGuard_ok op t ox oy _ _ (by simp) (by simp), eql_run rfl rfl (fun n => by simp [Op.equalIn, run_under hd])⟩
  · rename_i fs hd
    split at ht
    · rename_i hg
      split at ht
      · rename_i ks hk
        cases ht
        simp only [aEq] at hb
        split at hb
        · rename_i cs ds
          simp only [VR] at hv hu
          obtain ⟨xs, rfl, hx⟩ := hv
          obtain ⟨ys, rfl, hy⟩ := hu
          split at hb
          · rename_i hl
            have ha : tAgg P t = some true := by simp [tAgg, hd]
            have e := equal_agg (w := w) hk hl.1 hl.2 hx hy hb ha 10000 (by omega)
            refine ⟨fun op _ => eqGuard_ok op t ox oy _ _ (by simp) (fun _ _ => hg), ?_, ?_⟩
            · rw [run_eql_struct, e]; rfl
            · rw [run_neq_struct, e]; rfl
          · cases hb
        · cases hb
      · cases ht
    · cases ht
  · cases ht

theorem sim_bin {op : BinOp} {t : TypeId} {v u r : V} {x y : Value} (h : aBin op v u = some r) (hv : VR g v x) (hu : VR g u y) (hne : op ≠ .eql ∧ op ≠ .neq) (ox oy : Operand) :
    (eqGuard op t ox oy x y).run P w = .ok () w ∧ ∃ z, (binOp op t x y).run P w = .ok z w ∧ VR g r z := by
  have hg : (eqGuard op t ox oy x y).run P w = .ok () w := by
    unfold eqGuard
    rw [Sem.run_ite]
    rw [if_pos (by cases op <;> first | rfl | (exact (hne.1 rfl).elim) | (exact (hne.2 rfl).elim))]; rfl
  refine ⟨hg, ?_⟩
  unfold aBin at h
  split at h
  · rename_i k a k' b
    simp only [VR] at hv hu; subst hv; subst hu
    split at h
    · split at h
      · cases h
      · rename_i hb; cases h
        exact ⟨_, by simp [binOp, Op.shift, hb]; rfl, by simp [VR, wrap_eq]⟩
    · split at h
      · cases h
      · rename_i hb; cases h
        exact ⟨_, by simp [binOp, Op.shift, hb]; rfl, by simp [VR]⟩
    · split at h
      · rename_i hk; subst hk; exact sim_binInt h
      · cases h
  · rename_i a b
    simp only [VR] at hv hu; subst hv; subst hu
    split at h
    · split at h
      · rename_i hl; cases h
        have : ¬ (((⟨⟨a⟩⟩ : ByteArray).size + (⟨⟨b⟩⟩ : ByteArray).size : Nat) : Int) > IntKind.i64.max := by
          show ¬ ((a.length + b.length : Nat) : Int) > 9223372036854775807
          unfold mostBytes at hl; omega
        refine ⟨.string (⟨⟨a⟩⟩ ++ ⟨⟨b⟩⟩), by simp only [binOp, Op.stringOp]; rw [if_neg this]; rfl, ?_⟩
        simp only [VR]
        congr 1
      · cases h
    · cases h; exact ⟨_, by simp [binOp, Op.stringOp, byteArray_toList]; rfl, by simp [VR, bytesLess_eq]⟩
    · cases h; exact ⟨_, by simp [binOp, Op.stringOp, byteArray_toList]; rfl, by simp [VR, bytesLess_eq, beq_dec]⟩
    · cases h; exact ⟨_, by simp [binOp, Op.stringOp, byteArray_toList]; rfl, by simp [VR, bytesLess_eq, beq_dec]⟩
    · cases h; exact ⟨_, by simp [binOp, Op.stringOp, byteArray_toList]; rfl, by simp [VR, bytesLess_eq, beq_dec]⟩
    · cases h
  · cases h

theorem sim_un {op : UnOp} {v r : V} {x : Value} (h : aUn op v = some r) (hv : VR g v x) : ∃ z, (Op.unary op x).run P w = .ok z w ∧ VR g r z := by
  unfold aUn at h
  split at h
  · cases h; simp only [VR] at hv; subst hv; exact ⟨_, by simp [Op.unary]; rfl, by simp [VR]⟩
  · cases h; simp only [VR] at hv; subst hv; exact ⟨_, by simp [Op.unary, Op.intArith]; rfl, by simp [VR, wrap_eq]⟩
  · cases h

/-! ### Slices -/

def ORel (g : Gh) (v : Option V) (x : Option Value) : Prop := match v, x with | none, none => True | some a, some b => VR g a b | _, _ => False
theorem TR.orel {T : List V} {a : Act} (hT : TR g T a.tmps) (o : Option Operand) : ORel g (o.map (aEval T)) (o.map a.eval) := by
  cases o with
  | none => trivial
  | some x => exact hT.eval x
theorem sim_bound {v : Option V} {ov : Option Value} {dflt most r : Nat} (h : bound v dflt most = some r) (hv : ORel g v ov) (code : BoundsCode) :
    (match ov with | none => (pure dflt : Sem Nat) | some x => Instr.sliceBound x most code).run P w = .ok r w ∧ (v = none → r = dflt) ∧ (∀ a, v = some a → r ≤ most) := by
  cases v with
  | none =>
    simp only [bound, Option.some.injEq] at h; subst h
    cases ov with
    | none => exact ⟨rfl, (fun _ => rfl), (fun _ e => by cases e)⟩
    | some _ => exact hv.elim
  | some a =>
    cases ov with
    | none => exact hv.elim
    | some b =>
      cases a with
      | int k i =>
        simp only [bound] at h
        split at h
        · rename_i hi
          cases h
          simp only [ORel, VR] at hv; subst hv
          exact ⟨by simp [Instr.sliceBound, asIntOf, hi], (fun e => by cases e), (fun _ _ => by omega)⟩
        · cases h
      | _ => simp [bound] at h

theorem addr_add (b o n : Nat) : (⟨b, o, none⟩ : Addr).add n = ⟨b, o + n, none⟩ := by
  unfold Addr.add
  split
  · rename_i h; subst h; rfl
  · rfl

theorem sim_sliceStr {t : TypeId} {v r : V} {x : Value} {lo hi : Option V} {olo ohi : Option Value} (hd : P.underlying t = some .string) (h : pSliceStr v lo hi = some r) (hv : VR g v x)
    (hlo : ORel g lo olo) (hhi : ORel g hi ohi) : ∃ z, (Instr.sliceAt t x olo ohi none).run P w = .ok z w ∧ VR g r z := by
  unfold pSliceStr at h
  split at h
  · rename_i bs
    split at h
    · rename_i hh hb1
      split at h
      · rename_i ll hb2
        cases h
        simp only [VR] at hv; subst hv
        obtain ⟨h1, h1', h1''⟩ := sim_bound (P := P) (w := w) hb1 hhi .sliceAlen
        obtain ⟨h2, h2', h2''⟩ := sim_bound (P := P) (w := w) hb2 hlo .sliceB
        have e1 : (match ohi, (none : Option Value) with
          | some v, some _ => Instr.sliceBound v bs.length .slice3B
          | some v, none => Instr.sliceBound v bs.length .sliceAlen
          | none, none => pure bs.length
          | none, some _ => stuck "Slice: max without high").run P w = .ok hh w := by cases ohi <;> exact h1
        refine ⟨.string ((⟨⟨bs⟩⟩ : ByteArray).extract ll hh), ?_, ?_⟩
        · simp only [Instr.sliceAt, Sem.run_bind, run_under hd, Result.andThen_ok, Instr.slice, Instr.sliceBounds, Sem.run_pure]
          simp only [Option.isSome_none, Bool.false_eq_true, if_false, Sem.run_bind]
          rw [show (⟨⟨bs⟩⟩ : ByteArray).size = bs.length from rfl]
          cases ohi <;> cases olo <;> simp_all [Sem.run_bind]
        · simp only [VR]
          congr 1
          apply ByteArray.ext
          simp [ByteArray.data_extract, List.extract_eq_take_drop]
      · cases h
    · cases h
  · cases h

theorem bounds_plain {len cap hh ll : Nat} {lo hi : Option V} {olo ohi : Option Value} (h1 : bound hi len len = some hh) (h2 : bound lo 0 hh = some ll) (hlo : ORel g lo olo) (hhi : ORel g hi ohi) (hle : len ≤ cap) :
    (Instr.sliceBounds true len cap olo ohi none).run P w = .ok (ll, hh, cap) w ∧ ll ≤ hh ∧ hh ≤ len := by
  have a1 : (match ohi with | none => (pure len : Sem Nat) | some x => Instr.sliceBound x cap .sliceAcap).run P w = .ok hh w ∧ hh ≤ len := by
    cases hi with
    | none =>
      cases ohi with
      | none => simp only [bound, Option.some.injEq] at h1; subst h1; exact ⟨rfl, Nat.le_refl _⟩
      | some _ => exact hhi.elim
    | some a =>
      cases ohi with
      | none => exact hhi.elim
      | some b =>
        cases a with
        | int k i =>
          simp only [bound] at h1
          split at h1
          · rename_i hi'
            cases h1
            simp only [ORel, VR] at hhi; subst hhi
            have : 0 ≤ i ∧ i ≤ (cap : Int) := ⟨hi'.1, by omega⟩
            exact ⟨by simp [Instr.sliceBound, asIntOf, this], by omega⟩
          · cases h1
        | _ => simp [bound] at h1
  obtain ⟨b1, b2, b3⟩ := sim_bound (P := P) (w := w) h2 hlo .sliceB
  have hll : ll ≤ hh := by
    cases lo with
    | none => rw [b2 rfl]; omega
    | some _ => exact b3 _ rfl
  refine ⟨?_, hll, a1.2⟩
  have a1' := a1.1
  cases ohi <;> cases olo <;> simp_all [Instr.sliceBounds, Sem.run_bind]

theorem bounds_max {len cap mm hh ll : Nat} {m hv : V} {lo : Option V} {om ohv : Value} {olo : Option Value} (h0 : bound (some m) len len = some mm) (h1 : bound (some hv) len mm = some hh) (h2 : bound lo 0 hh = some ll)
    (hm : VR g m om) (hlo : ORel g lo olo) (hhi : VR g hv ohv) (hle : len ≤ cap) :
    (Instr.sliceBounds true len cap olo (some ohv) (some om)).run P w = .ok (ll, hh, mm) w ∧ ll ≤ hh ∧ hh ≤ mm ∧ mm ≤ len := by
  have a0 : (Instr.sliceBound om cap .slice3Acap).run P w = .ok mm w ∧ mm ≤ len := by
    cases m with
    | int k i =>
      simp only [bound] at h0
      split at h0
      · rename_i hi'
        cases h0
        simp only [VR] at hm; subst hm
        have : 0 ≤ i ∧ i ≤ (cap : Int) := ⟨hi'.1, by omega⟩
        exact ⟨by simp [Instr.sliceBound, asIntOf, this], by omega⟩
      · cases h0
    | _ => simp [bound] at h0
  obtain ⟨a1, _, a3⟩ := sim_bound (P := P) (w := w) (ov := some ohv) h1 hhi .slice3B
  obtain ⟨b1, b2, b3⟩ := sim_bound (P := P) (w := w) h2 hlo .slice3C
  have hll : ll ≤ hh := by
    cases lo with
    | none => rw [b2 rfl]; omega
    | some _ => exact b3 _ rfl
  refine ⟨?_, hll, a3 _ rfl, a0.2⟩
  have a0' := a0.1
  cases olo <;> simp_all [Instr.sliceBounds, Sem.run_bind]

/-- A slice of a slice: where it lies. -/
theorem SL.sub {base : Option Addr} {ys : List Value} {len cap s l hh m : Nat} {t t' : Tok} (h : SL g base ys len cap t) (hy : ys.length = len * s) (hle : len ≤ cap) (h1 : l ≤ hh) (h2 : hh ≤ len) (h3 : hh ≤ m) (h4 : m ≤ cap)
    (ht : t' = .dead ∨ (t = .nil ∧ t' = .nil) ∨ (t' = .full ∧ m = hh) ∨ (t = t' ∧ hh = len ∧ m = cap ∧ 0 < hh - l)) :
    SL g (if m = l then base else base.map (·.add (l * s))) ((ys.drop (l * s)).take ((hh - l) * s)) (hh - l) (m - l) t' := by
  obtain ⟨c1, c2, c3, c4⟩ := h
  have hlen : ((ys.drop (l * s)).take ((hh - l) * s)).length = (hh - l) * s := by
    rw [List.length_take, List.length_drop, hy, ← Nat.sub_mul]
    exact Nat.min_eq_left (Nat.mul_le_mul_right _ (by omega))
  have hne : (ys.drop (l * s)).take ((hh - l) * s) ≠ [] → l < hh ∧ 0 < s := by
    intro h
    have : 0 < (hh - l) * s := by rw [← hlen]; exact List.length_pos_iff.2 h
    have := Nat.pos_of_mul_pos_right this
    have := Nat.pos_of_mul_pos_left (show 0 < (hh - l) * s by assumption)
    omega
  refine ⟨fun e => ?_, fun a e => ?_, fun h => ?_, ?_⟩
  · have hb : base = none := by
      split at e
      · exact e
      · cases base with
        | none => rfl
        | some a => cases e
    have := (c1 hb).2
    have h0 : hh - l = 0 := by omega
    refine ⟨?_, by omega⟩
    apply List.eq_nil_of_length_eq_zero
    rw [hlen, h0]; simp
  · split at e
    · exact c2 a e
    · cases base with
      | none => cases e
      | some a' =>
        have := c2 a' rfl
        obtain ⟨b, o, sp⟩ := a'
        simp only at this; subst this
        simp only [Option.map_some, addr_add, Option.some.injEq] at e
        subst e; rfl
  · obtain ⟨hlt, hs0⟩ := hne h
    have hml : m ≠ l := by omega
    have hy0 : ys ≠ [] := by
      rintro rfl
      simp at h
    obtain ⟨b, o, rfl, hseg⟩ := c3 hy0
    simp only [hml, if_false, Option.map_some, addr_add]
    exact ⟨b, o + l * s, rfl, VRL.of_seg hseg⟩
  · rcases ht with rfl | ⟨rfl, rfl⟩ | ⟨rfl, rfl⟩ | ⟨rfl, rfl, rfl, hp⟩
    · trivial
    · simp only at c4 ⊢
      subst c4; split <;> rfl
    · simp
    · cases t with
      | nil => simp only at c4 ⊢; subst c4; split <;> rfl
      | full => simp only at c4 ⊢; omega
      | dead => trivial
      | room d f p =>
        simp only at c4 ⊢
        obtain ⟨b, o, n, s', rfl, hk, hb, hs', e1, e2⟩ := c4
        have hpos : 0 < hh := by omega
        have hss : s = s' := by
          rw [hy] at e1
          exact Nat.eq_of_mul_eq_mul_left hpos e1
        subst hss
        have hml : m ≠ l := by omega
        refine ⟨b, o + l * s, n, s, ?_, ?_, hb, hs', hlen, ?_⟩
        · simp [hml, addr_add]
        · rw [hlen]
          rw [hy] at hk
          have : o + l * s + (hh - l) * s = o + hh * s := by
            rw [Nat.sub_mul]
            have := Nat.mul_le_mul_right s h1
            omega
          rw [this]; exact hk
        · have : o + l * s + (m - l) * s = o + m * s := by
            rw [Nat.sub_mul]
            have := Nat.mul_le_mul_right s (show l ≤ m by omega)
            omega
          rw [this]; exact e2

theorem sim_slice {t : TypeId} {s : Nat} {e : TypeId} {v r : V} {x : Value} {lo hi mx : Option V} {olo ohi omx : Option Value} (hd : P.underlying t = some (.slice e)) (hs : tSize P e = some s) (h : aSlice s v lo hi mx = some r) (hv : VR g v x)
    (hlo : ORel g lo olo) (hhi : ORel g hi ohi) (hmx : ORel g mx omx) : ∃ z, (Instr.sliceAt t x olo ohi omx).run P w = .ok z w ∧ VR g r z := by
  unfold aSlice at h
  split at h
  · rename_i len cs tk
    split at h
    · rename_i hlen
      simp only [VR] at hv
      obtain ⟨base, cap, ys, rfl, hle, hc, hsl⟩ := hv
      have hy : ys.length = len * s := by rw [hc.length, hlen]
      split at h
      · cases omx with
        | some _ => exact hmx.elim
        | none =>
          split at h
          · rename_i hh hb1
            split at h
            · rename_i ll hb2
              cases h
              obtain ⟨r1, r2, r3⟩ := bounds_plain (P := P) (w := w) hb1 hb2 hlo hhi hle
              refine ⟨_, by simp only [Instr.sliceAt, Sem.run_bind, run_under hd, Result.andThen_ok, Instr.slice, r1, run_size hs, Sem.run_pure]; rfl, ?_⟩
              simp only [VR]
              refine ⟨_, _, _, rfl, by omega, (hc.drop).take, hsl.sub hy hle r2 r3 (by omega) (Nat.le_refl _) ?_⟩
              unfold tokCut
              split
              · exact .inr (.inl ⟨rfl, rfl⟩)
              · split
                · rename_i he; subst he
                  have hcap : cap = hh := hsl.2.2.2
                  exact .inr (.inr (.inl ⟨rfl, hcap⟩))
                · exact .inl rfl
              · exact .inl rfl
              · split
                · rename_i he; exact .inr (.inr (.inr ⟨rfl, he.1, rfl, he.2⟩))
                · exact .inl rfl
            · cases h
          · cases h
      · rename_i m
        cases omx with
        | none => exact hmx.elim
        | some om =>
          split at h
          · cases h
          · rename_i hv1
            cases ohi with
            | none => exact hhi.elim
            | some oh =>
              split at h
              · rename_i mm hb0
                split at h
                · rename_i hh hb1
                  split at h
                  · rename_i ll hb2
                    cases h
                    obtain ⟨r1, r2, r3, r4⟩ := bounds_max (P := P) (w := w) hb0 hb1 hb2 hmx hlo hhi hle
                    refine ⟨_, by simp only [Instr.sliceAt, Sem.run_bind, run_under hd, Result.andThen_ok, Instr.slice, r1, run_size hs, Sem.run_pure]; rfl, ?_⟩
                    simp only [VR]
                    refine ⟨_, _, _, rfl, by omega, (hc.drop).take, hsl.sub hy hle r2 (by omega) r3 (by omega) ?_⟩
                    cases tk with
                    | nil => exact .inr (.inl ⟨rfl, rfl⟩)
                    | full => by_cases he : mm = hh <;> simp [he]
                    | dead => by_cases he : mm = hh <;> simp [he]
                    | room _ _ _ => by_cases he : mm = hh <;> simp [he]
                  · cases h
                · cases h
              · cases h
    · cases h
  · rename_i d i off len s'
    split at h
    · rename_i hss; subst hss
      simp only [VR] at hv
      obtain ⟨b, cap, n, hρ, rfl, hle, hB, hn⟩ := hv
      split at h
      · cases omx with
        | some _ => exact hmx.elim
        | none =>
          split at h
          · rename_i hh hb1
            split at h
            · rename_i ll hb2
              obtain ⟨r1, r2, r3⟩ := bounds_plain (P := P) (w := w) hb1 hb2 hlo hhi hle
              refine ⟨_, by simp only [Instr.sliceAt, Sem.run_bind, run_under hd, Result.andThen_ok, Instr.slice, r1, run_size hs, Sem.run_pure]; rfl, ?_⟩
              split at h
              · rename_i hlt
                cases h
                have : cap ≠ ll := by omega
                simp only [VR, this, if_false, Option.map_some, addr_add]
                refine ⟨b, cap - ll, n, hρ, rfl, by omega, hB, ?_⟩
                have : off + ll * s' + (cap - ll) * s' = off + cap * s' := by
                  rw [Nat.sub_mul]
                  have := Nat.mul_le_mul_right s' (show ll ≤ cap by omega)
                  omega
                omega
              · rename_i hge
                cases h
                have : hh - ll = 0 := by omega
                simp only [VR, this]
                refine ⟨_, _, [], rfl, by omega, VRL.nil _, ⟨fun e => ?_, fun a e => ?_, fun h => (h rfl).elim, trivial⟩⟩
                · split at e <;> cases e
                · split at e <;> cases e <;> simp [addr_add]
            · cases h
          · cases h
      · rename_i m
        cases omx with
        | none => exact hmx.elim
        | some om =>
          split at h
          · cases h
          · rename_i hv1
            cases ohi with
            | none => exact hhi.elim
            | some oh =>
              split at h
              · rename_i mm hb0
                split at h
                · rename_i hh hb1
                  split at h
                  · rename_i ll hb2
                    obtain ⟨r1, r2, r3, r4⟩ := bounds_max (P := P) (w := w) hb0 hb1 hb2 hmx hlo hhi hle
                    split at h
                    · cases h
                    · cases h
                      refine ⟨_, by simp only [Instr.sliceAt, Sem.run_bind, run_under hd, Result.andThen_ok, Instr.slice, r1, run_size hs, Sem.run_pure]; rfl, ?_⟩
                      have : hh - ll = 0 := by omega
                      simp only [VR, this]
                      refine ⟨_, _, [], rfl, by omega, VRL.nil _, ⟨fun e => ?_, fun a e => ?_, fun h => (h rfl).elim, ?_⟩⟩
                      · split at e <;> cases e
                      · split at e <;> cases e <;> simp [addr_add]
                      · by_cases he : mm = hh
                        · simp [he]; omega
                        · simp [he]
                  · cases h
                · cases h
              · cases h
    · cases h
  · cases h
end

end Go.Abs
