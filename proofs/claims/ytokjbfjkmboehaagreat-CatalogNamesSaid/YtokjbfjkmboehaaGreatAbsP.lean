/- Each operation that hangs on its operands alone: the model's run and the abstract interpreter's. -/
import Derived.Test.YtokjbfjkmboehaaGreatAbsO
import Derived.Laws.StructEq
set_option linter.unusedVariables false
set_option linter.unusedSimpArgs false
namespace Go.Abs
open Go.RowKit

section
variable {P : Program} {w0 w : World} {D : Nat} {g : Gh} {H : Hp}

theorem tPlaces_spec {t : TypeId} : ∀ {parts : List (Nat × Operand)} {ps : List (Nat × Nat × Operand)}, tPlaces P t parts = some ps →
    ps.length = parts.length ∧ ∀ (j off n : Nat) (x : Operand), ps[j]? = some (off, n, x) → ∃ i, parts[j]? = some (i, x) ∧
      ((∃ fs f, P.underlying t = some (.struct fs) ∧ fs[i]? = some f ∧ tSize P f.type = some n ∧ off = f.offset) ∨
       (∃ l e, P.underlying t = some (.array l e) ∧ tSize P e = some n ∧ off = i * n) ∨
       (∃ e, P.underlying t = some (.slice e) ∧ tSize P e = some n ∧ off = i * n))
  | [], ps, h => by
    simp only [tPlaces, Option.some.injEq] at h; subst h
    exact ⟨rfl, fun j off n x hj => by simp at hj⟩
  | (i, x) :: rest, ps, h => by
    simp only [tPlaces] at h
    split at h
    · rename_i off n hpl
      split at h
      · rename_i r hr
        cases h
        obtain ⟨h1, h2⟩ := tPlaces_spec hr
        refine ⟨by simp [h1], fun j off' n' x' hj => ?_⟩
        cases j with
        | zero =>
          simp only [List.getElem?_cons_zero, Option.some.injEq, Prod.mk.injEq] at hj
          obtain ⟨rfl, rfl, rfl⟩ := hj
          refine ⟨i, by simp, ?_⟩
          split at hpl
          · rename_i fs hu
            split at hpl
            · rename_i f hf
              split at hpl
              · rename_i m hm; cases hpl; exact .inl ⟨fs, f, hu, hf, hm, rfl⟩
              · cases hpl
            · cases hpl
          · rename_i l e hu
            split at hpl
            · rename_i m hm; cases hpl; exact .inr (.inl ⟨l, e, hu, hm, rfl⟩)
            · cases hpl
          · rename_i e hu
            split at hpl
            · rename_i m hm; cases hpl; exact .inr (.inr ⟨e, hu, hm, rfl⟩)
            · cases hpl
          · cases hpl
        | succ j =>
          obtain ⟨i', h3, h4⟩ := h2 j off' n' x' (by simpa using hj)
          exact ⟨i', by simpa using h3, h4⟩
      · cases h
    · cases h

theorem run_mapM_fields {w : World} : ∀ (fs : List Field), (fs.all fun f => (tSize P f.type).isSome) = true →
    (fs.mapM fun f => (do pure (f.offset, ← sizeOf f.type) : Sem (Nat × Nat))).run P w = .ok (fs.map fun f => (f.offset, (tSize P f.type).getD 0)) w
  | [], _ => by simp
  | f :: fs, h => by
    simp only [List.all_cons, Bool.and_eq_true] at h
    obtain ⟨n, hn⟩ := Option.isSome_iff_exists.1 h.1
    have := run_mapM_fields (w := w) fs h.2
    simp only [List.mapM_cons, Sem.run_bind, run_size hn, Result.andThen_ok, Sem.run_pure, this, List.map_cons, hn, Option.getD_some]

/-- The operands of parts, in the model and here. -/
theorem parts_rel {T : List V} {a : Act} (hT : TR g T a.tmps) {t : TypeId} {parts : Array (Nat × Operand)} {ps : List (Nat × Nat × Operand)} (h : tPlaces P t parts.toList = some ps)
    (place : Nat → Option (Nat × Nat))
    (hpl : ∀ (i off n : Nat), ((∃ fs f, P.underlying t = some (.struct fs) ∧ fs[i]? = some f ∧ tSize P f.type = some n ∧ off = f.offset) ∨
       (∃ l e, P.underlying t = some (.array l e) ∧ tSize P e = some n ∧ off = i * n) ∨
       (∃ e, P.underlying t = some (.slice e) ∧ tSize P e = some n ∧ off = i * n)) → place i = some (off, n)) :
    (∀ (j : Nat) (off n : Nat) (v : V), (ps.map fun x => (x.1, x.2.1, aEval T x.2.2))[j]? = some (off, n, v) →
      ∃ i x, (parts.map fun (i, x) => (i, a.eval x)).toList[j]? = some (i, x) ∧ place i = some (off, n) ∧ VR g v x) ∧
    (parts.map fun (i, x) => (i, a.eval x)).toList.length = (ps.map fun x => (x.1, x.2.1, aEval T x.2.2)).length := by
  obtain ⟨h1, h2⟩ := tPlaces_spec h
  refine ⟨fun j off n v hj => ?_, by simp at h1 ⊢; omega⟩
  rw [List.getElem?_map] at hj
  cases hx : ps[j]? with
  | none => simp [hx] at hj
  | some y =>
    obtain ⟨off', n', x⟩ := y
    simp only [hx, Option.map_some, Option.some.injEq, Prod.mk.injEq] at hj
    obtain ⟨rfl, rfl, rfl⟩ := hj
    obtain ⟨i, h3, h4⟩ := h2 j off' n' x hx
    refine ⟨i, a.eval x, ?_, hpl i off' n' h4, hT.eval x⟩
    simp only [Array.toList_map, List.getElem?_map, h3, Option.map_some]

theorem sim_build {T : List V} {a : Act} (hT : TR g T a.tmps) {t : TypeId} {parts : Array (Nat × Operand)} {z v : V} {ps : List (Nat × Nat × Operand)} (hf : tFields P t = true) (hz : tZero P t = some z)
    (hps : tPlaces P t parts.toList = some ps) (hv : pBuild z.cells (ps.map fun x => (x.1, x.2.1, aEval T x.2.2)) = some v) :
    ∃ x, (Instr.build t (parts.map fun (i, x) => (i, a.eval x))).run P w = .ok x w ∧ VR g v x := by
  unfold pBuild at hv
  split at hv
  · rename_i cs hb
    cases hv
    obtain ⟨c, rfl, hrz⟩ := run_zero (w := w) hz
    unfold tFields at hf
    split at hf
    · rename_i fs hu
      obtain ⟨p1, p2⟩ := parts_rel hT hps ((fs.toList.map fun f => (f.offset, (tSize P f.type).getD 0)).toArray[·]?) (fun i off n hc => by
        rcases hc with ⟨fs', f, e, hi, hn, rfl⟩ | ⟨l, e, h1, _⟩ | ⟨e, h1, _⟩
        · rw [hu] at e; cases e
          have : fs.toList[i]? = some f := by simpa using hi
          simp [this, hn, hi]
        · rw [hu] at h1; cases h1
        · rw [hu] at h1; cases h1)
      obtain ⟨ys', hfill, hr⟩ := sim_fill ((fs.toList.map fun f => (f.offset, (tSize P f.type).getD 0)).toArray[·]?) (ofConst_cells g c) hb p1 p2
      refine ⟨.agg ⟨ys'⟩, ?_, by simp only [VR]; exact ⟨ys', rfl, hr⟩⟩
      have hm : (fs.mapM fun f => (do pure (f.offset, ← sizeOf f.type) : Sem (Nat × Nat))).run P w = .ok (fs.toList.map fun f => (f.offset, (tSize P f.type).getD 0)).toArray w := by
        rw [Array.mapM_eq_mapM_toList, Sem.run_map, run_mapM_fields _ hf]; rfl
      simp only [Instr.build, Sem.run_bind, hrz, Result.andThen_ok, Sem.run_pure, run_under hu, hm]
      rw [show (⟨c.cells.toList⟩ : Array Value) = c.cells from rfl] at hfill
      simp only [hfill, Sem.run_pure]
    · rename_i l e hu
      obtain ⟨n, hn⟩ := Option.isSome_iff_exists.1 hf
      obtain ⟨p1, p2⟩ := parts_rel hT hps (fun i => some (i * n, n)) (fun i off m hc => by
        rcases hc with ⟨fs', f, e, hi, _⟩ | ⟨l, e', h1, h2, rfl⟩ | ⟨e, h1, _⟩
        · rw [hu] at e; cases e
        · rw [hu] at h1; cases h1; rw [hn] at h2; cases h2; rfl
        · rw [hu] at h1; cases h1)
      obtain ⟨ys', hfill, hr⟩ := sim_fill (fun i => some (i * n, n)) (ofConst_cells g c) hb p1 p2
      refine ⟨.agg ⟨ys'⟩, ?_, by simp only [VR]; exact ⟨ys', rfl, hr⟩⟩
      rw [show (⟨c.cells.toList⟩ : Array Value) = c.cells from rfl] at hfill
      simp only [Instr.build, Sem.run_bind, hrz, Result.andThen_ok, Sem.run_pure, run_under hu, run_size hn]
      simp only [hfill, Sem.run_pure]
    · cases hf
  · cases hv

/-! ### New memory -/

theorem fzOK_zero (n : Nat) : fzOK (0, 0) n := fun o _ h => by simp at h

/-- A slice whose cells are new, and are never written. -/
theorem newSl {cs : List V} {ys zs : List Value} (h : Rel w0 D g H w) (hc : VRL (g.restr 0) cs ys) (ty : TypeId) (fz : Nat × Nat) (len cap : Nat) (hl : len ≤ cap) (t : Tok) (ht : t = .dead ∨ (t = .full ∧ cap = len)) :
    ∃ g', VR g' (.sl len cs t) (.slice (some ⟨w.heap.size, 0, none⟩) len cap) ∧ Rel w0 D g' H (w.alloc (.cells ⟨ys ++ zs⟩ ty fz)) ∧ Grow g g' H := by
  obtain ⟨hr, hle⟩ := h.commit ys zs ty fz
  refine ⟨_, ?_, hr, Grow.of_ρ hle (fun _ _ => rfl)⟩
  simp only [VR]
  refine ⟨_, _, ys, rfl, hl, hc.mono (hle.restr 0), ⟨(fun e => by cases e), (fun a e => by cases e; rfl), (fun _ => ⟨_, _, rfl, Gh.addΦ_seg _ _ _ _⟩), ?_⟩⟩
  rcases ht with rfl | ⟨rfl, e⟩
  · trivial
  · exact e

theorem rep_rel {z : List V} {zs : List Value} {g : Gh} (h : VRL g z zs) : ∀ n, VRL g (rep z n) (List.replicate n zs).flatten
  | 0 => by simp [rep, VRL]
  | n + 1 => by simp only [rep, List.replicate_succ, List.flatten_cons]; exact h.append (rep_rel h n)

/-- The model's way to say 'n times these cells'. -/
theorem range_map_rep (zs : Array Value) (n : Nat) : (Array.range (n * zs.size)).map (fun i => zs[i % zs.size]!) = ⟨(List.replicate n zs.toList).flatten⟩ := by
  apply Array.toList_inj.1
  simp only [Array.toList_map, Array.toList_range]
  induction n with
  | zero => simp
  | succ n ih =>
    rw [Nat.succ_mul, List.range_add, List.map_append, ih, List.replicate_succ', List.flatten_append]
    congr 1
    simp only [List.flatten_cons, List.flatten_nil, List.append_nil, List.map_map]
    apply List.ext_getElem
    · simp
    · intro i h1 h2
      simp at h1
      simp [Nat.mul_comm n, Nat.add_mul_mod_self_left, Nat.mod_eq_of_lt h1, h1]

theorem tZ_spec {t : TypeId} {z : List V} (h : tZ P t = some z) (w : World) : ∃ c, z = (ofConst c).cells ∧ (zeroValue t).run P w = .ok c w ∧ tSize P t = some z.length ∧ c.cells.size = z.length := by
  unfold tZ at h
  split at h
  · rename_i zv hz
    split at h
    · rename_i n hn
      split at h
      · rename_i hd
        cases h
        obtain ⟨c, rfl, hr⟩ := run_zero (w := w) hz
        have hd' := of_decide_eq_true hd
        have := (ofConst_cells ⟨fun _ _ => none, fun _ => none, fun _ _ _ => none, fun _ => none⟩ c).length
        rw [Array.length_toList] at this
        exact ⟨c, rfl, hr, by rw [hn, hd'], this⟩
      · cases h
    · cases h
  · cases h

theorem sim_buildSlice {T : List V} {a : Act} (h : Rel w0 D g H w) (hT : TR g T a.tmps) {t e : TypeId} {len : Nat} {parts : Array (Nat × Operand)} {z : List V} {v : V} {ps : List (Nat × Nat × Operand)} (hu : P.underlying t = some (.slice e)) (hz : tZ P e = some z)
    (hps : tPlaces P t parts.toList = some ps) (hlim : len * z.length ≤ 16777216) (hv : pBuildSl len z (ps.map fun x => (x.1, x.2.1, aEval T x.2.2)) = some v) :
    ∃ x g' w', (Instr.buildSlice t len (parts.map fun (i, x) => (i, a.eval x))).run P w = .ok x w' ∧ VR g' v x ∧ Rel w0 D g' H w' ∧ Grow g g' H := by
  unfold pBuildSl at hv
  split at hv
  · rename_i cs hb
    split at hv
    · rename_i cs' hfit
      cases hv
      obtain ⟨c, hzc, hrz, hsz, hcs⟩ := tZ_spec hz w
      have hz0 : VRL g z c.cells.toList := by rw [hzc]; exact ofConst_cells g c
      obtain ⟨p1, p2⟩ := parts_rel hT hps (fun i => some (i * z.length, z.length)) (fun i off m hc => by
        rcases hc with ⟨fs', f, e', hi, _⟩ | ⟨l, e', h1, _⟩ | ⟨e', h1, h2, rfl⟩
        · rw [hu] at e'; cases e'
        · rw [hu] at h1; cases h1
        · rw [hu] at h1; cases h1; rw [hsz] at h2; cases h2; rfl)
      obtain ⟨ys', hfill, hr⟩ := sim_fill (fun i => some (i * z.length, z.length)) (rep_rel hz0 len) hb p1 p2
      obtain ⟨g', hvr, hrel, hg⟩ := newSl (zs := []) h (VRL.fit hfit hr) e (0, 0) len len (Nat.le_refl _) .full (.inr ⟨rfl, rfl⟩)
      refine ⟨_, g', _, ?_, hvr, hrel, hg⟩
      have hlim' : ¬ (len * z.length > 2 ^ 24) := by omega
      have hrep : (Array.range (len * z.length)).map (fun i => (if len * z.length = 0 then (#[] : Array Value) else c.cells)[i % (if len * z.length = 0 then (#[] : Array Value) else c.cells).size]!) = ⟨(List.replicate len c.cells.toList).flatten⟩ := by
        by_cases h0 : len * z.length = 0
        · have : (List.replicate len c.cells.toList).flatten = [] := by
            apply List.eq_nil_of_length_eq_zero
            simp [List.length_flatten, hcs, h0]
          simp [h0, this]
        · simp only [h0, if_false]
          rw [← hcs]; exact range_map_rep _ _
      have hzr : (if len * z.length = 0 then (pure #[] : Sem (Array Value)) else do pure (← zeroValue e).cells).run P w = .ok (if len * z.length = 0 then #[] else c.cells) w := by
        split <;> simp [hrz]
      simp only [Instr.buildSlice, Sem.run_bind, run_under hu, Result.andThen_ok, run_size hsz, Sem.run_ite, hlim', if_false, Sem.run_pure]
      split
      · rename_i h0
        simp only [if_pos h0] at hrep
        simp only [Result.andThen_ok, hrep, hfill, newRow, Sem.run_bind, run_newObj, Sem.run_pure]
        rw [List.append_nil]; rfl
      · rename_i h0
        simp only [if_neg h0] at hrep
        simp only [hrz, Result.andThen_ok, Sem.run_pure, hrep, hfill, newRow, Sem.run_bind, run_newObj]
        rw [List.append_nil]; rfl
    · cases hv
  · cases hv

/-! ### Numbers -/

theorem wrap_eq (k : IntKind) (n : Int) : wrap k n = k.wrap n := by
  cases k <;> simp only [wrap]
  · split
    · rename_i h
      simp only [IntKind.wrap, IntKind.signed, IntKind.bits]
      simp
      split <;> omega
    · rfl
  all_goals (simp only [IntKind.wrap, IntKind.signed, IntKind.bits]; simp)

theorem toList_bytes (s : List UInt8) : (⟨⟨s⟩⟩ : ByteArray).data.toList = s := rfl

theorem byteArray_toList (s : List UInt8) : (⟨⟨s⟩⟩ : ByteArray).toList = s := by
  have key : ∀ (n i : Nat) (acc : List UInt8), s.length - i = n → ByteArray.toList.loop ⟨⟨s⟩⟩ i acc = acc.reverse ++ s.drop i := by
    intro n
    induction n with
    | zero =>
      intro i acc h
      unfold ByteArray.toList.loop
      have : ¬ i < (⟨⟨s⟩⟩ : ByteArray).size := by show ¬ i < s.length; omega
      simp [this, List.drop_eq_nil_of_le (show s.length ≤ i by omega)]
    | succ n ih =>
      intro i acc h
      unfold ByteArray.toList.loop
      have h1 : i < s.length := by omega
      have : i < (⟨⟨s⟩⟩ : ByteArray).size := h1
      simp only [this, if_true]
      rw [ih (i + 1) _ (by omega)]
      have e : (⟨⟨s⟩⟩ : ByteArray).get! i = s[i] := by
        show (⟨s⟩ : Array UInt8)[i]! = s[i]
        simp [h1]
      rw [e, List.reverse_cons, List.append_assoc, List.singleton_append, ← List.drop_eq_getElem_cons h1]
  have := key s.length 0 [] (by omega)
  unfold ByteArray.toList
  rw [this]; simp

theorem bytesLess_eq : ∀ (a b : List UInt8), bytesLess a b = Op.bytesLess a b
  | _, [] => by cases ‹List UInt8› <;> rfl
  | [], _ :: _ => rfl
  | a :: x, b :: y => by simp only [bytesLess, Op.bytesLess, bytesLess_eq x y]

theorem modOf_eq (k : IntKind) : modOf k = 2 ^ k.bits := by cases k <;> rfl
theorem ofInt_toNat (k : IntKind) (x : Int) : (BitVec.ofInt k.bits x).toNat = (x % modOf k).toNat := by
  rw [BitVec.toNat_ofInt, modOf_eq]; norm_cast
theorem sim_bits {op : BinOp} {k : IntKind} {a b c : Int} (h : bitOp op k a b = some c) : (Op.intBits op k a b).run P w = .ok (.int k c) w := by
  cases op <;> simp only [bitOp] at h <;> cases h <;>
    simp only [Op.intBits, Sem.run_pure, wrap_eq, BitVec.toNat_and, BitVec.toNat_or, BitVec.toNat_xor, ofInt_toNat]

theorem sim_binInt {op : BinOp} {t : TypeId} {k : IntKind} {a b : Int} {v : V} (h : aBinInt op k a b = some v) : ∃ x, (binOp op t (.int k a) (.int k b)).run P w = .ok x w ∧ VR g v x := by
  cases op <;> simp only [aBinInt] at h
  case shl => simp only [bitOp] at h; cases h
  case shr => simp only [bitOp] at h; cases h
  case andNot => simp only [bitOp] at h; cases h
  case eql => simp only [bitOp] at h; cases h
  case neq => simp only [bitOp] at h; cases h
  case add => cases h; exact ⟨_, by simp [binOp, Op.intArith]; rfl, by simp [VR, wrap_eq]⟩
  case sub => cases h; exact ⟨_, by simp [binOp, Op.intArith]; rfl, by simp [VR, wrap_eq]⟩
  case mul => cases h; exact ⟨_, by simp [binOp, Op.intArith]; rfl, by simp [VR, wrap_eq]⟩
  case quo =>
    split at h
    · cases h
    · rename_i hb; cases h; exact ⟨_, by simp [binOp, Op.intDiv, hb]; rfl, by simp [VR, wrap_eq]⟩
  case rem =>
    split at h
    · cases h
    · rename_i hb; cases h; exact ⟨_, by simp [binOp, Op.intDiv, hb]; rfl, by simp [VR]⟩
  case lss => cases h; exact ⟨_, by simp [binOp, Op.intCmp]; rfl, by simp [VR]⟩
  case leq => cases h; exact ⟨_, by simp [binOp, Op.intCmp]; rfl, by simp [VR]⟩
  case gtr => cases h; exact ⟨_, by simp [binOp, Op.intCmp]; rfl, by simp [VR]⟩
  case geq => cases h; exact ⟨_, by simp [binOp, Op.intCmp]; rfl, by simp [VR]⟩
  case and =>
    cases hb : bitOp .and k a b with
    | none => rw [hb] at h; cases h
    | some c => rw [hb] at h; cases h; exact ⟨_, by simp [binOp, sim_bits hb]; rfl, by simp [VR]⟩
  case or =>
    cases hb : bitOp .or k a b with
    | none => rw [hb] at h; cases h
    | some c => rw [hb] at h; cases h; exact ⟨_, by simp [binOp, sim_bits hb]; rfl, by simp [VR]⟩
  case xor =>
    cases hb : bitOp .xor k a b with
    | none => rw [hb] at h; cases h
    | some c => rw [hb] at h; cases h; exact ⟨_, by simp [binOp, sim_bits hb]; rfl, by simp [VR]⟩


/-! ### Comparisons -/

theorem eqCells_append : ∀ {ks ks' : List PK} {a a' b b' : List V} {r : Bool}, a.length = ks.length → a'.length = ks.length → eqCells (ks ++ ks') (a ++ b) (a' ++ b') = some r →
    (eqCells ks a a' = some false ∧ r = false) ∨ (eqCells ks a a' = some true ∧ eqCells ks' b b' = some r)
  | [], _, [], [], b, b', r, _, _, h => .inr ⟨rfl, h⟩
  | k :: ks, ks', x :: a, y :: a', b, b', r, hl, hl', h => by
    have hl1 : a.length = ks.length := by simpa using hl
    have hl2 : a'.length = ks.length := by simpa using hl'
    have ih := @eqCells_append ks ks' a a' b b' r hl1 hl2
    simp only [List.cons_append, eqCells] at h ⊢
    cases k <;> simp only at h ⊢
    all_goals
      split at h
      all_goals first
        | (cases h; done)
        | (try simp only
           first
             | (split at h
                · rename_i hk
                  split at h
                  · rename_i hx; simpa [hk, hx] using ih h
                  · rename_i hx; cases h; simp [hk, hx]
                · cases h; done)
             | (split at h
                · rename_i hx; simpa [hx] using ih h
                · rename_i hx; cases h; simp [hx]))
  | [], _, _ :: _, _, _, _, _, hl, _, _ => by simp at hl
  | [], _, [], _ :: _, _, _, _, _, hl, _ => by simp at hl
  | _ :: _, _, [], _, _, _, _, hl, _, _ => by simp at hl
  | _ :: _, _, _ :: _, [], _, _, _, _, hl, _ => by simp at hl

theorem eqCells_len : ∀ {ks : List PK} {a b : List V}, eqCells ks a b = some true → a.length = ks.length ∧ b.length = ks.length
  | [], [], [], _ => ⟨rfl, rfl⟩
  | k :: ks, x :: a, y :: b, h => by
    have ih := @eqCells_len ks a b
    simp only [eqCells] at h
    cases k <;> simp only at h
    all_goals
      split at h
      all_goals first
        | (cases h; done)
        | (first
             | (split at h
                · split at h
                  · have := ih h; simp [this]
                  · cases h
                · cases h; done)
             | (split at h
                · have := ih h; simp [this]
                · cases h))
  | [], [], _ :: _, h => by simp [eqCells] at h
  | [], _ :: _, _, h => by simp [eqCells] at h
  | _ :: _, [], _, h => by simp [eqCells] at h
  | _ :: _, _ :: _, [], h => by simp [eqCells] at h

theorem kindsT_size {d : Nat} {t : TypeId} {ks : List PK} (h : kindsT P d t = some ks) : tSize P t = some ks.length := by
  cases d with
  | zero => simp [kindsT] at h
  | succ d =>
    simp only [kindsT] at h
    split at h
    · cases h
    · rename_i n hn
      split at h
      · split at h
        · rename_i hd; cases h; simpa [of_decide_eq_true hd] using hn
        · cases h
      · split at h
        · rename_i hd; cases h; simpa [of_decide_eq_true hd] using hn
        · cases h
      · split at h
        · rename_i hd; cases h; simpa [of_decide_eq_true hd] using hn
        · cases h
      · split at h
        · cases h
        · split at h
          · split at h
            · rename_i hd; cases h; rw [hn, of_decide_eq_true hd]
            · cases h
          · cases h
      · cases h

/-- '==' on a type whose cells are all plain is cell by cell. -/
theorem flat_fields {g : Gh} (d : Nat) (ih : ∀ (t : TypeId) (ks : List PK) (cs ds : List V) (xs ys : List Value) (r : Bool) (off : Nat), kindsT P d t = some ks → VRL g cs xs → VRL g ds ys →
      off + ks.length ≤ cs.length → off + ks.length ≤ ds.length → eqCells ks ((cs.drop off).take ks.length) ((ds.drop off).take ks.length) = some r →
      ∃ x y, (part t ⟨xs⟩ off).run P w = .ok x w ∧ (part t ⟨ys⟩ off).run P w = .ok y w ∧ ∀ D, d ≤ D → (Op.equalIn D t x y).run P w = .ok r w) :
    ∀ (fs : List Field) (off : Nat) (ks : List PK) (cs ds : List V) (xs ys : List Value) (r : Bool), kindsFs P (kindsT P d) fs off = some ks → VRL g cs xs → VRL g ds ys → cs.length = off + ks.length → ds.length = off + ks.length →
      eqCells ks (cs.drop off) (ds.drop off) = some r → ∀ D, d ≤ D → (Op.eqFields D ⟨xs⟩ ⟨ys⟩ fs).run P w = .ok r w
  | [], off, ks, cs, ds, xs, ys, r, hf, hc, hd, h1, h2, he, D, hD => by
    simp only [kindsFs, Option.some.injEq] at hf
    subst hf
    rw [List.drop_eq_nil_of_le (by simp at h1; omega), List.drop_eq_nil_of_le (by simp at h2; omega)] at he
    simp only [eqCells, Option.some.injEq] at he; subst he
    simp [Op.eqFields]
  | f :: fs, off, ks, cs, ds, xs, ys, r, hf, hc, hd, h1, h2, he, D, hD => by
    simp only [kindsFs] at hf
    split at hf
    · rename_i hname
      simp only [Bool.and_eq_true, bne_iff_ne, ne_eq, beq_iff_eq] at hname
      obtain ⟨hname, hoff⟩ := hname
      subst hoff
      split at hf
      · rename_i k1 hk1
        split at hf
        · rename_i k2 hk2
          cases hf
          rw [List.length_append] at h1 h2
          have e1 : cs.drop f.offset = (cs.drop f.offset).take k1.length ++ cs.drop (f.offset + k1.length) := by rw [← List.drop_drop]; exact (List.take_append_drop _ _).symm
          have e2 : ds.drop f.offset = (ds.drop f.offset).take k1.length ++ ds.drop (f.offset + k1.length) := by rw [← List.drop_drop]; exact (List.take_append_drop _ _).symm
          rw [e1, e2] at he
          have hk := eqCells_append (by simp; omega) (by simp; omega) he
          simp only [Op.eqFields, ne_eq, hname, not_false_eq_true, if_true, Sem.run_bind]
          rcases hk with ⟨ha, rfl⟩ | ⟨ha, hb⟩
          · obtain ⟨x, y, r1, r2, r3⟩ := ih f.type k1 cs ds xs ys false f.offset hk1 hc hd (by omega) (by omega) ha
            simp [r1, r2, r3 D hD]
          · obtain ⟨x, y, r1, r2, r3⟩ := ih f.type k1 cs ds xs ys true f.offset hk1 hc hd (by omega) (by omega) ha
            simp only [r1, Result.andThen_ok, r2, r3 D hD, Bool.not_true, Bool.false_eq_true, if_false]
            exact flat_fields d ih fs (f.offset + k1.length) k2 cs ds xs ys r hk2 hc hd (by omega) (by omega) hb D hD
        · cases hf
      · cases hf
    · cases hf

theorem flat_equal {g : Gh} : ∀ (d : Nat) (t : TypeId) (ks : List PK) (cs ds : List V) (xs ys : List Value) (r : Bool) (off : Nat), kindsT P d t = some ks → VRL g cs xs → VRL g ds ys →
      off + ks.length ≤ cs.length → off + ks.length ≤ ds.length → eqCells ks ((cs.drop off).take ks.length) ((ds.drop off).take ks.length) = some r →
      ∃ x y, (part t ⟨xs⟩ off).run P w = .ok x w ∧ (part t ⟨ys⟩ off).run P w = .ok y w ∧ ∀ D, d ≤ D → (Op.equalIn D t x y).run P w = .ok r w
  | 0, t, n, cs, ds, xs, ys, r, off, hf, _, _, _, _, _ => by simp [kindsT] at hf
  | d + 1, t, ks, cs, ds, xs, ys, r, off, hf, hc, hd, h1, h2, he => by
    have hsz := kindsT_size hf
    have basic : ∀ k, ks = [k] → (∃ x y, cs[off]? = some x ∧ ds[off]? = some y ∧ eqCells [k] [x] [y] = some r) := by
      rintro k rfl
      have l1 : off < cs.length := by simp at h1; omega
      have l2 : off < ds.length := by simp at h2; omega
      refine ⟨cs[off], ds[off], by simp [l1], by simp [l2], ?_⟩
      rw [List.drop_eq_getElem_cons l1, List.drop_eq_getElem_cons l2] at he
      simpa only [List.length_singleton, List.take_succ_cons, List.take_zero] using he
    simp only [kindsT, hsz] at hf
    split at hf
    · rename_i hu
      have ha : tAgg P t = some false := by simp [tAgg, hu]
      split at hf
      · cases hf
        obtain ⟨u, v, hu1, hv1, hone⟩ := basic _ rfl
        obtain ⟨x, hx, hxr⟩ := hc.get hu1
        obtain ⟨y, hy, hyr⟩ := hd.get hv1
        refine ⟨x, y, by simp [part, run_agg ha, hx], by simp [part, run_agg ha, hy], fun D hD => ?_⟩
        obtain ⟨D, rfl⟩ : ∃ k, D = k + 1 := ⟨D - 1, by omega⟩
        simp only [eqCells] at hone
        split at hone
        · rename_i a b
          simp only [VR] at hxr hyr; subst hxr; subst hyr
          rw [run_equalIn_bool' _ _ _ _ _ hu]
          split at hone <;> cases hone <;> simp [*]
        · cases hone
      · cases hf
    · rename_i kk hu
      have ha : tAgg P t = some false := by simp [tAgg, hu]
      split at hf
      · cases hf
        obtain ⟨u, v, hu1, hv1, hone⟩ := basic _ rfl
        obtain ⟨x, hx, hxr⟩ := hc.get hu1
        obtain ⟨y, hy, hyr⟩ := hd.get hv1
        refine ⟨x, y, by simp [part, run_agg ha, hx], by simp [part, run_agg ha, hy], fun D hD => ?_⟩
        obtain ⟨D, rfl⟩ : ∃ k, D = k + 1 := ⟨D - 1, by omega⟩
        simp only [eqCells] at hone
        split at hone
        · rename_i k1 a k2 b
          simp only [VR] at hxr hyr; subst hxr; subst hyr
          split at hone
          · rename_i hk; subst hk
            rw [run_equalIn_int _ _ _ _ _ _ _ hu]
            split at hone <;> cases hone <;> simp [*]
          · cases hone
        · cases hone
      · cases hf
    · rename_i hu
      have ha : tAgg P t = some false := by simp [tAgg, hu]
      split at hf
      · cases hf
        obtain ⟨u, v, hu1, hv1, hone⟩ := basic _ rfl
        obtain ⟨x, hx, hxr⟩ := hc.get hu1
        obtain ⟨y, hy, hyr⟩ := hd.get hv1
        refine ⟨x, y, by simp [part, run_agg ha, hx], by simp [part, run_agg ha, hy], fun D hD => ?_⟩
        obtain ⟨D, rfl⟩ : ∃ k, D = k + 1 := ⟨D - 1, by omega⟩
        simp only [eqCells] at hone
        split at hone
        · rename_i a b
          simp only [VR] at hxr hyr; subst hxr; subst hyr
          rw [run_equalIn_string _ _ _ _ _ hu, byteArray_toList, byteArray_toList]
          split at hone <;> cases hone <;> simp [*]
        · cases hone
      · cases hf
    · rename_i fs hu
      have ha : tAgg P t = some true := by simp [tAgg, hu]
      split at hf
      · cases hf
      · rename_i hst
        split at hf
        · rename_i ks' hfs
          split at hf
          · cases hf
            refine ⟨.agg ⟨(xs.drop off).take ks.length⟩, .agg ⟨(ys.drop off).take ks.length⟩, ?_, ?_, fun D hD => ?_⟩
            · simp [part, run_agg ha, run_size hsz, List.extract_eq_take_drop]
            · simp [part, run_agg ha, run_size hsz, List.extract_eq_take_drop]
            · obtain ⟨D, rfl⟩ : ∃ k, D = k + 1 := ⟨D - 1, by omega⟩
              have hfo : P.fieldsOf t = fs := by simp [Program.fieldsOf, hu]
              rw [run_equalIn_struct _ _ _ _ _ (by rw [hfo]; exact hu) hst, hfo]
              exact flat_fields d (flat_equal d) fs.toList 0 ks _ _ _ _ r hfs ((hc.drop).take) ((hd.drop).take) (by simp; omega) (by simp; omega) (by simpa using he) D (by omega)
          · cases hf
        · cases hf
    · cases hf
end

end Go.Abs
