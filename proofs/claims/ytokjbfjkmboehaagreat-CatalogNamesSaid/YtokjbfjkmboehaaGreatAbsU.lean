/- Addresses, indexes, and all operations of the first kind together. -/
import Derived.Test.YtokjbfjkmboehaaGreatAbsQ
set_option linter.unusedVariables false
set_option linter.unusedSimpArgs false
namespace Go.Abs
open Go.RowKit

section
variable {P : Program} {w0 w : World} {D : Nat} {g : Gh} {H : Hp}

theorem seg_drop {b o n : Nat} {ys : List Value} (h : g.seg b o ys) : g.seg b (o + n) (ys.drop n) := by
  have := VRL.of_seg (n := n) (m := ys.length) h
  rwa [List.take_of_length_le (by simp)] at this

theorem tField_spec {t : TypeId} {f off n : Nat} {b : Bool} (h : tField P t f = some (off, n, b)) : ∃ fs fl, P.underlying t = some (.struct fs) ∧ fs[f]? = some fl ∧ fl.offset = off ∧ tSize P fl.type = some n ∧ tAgg P fl.type = some b := by
  unfold tField at h
  split at h
  · rename_i fs hu
    split at h
    · rename_i fl hf
      split at h
      · rename_i m hm
        split at h
        · rename_i b' hb; cases h; exact ⟨fs, fl, hu, hf, rfl, hm, hb⟩
        · cases h
      · cases h
    · cases h
  · cases h

theorem sim_fieldAddr {t : TypeId} {f off n : Nat} {b : Bool} {v r : V} {x : Value} (ht : tField P t f = some (off, n, b)) (h : aFieldAddr off n v = some r) (hv : VR g v x) :
    ∃ z, (Instr.fieldAt t x f).run P w = .ok z w ∧ VR g r z := by
  obtain ⟨fs, fl, hu, hf, rfl, hn, _⟩ := tField_spec ht
  unfold aFieldAddr at h
  split at h
  · cases h
  · rename_i hn0
    split at h
    · cases h
      simp only [VR] at hv
      obtain ⟨b, hb, rfl⟩ := hv
      refine ⟨_, by simp [Instr.fieldAt, run_under hu, hf, Instr.sureAddr, fieldPlace, run_size hn, hn0, addr_add]; rfl, ?_⟩
      simp only [VR]; exact ⟨b, hb, rfl⟩
    · cases h
      simp only [VR] at hv
      obtain ⟨b, o, ys, rfl, hs, hc⟩ := hv
      refine ⟨_, by simp [Instr.fieldAt, run_under hu, hf, Instr.sureAddr, fieldPlace, run_size hn, hn0, addr_add]; rfl, ?_⟩
      simp only [VR]; exact ⟨b, _, _, rfl, seg_drop hs, hc.drop⟩
    · cases h

theorem sim_field {t : TypeId} {f off n : Nat} {b : Bool} {v r : V} {x : Value} (ht : tField P t f = some (off, n, b)) (h : aField off n b v = some r) (hv : VR g v x) :
    ∃ z, (Instr.field t x f).run P w = .ok z w ∧ VR g r z := by
  obtain ⟨fs, fl, hu, hf, rfl, hn, hb⟩ := tField_spec ht
  cases v with
  | agg cs =>
    simp only [VR] at hv
    obtain ⟨ys, rfl, hc⟩ := hv
    obtain ⟨z, hz, hr⟩ := run_part (P := P) (w := w) hn hb hc h
    exact ⟨z, by simp [Instr.field, run_under hu, hf, asAgg, hz], hr⟩
  | _ => simp [aField] at h

theorem sim_indexSl {t e : TypeId} {s : Nat} {v ix r : V} {x y : Value} (hu : P.underlying t = some (.slice e)) (hs : tSize P e = some s) (h : aIndexSl s v ix = some r) (hv : VR g v x) (hi : VR g ix y) :
    ∃ z, (Instr.indexAt t x y).run P w = .ok z w ∧ VR g r z := by
  unfold aIndexSl at h
  split at h
  · rename_i k i
    simp only [VR] at hi; subst hi
    split at h
    · rename_i len cs tk
      split at h
      · rename_i hc
        obtain ⟨h0, h1, h2, h3⟩ := hc
        cases h
        simp only [VR] at hv
        obtain ⟨base, cap, ys, rfl, hle, hcs, hsl⟩ := hv
        have hy : ys ≠ [] := by
          rintro rfl
          have := hcs.length
          rw [h2] at this
          have : 0 < len * s := Nat.mul_pos (by omega) h3
          simp at *; omega
        obtain ⟨b, o, rfl, hseg⟩ := hsl.2.2.1 hy
        refine ⟨_, by simp [Instr.indexAt, asIntOf, run_under hu, h0, h1, run_size hs, addr_add]; rfl, ?_⟩
        simp only [VR]
        exact ⟨b, _, _, rfl, VRL.of_seg hseg, (hcs.drop).take⟩
      · cases h
    · rename_i d o off len s'
      split at h
      · rename_i hc
        obtain ⟨h0, h1, rfl⟩ := hc
        cases h
        simp only [VR] at hv
        obtain ⟨b, cap, n, hρ, rfl, hle, hB, hn⟩ := hv
        refine ⟨_, by simp [Instr.indexAt, asIntOf, run_under hu, h0, h1, run_size hs, addr_add]; rfl, ?_⟩
        simp only [VR]; exact ⟨b, hρ, rfl⟩
      · cases h
    · cases h
  · cases h

theorem sim_indexArr {t e : TypeId} {n s : Nat} {v ix r : V} {x y : Value} (hu : P.underlying t = some (.array n e)) (hs : tSize P e = some s) (h : aIndexArr n s v ix = some r) (hv : VR g v x) (hi : VR g ix y) :
    ∃ z, (Instr.indexAt t x y).run P w = .ok z w ∧ VR g r z := by
  unfold aIndexArr at h
  split at h
  · rename_i k i
    simp only [VR] at hi; subst hi
    split at h
    · rename_i hc
      split at h
      · cases h
        simp only [VR] at hv
        obtain ⟨b, hb, rfl⟩ := hv
        refine ⟨_, by simp [Instr.indexAt, asIntOf, run_under hu, Instr.sureAddr, hc, run_size hs, addr_add]; rfl, ?_⟩
        simp only [VR]; exact ⟨b, hb, rfl⟩
      · cases h
        simp only [VR] at hv
        obtain ⟨b, o, ys, rfl, hs', hcs⟩ := hv
        refine ⟨_, by simp [Instr.indexAt, asIntOf, run_under hu, Instr.sureAddr, hc, run_size hs, addr_add]; rfl, ?_⟩
        simp only [VR]; exact ⟨b, _, _, rfl, seg_drop hs', hcs.drop⟩
      · cases h
    · cases h
  · cases h

theorem sim_indexStr {t : TypeId} {v ix r : V} {x y : Value} (hu : P.underlying t = some .string) (h : aIndexStr v ix = some r) (hv : VR g v x) (hi : VR g ix y) :
    ∃ z, (Instr.index t x y).run P w = .ok z w ∧ VR g r z := by
  unfold aIndexStr at h
  split at h
  · rename_i s k i
    simp only [VR] at hv hi; subst hv; subst hi
    split at h
    · rename_i h0
      split at h
      · rename_i b hb
        cases h
        refine ⟨.int .u8 b.toNat, ?_, by simp [VR]⟩
        have : (⟨⟨s⟩⟩ : ByteArray)[i.toNat]? = some b := by
          obtain ⟨hl, he⟩ := List.getElem?_eq_some_iff.1 hb
          have hl' : i.toNat < (⟨⟨s⟩⟩ : ByteArray).size := hl
          rw [getElem?_pos (⟨⟨s⟩⟩ : ByteArray) i.toNat hl']
          exact congrArg some he
        simp [Instr.index, asIntOf, run_under hu, h0, this]
      · cases h
    · cases h
  · cases h

theorem sim_indexAgg {t e : TypeId} {n s : Nat} {b : Bool} {v ix r : V} {x y : Value} (hu : P.underlying t = some (.array n e)) (hs : tSize P e = some s) (hb : tAgg P e = some b) (h : pIndexAgg n s b v ix = some r) (hv : VR g v x) (hi : VR g ix y) :
    ∃ z, (Instr.index t x y).run P w = .ok z w ∧ VR g r z := by
  unfold pIndexAgg at h
  split at h
  · rename_i k i
    simp only [VR] at hi; subst hi
    split at h
    · rename_i hc
      cases v with
      | agg cs =>
        simp only [VR] at hv
        obtain ⟨ys, rfl, hcs⟩ := hv
        obtain ⟨z, hz, hr⟩ := run_part (P := P) (w := w) hs hb hcs h
        exact ⟨z, by simp [Instr.index, asIntOf, run_under hu, hc, run_size hs, hz], hr⟩
      | _ => simp [aField] at h
    · cases h
  · cases h

theorem sim_extract {v r : V} {x : Value} {i : Nat} (h : pExtract v i = some r) (hv : VR g v x) : ∃ z, (Instr.extract x i).run P w = .ok z w ∧ VR g r z := by
  unfold pExtract at h
  split at h
  · simp only [VR] at hv
    obtain ⟨ys, rfl, hc⟩ := hv
    obtain ⟨z, hz, hr⟩ := hc.get h
    exact ⟨z, by simp [Instr.extract, hz], hr⟩
  · cases h

/-- Lists of operands. -/
theorem TR.evals {T : List V} {a : Act} (hT : TR g T a.tmps) : ∀ (l : List Operand), VRL g (l.map (aEval T)) (l.map a.eval)
  | [] => by simp [VRL]
  | o :: l => by simp only [List.map_cons]; exact VRL.cons (hT.eval o) (TR.evals hT l)

theorem map_toList (l : Array Operand) (f : Operand → Value) : l.map f = ⟨l.toList.map f⟩ := by
  apply Array.toList_inj.1; simp

/-- WHAT HANGS ON ITS OPERANDS ALONE IS DONE AS HERE; what it makes is new memory. -/
theorem sim_val {T : List V} {a : Act} {o : Oper} {v : V} (h : Rel w0 D g H w) (hT : TR g T a.tmps) (hv : aVal P o T = some v) :
    ∃ x g' w', (execOp a.eval o).run P w = .ok (.value x) w' ∧ VR g' v x ∧ Rel w0 D g' H w' ∧ Grow g g' H := by
  have same : ∀ {x : Value}, (execOp a.eval o).run P w = .ok (.value x) w → VR g v x → ∃ x g' w', (execOp a.eval o).run P w = .ok (.value x) w' ∧ VR g' v x ∧ Rel w0 D g' H w' ∧ Grow g g' H :=
    fun h1 h2 => ⟨_, g, w, h1, h2, h, Grow.refl _ _⟩
  unfold aVal at hv
  split at hv
  · rename_i x ho; cases hv; exact same (by simp [execOp, ho]) (hT.eval x)
  · rename_i x ho; cases hv; exact same (by simp [execOp, ho]) (hT.eval x)
  · rename_i c x y ho
    have hc := hT.eval c
    unfold pPick at hv
    split at hv
    · rename_i e; rw [e] at hc; simp only [VR] at hc; cases hv; exact same (by simp [execOp, ho, hc, asBool]) (hT.eval x)
    · rename_i e; rw [e] at hc; simp only [VR] at hc; cases hv; exact same (by simp [execOp, ho, hc, asBool]) (hT.eval y)
    · cases hv
  · rename_i t parts ho
    split at hv
    · rename_i hf
      split at hv
      · rename_i z hz
        split at hv
        · rename_i ps hps
          obtain ⟨x, h1, h2⟩ := sim_build (w := w) hT hf hz hps hv
          exact same (by simp only [execOp, ho, Sem.run_bind, h1]; rfl) h2
        · cases hv
      · cases hv
    · cases hv
  · rename_i t len parts ho
    split at hv
    · rename_i e hu
      split at hv
      · rename_i z hz
        split at hv
        · rename_i ps hps
          split at hv
          · rename_i hd
            obtain ⟨x, g', w', h1, h2, h3, h4⟩ := sim_buildSlice h hT hu hz hps (of_decide_eq_true hd) hv
            exact ⟨x, g', w', by simp only [execOp, ho, Sem.run_bind, h1]; rfl, h2, h3, h4⟩
          · cases hv
        · cases hv
      · cases hv
    · cases hv
  · rename_i x ho
    have hx := hT.eval x
    unfold pNil at hv
    split at hv
    · rename_i e; rw [e] at hx; cases hv
      have hx' := hx
      simp only [VR] at hx
      obtain ⟨b, hb, hx⟩ := hx
      exact same (x := a.eval x) (by simp [execOp, ho, hx]) hx'
    · rename_i e; rw [e] at hx; cases hv
      have hx' := hx
      simp only [VR] at hx
      obtain ⟨b, o', ys, hx, _⟩ := hx
      exact same (x := a.eval x) (by simp [execOp, ho, hx]) hx'
    · rename_i e; rw [e] at hx; cases hv
      have hx' := hx
      simp only [VR] at hx
      obtain ⟨xs, ys, hx, _⟩ := hx
      exact same (x := a.eval x) (by simp [execOp, ho, hx]) hx'
    · cases hv
  · rename_i op t x y yt ho
    split at hv
    · split at hv
      · rename_i k hk
        unfold pEq at hv
        split at hv
        · rename_i b hb; cases hv
          obtain ⟨e1, e2, e3⟩ := sim_eq (w := w) hk hb (hT.eval x) (hT.eval y) x y
          exact same (x := .bool b) (by simp [execOp, ho, e1 _ (.inl rfl), e2]) (by simp [VR])
        · cases hv
      · cases hv
    · split at hv
      · rename_i k hk
        unfold pNe at hv
        split at hv
        · rename_i b hb; cases hv
          obtain ⟨e1, e2, e3⟩ := sim_eq (w := w) hk hb (hT.eval x) (hT.eval y) x y
          exact same (x := .bool (!b)) (by simp [execOp, ho, e1 _ (.inr rfl), e3]) (by simp [VR])
        · cases hv
      · cases hv
    · rename_i hn1 hn2
      obtain ⟨e1, z, e2, e3⟩ := sim_bin (P := P) (w := w) (t := t) hv (hT.eval x) (hT.eval y) ⟨hn1, hn2⟩ x y
      exact same (x := z) (by simp [execOp, ho, e1, e2]) e3
  · rename_i op t x ho
    obtain ⟨z, e2, e3⟩ := sim_un (P := P) (w := w) hv (hT.eval x)
    exact same (x := z) (by simp [execOp, ho, e2]) e3
  · rename_i f first captured ho
    cases hv
    refine same (x := .func (.func f) (first.map a.eval) (captured.map a.eval)) (by simp [execOp, ho, Instr.makeFunc]) ?_
    simp only [VR]
    exact ⟨_, _, by rw [map_toList, map_toList], hT.evals _, hT.evals _⟩
  · rename_i t x lo hi mx ho
    split at hv
    · rename_i hu
      split at hv
      · obtain ⟨z, e2, e3⟩ := sim_sliceStr (P := P) (w := w) hu hv (hT.eval x) (hT.orel lo) (hT.orel hi)
        exact same (x := z) (by simp only [execOp, ho, Option.map_none, Sem.run_bind, e2]; rfl) e3
      · cases hv
    · rename_i e hu
      split at hv
      · rename_i s hs
        obtain ⟨z, e2, e3⟩ := sim_slice (P := P) (w := w) hu hs hv (hT.eval x) (hT.orel lo) (hT.orel hi) (hT.orel mx)
        exact same (x := z) (by simp only [execOp, ho, Sem.run_bind, e2]; rfl) e3
      · cases hv
    · cases hv
  · rename_i t x f ho
    split at hv
    · rename_i off n b ht
      obtain ⟨z, e2, e3⟩ := sim_fieldAddr (w := w) ht hv (hT.eval x)
      exact same (x := z) (by simp [execOp, ho, e2]) e3
    · cases hv
  · rename_i t x f ho
    split at hv
    · rename_i off n b ht
      obtain ⟨z, e2, e3⟩ := sim_field (w := w) ht hv (hT.eval x)
      exact same (x := z) (by simp [execOp, ho, e2]) e3
    · cases hv
  · rename_i t x ix ho
    split at hv
    · rename_i e hu
      split at hv
      · rename_i s hs
        obtain ⟨z, e2, e3⟩ := sim_indexSl (w := w) hu hs hv (hT.eval x) (hT.eval ix)
        exact same (x := z) (by simp [execOp, ho, e2]) e3
      · cases hv
    · rename_i n e hu
      split at hv
      · rename_i s hs
        obtain ⟨z, e2, e3⟩ := sim_indexArr (w := w) hu hs hv (hT.eval x) (hT.eval ix)
        exact same (x := z) (by simp [execOp, ho, e2]) e3
      · cases hv
    · cases hv
  · rename_i t x ix ho
    split at hv
    · rename_i hu
      obtain ⟨z, e2, e3⟩ := sim_indexStr (w := w) hu hv (hT.eval x) (hT.eval ix)
      exact same (x := z) (by simp [execOp, ho, e2]) e3
    · rename_i n e hu
      split at hv
      · rename_i s hs
        split at hv
        · rename_i b hb
          obtain ⟨z, e2, e3⟩ := sim_indexAgg (w := w) hu hs hb hv (hT.eval x) (hT.eval ix)
          exact same (x := z) (by simp [execOp, ho, e2]) e3
        · cases hv
      · cases hv
    · cases hv
  · rename_i x ix ho
    obtain ⟨z, e2, e3⟩ := sim_extract (P := P) (w := w) hv (hT.eval x)
    exact same (x := z) (by simp [execOp, ho, e2]) e3
  · rename_i args at_ ho
    split at hv
    · rename_i x y hargs
      have ha : args.map a.eval = #[a.eval x, a.eval y] := by rw [map_toList, hargs]; rfl
      have hx := hT.eval x
      have hy := hT.eval y
      unfold pMax at hv
      split at hv
      · rename_i k i e1; rw [e1] at hx
        split at hv
        · rename_i k' j e2; rw [e2] at hy; cases hv
          simp only [VR] at hx hy
          refine same (x := .int k (if i < j then j else i)) ?_ (by simp [VR])
          simp [execOp, ho, resolve, ha, invoke, builtin, Builtin.max_, hx, hy, Builtin.max2]
        · cases hv
      · cases hv
    · cases hv
  · rename_i args at_ ho
    split at hv
    · rename_i x y hargs
      have ha : args.map a.eval = #[a.eval x, a.eval y] := by rw [map_toList, hargs]; rfl
      have hx := hT.eval x
      have hy := hT.eval y
      unfold pMin at hv
      split at hv
      · rename_i k i e1; rw [e1] at hx
        split at hv
        · rename_i k' j e2; rw [e2] at hy; cases hv
          simp only [VR] at hx hy
          refine same (x := .int k (if j < i then j else i)) ?_ (by simp [VR])
          simp [execOp, ho, resolve, ha, invoke, builtin, Builtin.min_, hx, hy, Builtin.min2]
        · cases hv
      · cases hv
    · cases hv
  · cases hv
end

end Go.Abs
