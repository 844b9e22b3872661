/- Each operation of the model does what the abstract interpreter's does: those that hang on their operands alone. -/
import Derived.Test.YtokjbfjkmboehaaGreatAbsS
import Derived.Laws.Entries
set_option linter.unusedVariables false
set_option linter.unusedSimpArgs false
namespace Go.Abs
open Go.RowKit

/-- What is known grows, and what is not there yet in the world stays so. -/
structure Grow (g g' : Gh) (H : Hp) : Prop where
  le : g.le g'
  unborn : ∀ d i n m, H.sizes d = some (n, m) → i < n → g.ρ d i = none → g'.ρ d i = none
theorem Grow.refl (g : Gh) (H : Hp) : Grow g g H := ⟨.refl g, fun _ _ _ _ _ _ h => h⟩
theorem Grow.of_ρ {g g' : Gh} {H : Hp} (h : g.le g') (k : ∀ d i, g'.ρ d i = g.ρ d i) : Grow g g' H := ⟨h, fun d i _ _ _ _ e => by rw [k]; exact e⟩

section
variable {P : Program} {w : World}

theorem run_under {t : TypeId} {d : TypeDesc} (h : P.underlying t = some d) : (underlying t).run P w = .ok d w := run_underlying h w
theorem run_info {t : TypeId} {i : TypeInfo} (h : P.info? t = some i) : (typeInfo t).run P w = .ok i w := by
  simp [typeInfo, h]
theorem run_size {t : TypeId} {n : Nat} (h : tSize P t = some n) : (sizeOf t).run P w = .ok n w := by
  unfold tSize at h
  split at h
  · rename_i i hi; cases h; simp [sizeOf, run_info hi]
  · cases h
theorem run_zero {t : TypeId} {z : V} (h : tZero P t = some z) : ∃ c, z = ofConst c ∧ (zeroValue t).run P w = .ok c w := by
  unfold tZero at h
  split at h
  · rename_i i hi
    split at h
    · rename_i c hc; cases h; exact ⟨c, rfl, by simp [zeroValue, run_info hi, hc]⟩
    · cases h
  · cases h
theorem run_agg {t : TypeId} {b : Bool} (h : tAgg P t = some b) : (isAgg t).run P w = .ok b w := by
  unfold tAgg at h
  split at h <;> (try cases h) <;> rename_i hd <;> simp [isAgg, run_under hd]

theorem toList_mk (l : List Value) : (⟨l⟩ : Array Value).toList = l := rfl

/-- A part of an aggregate's cells. -/
theorem run_part {g : Gh} {t : TypeId} {n off : Nat} {b : Bool} {cs : List V} {ys : List Value} {v : V} (ht : tSize P t = some n) (ha : tAgg P t = some b)
    (hc : VRL g cs ys) (hv : aField off n b (.agg cs) = some v) : ∃ x, (part t ⟨ys⟩ off).run P w = .ok x w ∧ VR g v x := by
  have hl := hc.length
  cases b with
  | true =>
    simp only [aField, if_true] at hv
    split at hv
    · rename_i hle
      cases hv
      refine ⟨.agg ⟨(ys.drop off).take n⟩, ?_, ?_⟩
      · simp [part, run_agg ha, run_size ht, List.extract_eq_take_drop]
      · simp only [VR]; exact ⟨_, rfl, (hc.drop).take⟩
    · cases hv
  | false =>
    simp only [aField] at hv
    obtain ⟨x, hx, hvx⟩ := hc.get hv
    exact ⟨x, by simp [part, run_agg ha, hx], hvx⟩

theorem VR.cells {g : Gh} {v : V} {x : Value} (h : VR g v x) (hu : v ≠ .unk) : VRL g v.cells x.cells.toList := by
  cases v with
  | unk => exact (hu rfl).elim
  | agg cs => simp only [VR] at h; obtain ⟨ys, rfl, h1⟩ := h; simpa [V.cells, Value.cells] using h1
  | undef => have k := h; simp only [VR] at h; subst h; exact VRL.cons k (VRL.nil g)
  | bool b => have k := h; simp only [VR] at h; subst h; exact VRL.cons k (VRL.nil g)
  | int _ n => have k := h; simp only [VR] at h; subst h; exact VRL.cons k (VRL.nil g)
  | str s => have k := h; simp only [VR] at h; subst h; exact VRL.cons k (VRL.nil g)
  | nilp => have k := h; simp only [VR] at h; subst h; exact VRL.cons k (VRL.nil g)
  | ptr d i off => have k := h; simp only [VR] at h; obtain ⟨_, _, rfl⟩ := h; exact VRL.cons k (VRL.nil g)
  | imm cs => have k := h; simp only [VR] at h; obtain ⟨_, _, _, rfl, _⟩ := h; exact VRL.cons k (VRL.nil g)
  | sl len cs t => have k := h; simp only [VR] at h; obtain ⟨_, _, _, rfl, _⟩ := h; exact VRL.cons k (VRL.nil g)
  | sref d i off len s => have k := h; simp only [VR] at h; obtain ⟨_, _, _, _, rfl, _⟩ := h; exact VRL.cons k (VRL.nil g)
  | nilm => have k := h; simp only [VR] at h; subst h; exact VRL.cons k (VRL.nil g)
  | mapr d i => have k := h; simp only [VR] at h; obtain ⟨_, _, rfl⟩ := h; exact VRL.cons k (VRL.nil g)
  | nilf => have k := h; simp only [VR] at h; subst h; exact VRL.cons k (VRL.nil g)
  | fn f a c => have k := h; simp only [VR] at h; obtain ⟨_, _, rfl, _⟩ := h; exact VRL.cons k (VRL.nil g)
  | tup cs => have k := h; simp only [VR] at h; obtain ⟨_, rfl, _⟩ := h; exact VRL.cons k (VRL.nil g)
theorem ofConst_cells (g : Gh) (c : Value) : VRL g (ofConst c).cells c.cells.toList := by
  cases c with
  | agg cs => simpa [ofConst, V.cells, Value.cells] using VRL.mapOfCell g cs.toList
  | _ =>
    have h := VR.ofCell g
    simp only [ofConst, Value.cells]
    rw [show ∀ v : V, (∀ cs, v ≠ .agg cs) → v.cells = [v] from fun v hv => by cases v <;> first | rfl | (exact (hv _ rfl).elim)]
    · exact VRL.cons (VR.ofCell g _) (VRL.nil g)
    · intro cs e
      unfold Abs.ofCell at e
      split at e <;> (try cases e)
      split at e <;> cases e
theorem VRL.setAll {g : Gh} : ∀ {us : List V} {xs : List Value} {cs : List V} {ys : List Value} {off : Nat}, VRL g cs ys → VRL g us xs → VRL g (setAll cs off us) (setAll ys off xs)
  | [], _, _, _, _, h, k => by simp only [VRL] at k; subst k; simpa [Abs.setAll] using h
  | u :: us, _, _, _, _, h, k => by
    simp only [VRL] at k
    obtain ⟨y, ys', rfl, k1, k2⟩ := k
    simp only [Abs.setAll]
    exact VRL.setAll (h.set k1) k2
theorem setAll_length {α : Type} : ∀ {us : List α} {cs : List α} {off : Nat}, (setAll cs off us).length = cs.length
  | [], _, _ => rfl
  | u :: us, cs, off => by simp only [setAll]; rw [setAll_length]; simp
theorem foldl_set (off : Nat) : ∀ (us : List Value) (k : Nat) (cs : Array Value),
    ((us.zipIdx k).foldl (fun cs (x : Value × Nat) => cs.setIfInBounds (off + x.2) x.1) cs).toList = setAll cs.toList (off + k) us
  | [], _, _ => rfl
  | u :: us, k, cs => by
    simp only [List.zipIdx_cons, List.foldl_cons, setAll]
    rw [foldl_set off us (k + 1)]
    simp [Nat.add_assoc]

/-- Parts laid into cells: 'fill' and 'aBuild'. -/
theorem sim_fill {g : Gh} (place : Nat → Option (Nat × Nat)) : ∀ {aps : List (Nat × Nat × V)} {parts : List (Nat × Value)} {z cs : List V} {ys : List Value},
    VRL g z ys → aBuild z aps = some cs → (∀ (j : Nat) (off n : Nat) (v : V), aps[j]? = some (off, n, v) → ∃ i x, parts[j]? = some (i, x) ∧ place i = some (off, n) ∧ VR g v x) → parts.length = aps.length →
    ∃ ys', Instr.fill place ⟨ys⟩ parts = some ⟨ys'⟩ ∧ VRL g cs ys'
  | [], parts, z, cs, ys, hz, hb, _, hl => by
    simp only [aBuild, Option.some.injEq] at hb; subst hb
    have : parts = [] := List.eq_nil_of_length_eq_zero (by simpa using hl)
    subst this
    exact ⟨ys, rfl, hz⟩
  | (off, n, v) :: aps, parts, z, cs, ys, hz, hb, hp, hl => by
    obtain ⟨i, x, h0, hpl, hv⟩ := hp 0 off n v (by simp)
    cases parts with
    | nil => simp at h0
    | cons p parts =>
      simp only [List.getElem?_cons_zero, Option.some.injEq] at h0; subst h0
      have hu : v ≠ .unk := by rintro rfl; simp [aBuild] at hb
      have hb' : (if v.cells.length = n ∧ off + n ≤ z.length then aBuild (setAll z off v.cells) aps else none) = some cs := by
        cases v <;> first | (exact (hu rfl).elim) | (simpa only [aBuild] using hb)
      split at hb'
      · rename_i hc
        obtain ⟨hc1, hc2⟩ := hc
        have hcv := hv.cells hu
        have hlen : x.cells.size = n := by
          have := hcv.length; rw [Array.length_toList] at this; omega
        have hzl := hz.length
        obtain ⟨ys', hf, hr⟩ := sim_fill place (parts := parts) (VRL.setAll hz hcv (off := off)) hb'
          (fun j off' n' v' hj => by
            obtain ⟨i', x', h1, h2⟩ := hp (j + 1) off' n' v' (by simpa using hj)
            exact ⟨i', x', by simpa using h1, h2⟩) (by simpa using hl)
        refine ⟨ys', ?_, hr⟩
        have e : (x.cells.zipIdx.foldl (fun cs (x : Value × Nat) => cs.setIfInBounds (off + x.2) x.1) (⟨ys⟩ : Array Value)) = ⟨Abs.setAll ys off x.cells.toList⟩ := by
          apply Array.toList_inj.1
          have := foldl_set off x.cells.toList 0 ⟨ys⟩
          rw [← Array.foldl_toList, Array.toList_zipIdx]
          simpa using this
        simp only [Instr.fill, hpl]
        have h1 : ¬ (x.cells.size ≠ n || off + x.cells.size > (⟨ys⟩ : Array Value).size) = true := by
          simp [hlen]; omega
        simp only [h1, if_false]
        rw [e]
        exact hf
      · cases hb'
end

end Go.Abs
