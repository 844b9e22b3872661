/- Operations that read memory. -/
import Derived.Test.YtokjbfjkmboehaaGreatAbsU
set_option linter.unusedVariables false
set_option linter.unusedSimpArgs false
namespace Go.Abs
open Go.RowKit

section
variable {P : Program} {w0 w : World} {D : Nat} {g : Gh} {H : Hp}

theorem cell_of {b o : Nat} {full : List Value} {ty : TypeId} {fz : Nat × Nat} (hx : w.heap[b]? = some (.cells ⟨full⟩ ty fz)) : w.cell? ⟨b, o, none⟩ = full[o]? := by
  simp [World.cell?, hx]

theorem run_loadFrom {b o : Nat} {full : List Value} {ty : TypeId} {fz : Nat × Nat} (hx : w.heap[b]? = some (.cells ⟨full⟩ ty fz)) :
    ∀ (n i : Nat) (acc : Array Value), o + i + n ≤ full.length → (loadCellsFrom ⟨b, o, none⟩ i n acc).run P w = .ok (acc ++ (⟨(full.drop (o + i)).take n⟩ : Array Value)) w
  | 0, i, acc, _ => by simp [loadCellsFrom]
  | n + 1, i, acc, h => by
    have hl : o + i < full.length := by omega
    have hc : w.cell? ⟨b, o + i, none⟩ = some full[o + i] := by rw [cell_of hx]; simp [hl]
    simp only [loadCellsFrom, Sem.run_bind, addr_add, run_load, hc, Result.andThen_ok]
    rw [run_loadFrom hx n (i + 1) _ (by omega)]
    congr 1
    apply Array.toList_inj.1
    rw [List.drop_eq_getElem_cons hl]
    simp [Nat.add_assoc]
theorem run_loadCells {b o n : Nat} {full : List Value} {ty : TypeId} {fz : Nat × Nat} (hx : w.heap[b]? = some (.cells ⟨full⟩ ty fz)) (h : o + n ≤ full.length) :
    (loadCells ⟨b, o, none⟩ n).run P w = .ok ⟨(full.drop o).take n⟩ w := by
  unfold loadCells
  rw [run_loadFrom hx n 0 #[] (by simpa using h)]
  simp

/-- A pointer's cells: what stands in memory where it leads to. -/
theorem ptr_cells {v : V} {x : Value} (h : Rel w0 D g H w) (hv : VR g v x) {cs : List V} (hc : (∃ d i off all, v = .ptr d i off ∧ H.obj d i = some (.cells all) ∧ off ≤ all.length ∧ cs = all.drop off) ∨ v = .imm cs) :
    ∃ b o full ty fz ys, x = .pointer (some ⟨b, o, none⟩) ∧ w.heap[b]? = some (.cells ⟨full⟩ ty fz) ∧ VRL g cs ys ∧ (∀ j y, ys[j]? = some y → full[o + j]? = some y) := by
  rcases hc with ⟨d, i, off, all, rfl, ho, hle, rfl⟩ | rfl
  · simp only [VR] at hv
    obtain ⟨b, hb, rfl⟩ := hv
    obtain ⟨ob, hx, hr⟩ := h.obj d i _ b ho hb
    obtain ⟨ys, zs, ty, fz, rfl, hyr, _⟩ := hr
    refine ⟨b, off, ys ++ zs, ty, fz, ys.drop off, rfl, hx, (hyr.mono (Gh.restr_le _ _)).drop, fun j y hj => ?_⟩
    rw [List.getElem?_drop] at hj
    rw [List.getElem?_append_left (List.getElem?_eq_some_iff.1 hj).1]; exact hj
  · simp only [VR] at hv
    obtain ⟨b, o, ys, rfl, ⟨full, hf, hs⟩, hr⟩ := hv
    obtain ⟨zs, ty, fz, hx⟩ := h.Φok b full hf
    refine ⟨b, o, full ++ zs, ty, fz, ys, rfl, hx, hr.mono (Gh.restr_le _ _), fun j y hj => ?_⟩
    have := hs j y hj
    rw [List.getElem?_append_left (List.getElem?_eq_some_iff.1 this).1]; exact this

theorem take_of_seg {full ys : List Value} {o n : Nat} (h : ∀ j y, ys[j]? = some y → full[o + j]? = some y) (hn : n ≤ ys.length) : o + n ≤ full.length ∧ (full.drop o).take n = ys.take n ∨ n = 0 := by
  by_cases h0 : n = 0
  · exact .inr h0
  · refine .inl ⟨?_, ?_⟩
    · have hl : n - 1 < ys.length := by omega
      have := h (n - 1) ys[n - 1] (by simp [hl])
      have := (List.getElem?_eq_some_iff.1 this).1
      omega
    · apply List.ext_getElem?
      intro j
      by_cases hj : j < n
      · have hl : j < ys.length := by omega
        rw [List.getElem?_take_of_lt hj, List.getElem?_take_of_lt hj, List.getElem?_drop, h j ys[j] (by simp [hl])]
        simp [hl]
      · rw [List.getElem?_take_eq_none (by omega), List.getElem?_take_eq_none (by omega)]

theorem sim_load {t : TypeId} {b : Bool} {n : Nat} {v r : V} {x : Value} (h : Rel w0 D g H w) (hv : VR g v x) (hb : tAgg P t = some b) (hn : tSize P t = some n) (hr : aLoad b n v H = some r) :
    ∃ z, (Instr.loadAt t x).run P w = .ok z w ∧ VR g r z := by
  have main : ∀ cs : List V, ((∃ d i off all, v = .ptr d i off ∧ H.obj d i = some (.cells all) ∧ off ≤ all.length ∧ cs = all.drop off) ∨ v = .imm cs) →
      (if b then (if n ≤ cs.length then some (.agg (cs.take n)) else none) else cs[0]?) = some r → ∃ z, (Instr.loadAt t x).run P w = .ok z w ∧ VR g r z := by
    intro cs hc hr
    obtain ⟨bl, o, full, ty, fz, ys, rfl, hx, hcr, hs⟩ := ptr_cells h hv hc
    cases b with
    | true =>
      simp only [if_true] at hr
      split at hr
      · rename_i hle
        cases hr
        have hyl := hcr.length
        refine ⟨.agg ⟨ys.take n⟩, ?_, by simp only [VR]; exact ⟨_, rfl, hcr.take⟩⟩
        rcases take_of_seg hs (by omega : n ≤ ys.length) with ⟨h1, h2⟩ | h0
        · have := run_loadCells (P := P) hx h1
          simp only [Instr.loadAt, Instr.sureAddr, Sem.run_bind, Sem.run_pure, Result.andThen_ok, loadVar, run_agg hb, if_true, run_size hn, this, h2]
        · subst h0
          simp [Instr.loadAt, Instr.sureAddr, loadVar, run_agg hb, run_size hn, loadCells, loadCellsFrom]
      · cases hr
    | false =>
      simp only [Bool.false_eq_true, if_false] at hr
      obtain ⟨y, hy, hyr⟩ := hcr.get hr
      have hcell : w.cell? ⟨bl, o, none⟩ = some y := by rw [cell_of hx]; simpa using hs 0 y hy
      exact ⟨y, by simp [Instr.loadAt, Instr.sureAddr, loadVar, run_agg hb, hcell], hyr⟩
  unfold aLoad at hr
  split at hr
  · rename_i d i off
    split at hr
    · rename_i all ho
      by_cases hle : off ≤ all.length
      · refine main _ (.inl ⟨d, i, off, all, rfl, ho, hle, rfl⟩) ?_
        cases b with
        | true =>
          simp only [if_true] at hr ⊢
          split at hr
          · rename_i h1; cases hr; rw [if_pos (by simp; omega)]
          · cases hr
        | false => simp only [Bool.false_eq_true, if_false] at hr ⊢; rw [List.getElem?_drop]; simpa using hr
      · cases b with
        | true => simp only [if_true] at hr; rw [if_neg (by omega)] at hr; cases hr
        | false => simp only [Bool.false_eq_true, if_false] at hr; rw [List.getElem?_eq_none (by omega)] at hr; cases hr
    · cases hr
  · rename_i cs
    exact main cs (.inr rfl) hr
  · cases hr

/-! ### Maps -/

theorem eqKey_int {k : IntKind} {a b : V} {r : Bool} {x y : Value} (h : eqKey (.int k) a b = some r) (ha : VR g a x) (hb : VR g b y) (kd : IntKind) : Instr.sameNow (.int kd) x y = some r := by
  simp only [eqKey] at h
  split at h
  · split at h
    · rename_i hk; cases h
      simp only [VR] at ha hb; subst ha; subst hb
      obtain ⟨rfl, rfl⟩ := hk
      simp [Instr.sameNow, beq_dec]
    · cases h
  · cases h
theorem eqKey_str {a b : V} {r : Bool} {x y : Value} (h : eqKey .str a b = some r) (ha : VR g a x) (hb : VR g b y) : Instr.sameNow .string x y = some r := by
  simp only [eqKey] at h
  split at h
  · cases h
    simp only [VR] at ha hb; subst ha; subst hb
    simp only [Instr.sameNow]
    rw [beq_toListBytes, byteArray_toList, byteArray_toList, beq_dec]
  · cases h

/-- What a look for a key finds, here and in the model: the model's by a test of two keys. -/
theorem find_spec {kk : KK} {k : V} : ∀ {es : List (V × V)} {r : Option V} {ents : List MapEntry} (i : Nat), findKey kk k es = some r → ER g es ents →
    (match r with
     | none => (∀ (j : Nat) (e : MapEntry), ents[j]? = some e → ∃ a, VR g a e.key ∧ eqKey kk k a = some false) ∧ (∀ v, putKey kk k v es = es ++ [(k, v)]) ∧ delKey kk k es = es
     | some v => ∃ j a e, es[j]? = some (a, v) ∧ ents[j]? = some e ∧ VR g a e.key ∧ VR g v e.val ∧ eqKey kk k a = some true ∧
         (∀ (j' : Nat) (e' : MapEntry), j' < j → ents[j']? = some e' → ∃ a', VR g a' e'.key ∧ eqKey kk k a' = some false) ∧ (∀ v', putKey kk k v' es = es.set j (k, v')) ∧ delKey kk k es = es.eraseIdx j)
  | [], r, ents, i, h, he => by
    simp only [findKey, Option.some.injEq] at h; subst h
    simp only [ER] at he; subst he
    exact ⟨fun j e hj => by simp at hj, fun v => rfl, rfl⟩
  | (a, u) :: es, r, ents, i, h, he => by
    simp only [ER] at he
    obtain ⟨e, ents', rfl, h1, h2, h3⟩ := he
    simp only [findKey] at h
    split at h
    · rename_i ht; cases h
      exact ⟨0, a, e, by simp, by simp, h1, h2, ht, (fun j' e' hj => by omega), (fun v' => by simp [putKey, ht]), by simp [delKey, ht]⟩
    · rename_i ht
      have ih := find_spec (i + 1) h h3
      cases r with
      | none =>
        obtain ⟨p1, p2, p3⟩ := ih
        refine ⟨fun j e' hj => ?_, fun v => by simp [putKey, ht, p2], by simp [delKey, ht, p3]⟩
        cases j with
        | zero => simp only [List.getElem?_cons_zero, Option.some.injEq] at hj; subst hj; exact ⟨a, h1, ht⟩
        | succ j => exact p1 j e' (by simpa using hj)
      | some v =>
        obtain ⟨j, a', e', q1, q2, q3, q4, q5, q6, q7, q8⟩ := ih
        refine ⟨j + 1, a', e', by simpa using q1, by simpa using q2, q3, q4, q5, fun j' e'' hj hj2 => ?_, fun v' => by simp [putKey, ht, q7], by simp [delKey, ht, q8]⟩
        cases j' with
        | zero => simp only [List.getElem?_cons_zero, Option.some.injEq] at hj2; subst hj2; exact ⟨a, h1, ht⟩
        | succ j' => exact q6 j' e'' (by omega) (by simpa using hj2)
    · cases h

theorem findNow_none {td : TypeDesc} {x : Value} : ∀ {ents : List MapEntry} (i : Nat), (∀ (j : Nat) (e : MapEntry), ents[j]? = some e → Instr.sameNow td x e.key = some false) → Instr.findNow td x ents i = some none
  | [], _, _ => rfl
  | e :: ents, i, h => by
    simp only [Instr.findNow, h 0 e (by simp)]
    exact findNow_none (i + 1) (fun j e' hj => h (j + 1) e' (by simpa using hj))
theorem findNow_some {td : TypeDesc} {x : Value} : ∀ {ents : List MapEntry} {j : Nat} {e : MapEntry} (i : Nat), ents[j]? = some e → Instr.sameNow td x e.key = some true →
    (∀ (j' : Nat) (e' : MapEntry), j' < j → ents[j']? = some e' → Instr.sameNow td x e'.key = some false) → Instr.findNow td x ents i = some (some (i + j, e.val))
  | [], j, e, i, h, _, _ => by simp at h
  | e0 :: ents, 0, e, i, h, ht, _ => by
    simp only [List.getElem?_cons_zero, Option.some.injEq] at h; subst h
    simp [Instr.findNow, ht]
  | e0 :: ents, j + 1, e, i, h, ht, hf => by
    simp only [Instr.findNow, hf 0 e0 (by omega) (by simp)]
    rw [findNow_some (i + 1) (by simpa using h) ht (fun j' e' hj hj2 => hf (j' + 1) e' (by omega) (by simpa using hj2))]
    congr 3; omega

theorem eqKey_agg {t : TypeId} {ks : List PK} {a b : V} {r : Bool} {x y : Value} (hk : kindsT P 20 t = some ks) (ht : tAgg P t = some true) (h : eqKey (.agg ks) a b = some r) (ha : VR g a x) (hb : VR g b y) : (Op.equal t x y).run P w = .ok r w := by
  simp only [eqKey] at h
  split at h
  · split at h
    · rename_i hl
      simp only [VR] at ha hb
      obtain ⟨xs, rfl, hx⟩ := ha
      obtain ⟨ys, rfl, hy⟩ := hb
      exact equal_agg hk hl.1 hl.2 hx hy h ht 10000 (by omega)
    · cases h
  · cases h

theorem findAsking_none {t : TypeId} {x : Value} : ∀ {ents : List MapEntry} (i : Nat), (∀ (j : Nat) (e : MapEntry), ents[j]? = some e → (Op.equal t x e.key).run P w = .ok false w) → (Instr.findAsking t x ents i).run P w = .ok none w
  | [], _, _ => rfl
  | e :: ents, i, h => by
    simp only [Instr.findAsking, Sem.run_bind, h 0 e (by simp), Result.andThen_ok, Bool.false_eq_true, if_false]
    exact findAsking_none (i + 1) (fun j e' hj => h (j + 1) e' (by simpa using hj))
theorem findAsking_some {t : TypeId} {x : Value} : ∀ {ents : List MapEntry} {j : Nat} {e : MapEntry} (i : Nat), ents[j]? = some e → (Op.equal t x e.key).run P w = .ok true w →
    (∀ (j' : Nat) (e' : MapEntry), j' < j → ents[j']? = some e' → (Op.equal t x e'.key).run P w = .ok false w) → (Instr.findAsking t x ents i).run P w = .ok (some (i + j, e.val)) w
  | [], j, e, i, h, _, _ => by simp at h
  | e0 :: ents, 0, e, i, h, ht, _ => by
    simp only [List.getElem?_cons_zero, Option.some.injEq] at h; subst h
    simp [Instr.findAsking, ht]
  | e0 :: ents, j + 1, e, i, h, ht, hf => by
    simp only [Instr.findAsking, Sem.run_bind, hf 0 e0 (by omega) (by simp), Result.andThen_ok, Bool.false_eq_true, if_false]
    rw [findAsking_some (i + 1) (by simpa using h) ht (fun j' e' hj hj2 => hf (j' + 1) e' (by omega) (by simpa using hj2))]
    congr 3; omega

/-- A map's type, opened. -/
theorem tMap_spec {t : TypeId} {kk : KK} {z : V} (h : tMap P t = some (kk, z)) : ∃ kt e, P.underlying t = some (.map kt e) ∧ tZero P e = some z ∧
    ((∃ k, P.underlying kt = some (.int k) ∧ kk = .int k) ∨ (P.underlying kt = some .string ∧ kk = .str) ∨ (∃ fs ks, P.underlying kt = some (.struct fs) ∧ kindsT P 20 kt = some ks ∧ kk = .agg ks)) := by
  unfold tMap at h
  split at h
  · rename_i kt e hu
    split at h
    · rename_i zz hz
      split at h
      · rename_i k hk; cases h; exact ⟨kt, e, hu, hz, .inl ⟨k, hk, rfl⟩⟩
      · rename_i hk; cases h; exact ⟨kt, e, hu, hz, .inr (.inl ⟨hk, rfl⟩)⟩
      · rename_i fs hk
        split at h
        · rename_i ks hks; cases h; exact ⟨kt, e, hu, hz, .inr (.inr ⟨fs, ks, hk, hks, rfl⟩)⟩
        · cases h
      · cases h
    · cases h
  · cases h

/-- The model's look for a key. -/
theorem run_findKey {kt : TypeId} {kk : KK} (hk : (∃ k, P.underlying kt = some (.int k) ∧ kk = .int k) ∨ (P.underlying kt = some .string ∧ kk = .str) ∨ (∃ fs ks, P.underlying kt = some (.struct fs) ∧ kindsT P 20 kt = some ks ∧ kk = .agg ks))
    {k : V} {x : Value} (hx : VR g k x) {es : List (V × V)} {ents : List MapEntry} (he : ER g es ents) {r : Option V} (h : findKey kk k es = some r) :
    (match r with
     | none => (Instr.findKey kt x ents).run P w = .ok none w ∧ (∀ v, putKey kk k v es = es ++ [(k, v)]) ∧ delKey kk k es = es
     | some v => ∃ j a e, es[j]? = some (a, v) ∧ ents[j]? = some e ∧ VR g a e.key ∧ VR g v e.val ∧ eqKey kk k a = some true ∧ (Instr.findKey kt x ents).run P w = .ok (some (j, e.val)) w ∧ (∀ v', putKey kk k v' es = es.set j (k, v')) ∧ delKey kk k es = es.eraseIdx j) := by
  have hs := find_spec 0 h he
  rcases hk with ⟨k', hu, rfl⟩ | ⟨hu, rfl⟩ | ⟨fs, ks, hu, hks, rfl⟩
  · cases r with
    | none =>
      obtain ⟨p1, p2⟩ := hs
      refine ⟨?_, p2⟩
      simp only [Instr.findKey, Sem.run_bind, run_under hu, Result.andThen_ok]
      rw [findNow_none 0 (fun j e hj => by obtain ⟨a, ha, hf⟩ := p1 j e hj; exact eqKey_int hf hx ha k')]
      rfl
    | some v =>
      obtain ⟨j, a, e, q1, q2, q3, q4, q5, q6, q7⟩ := hs
      refine ⟨j, a, e, q1, q2, q3, q4, q5, ?_, q7⟩
      simp only [Instr.findKey, Sem.run_bind, run_under hu, Result.andThen_ok]
      rw [findNow_some 0 q2 (eqKey_int q5 hx q3 k') (fun j' e' h1 h2 => by obtain ⟨a', ha, hf⟩ := q6 j' e' h1 h2; exact eqKey_int hf hx ha k')]
      simp
  · cases r with
    | none =>
      obtain ⟨p1, p2⟩ := hs
      refine ⟨?_, p2⟩
      simp only [Instr.findKey, Sem.run_bind, run_under hu, Result.andThen_ok]
      rw [findNow_none 0 (fun j e hj => by obtain ⟨a, ha, hf⟩ := p1 j e hj; exact eqKey_str hf hx ha)]
      rfl
    | some v =>
      obtain ⟨j, a, e, q1, q2, q3, q4, q5, q6, q7⟩ := hs
      refine ⟨j, a, e, q1, q2, q3, q4, q5, ?_, q7⟩
      simp only [Instr.findKey, Sem.run_bind, run_under hu, Result.andThen_ok]
      rw [findNow_some 0 q2 (eqKey_str q5 hx q3) (fun j' e' h1 h2 => by obtain ⟨a', ha, hf⟩ := q6 j' e' h1 h2; exact eqKey_str hf hx ha)]
      simp
  · have ht : tAgg P kt = some true := by simp [tAgg, hu]
    have hnow : ∀ (y : Value), Instr.sameNow (.struct fs) x y = none := fun y => rfl
    cases r with
    | none =>
      obtain ⟨p1, p2⟩ := hs
      refine ⟨?_, p2⟩
      simp only [Instr.findKey, Sem.run_bind, run_under hu, Result.andThen_ok]
      cases ents with
      | nil => rfl
      | cons e0 ents =>
        simp only [Instr.findNow, hnow]
        exact findAsking_none 0 (fun j e hj => by obtain ⟨a, ha, hf⟩ := p1 j e hj; exact eqKey_agg hks ht hf hx ha)
    | some v =>
      obtain ⟨j, a, e, q1, q2, q3, q4, q5, q6, q7⟩ := hs
      refine ⟨j, a, e, q1, q2, q3, q4, q5, ?_, q7⟩
      simp only [Instr.findKey, Sem.run_bind, run_under hu, Result.andThen_ok]
      cases ents with
      | nil => simp at q2
      | cons e0 ents =>
        simp only [Instr.findNow, hnow]
        rw [findAsking_some 0 q2 (eqKey_agg hks ht q5 hx q3) (fun j' e' h1 h2 => by obtain ⟨a', ha, hf⟩ := q6 j' e' h1 h2; exact eqKey_agg hks ht hf hx ha)]
        simp

theorem check_fields {empty : Bool} {n : Nat} {xs : Array Value} : ∀ (fs : List Field),
    (∀ f ∈ fs, f.name ≠ "_" → ∃ x, (part f.type xs f.offset).run P w = .ok x w ∧ (Instr.checkKey empty n f.type x).run P w = .ok () w) →
    (forIn fs PUnit.unit fun f (_ : PUnit) => (if f.name ≠ "_" then do
        let x ← part f.type xs f.offset
        Instr.checkKey empty n f.type x
        pure (ForInStep.yield PUnit.unit)
      else pure (ForInStep.yield PUnit.unit) : Sem (ForInStep PUnit))).run P w = .ok PUnit.unit w
  | [], _ => by simp
  | f :: fs, h => by
    have ih := check_fields fs (fun f' hf' => h f' (List.mem_cons_of_mem _ hf'))
    simp only [List.forIn_cons, Sem.run_bind]
    by_cases hn : f.name = "_"
    · simp only [hn, ne_eq, not_true_eq_false, if_false, Sem.run_pure, Result.andThen_ok]
      exact ih
    · obtain ⟨x, h1, h2⟩ := h f (List.mem_cons_self ..) hn
      simp only [ne_eq, hn, not_false_eq_true, if_true, Sem.run_bind, h1, Result.andThen_ok, h2, Sem.run_pure]
      exact ih

theorem kindsFs_mem {ok : TypeId → Option (List PK)} : ∀ {fs : List Field} {off : Nat} {ks : List PK}, kindsFs P ok fs off = some ks → ∀ f ∈ fs, ∃ k1, ok f.type = some k1 ∧ f.offset + k1.length ≤ off + ks.length
  | [], off, ks, h, f, hf => by simp at hf
  | f0 :: fs, off, ks, h, f, hf => by
    simp only [kindsFs] at h
    split at h
    · rename_i hn
      simp only [Bool.and_eq_true, beq_iff_eq] at hn
      split at h
      · rename_i k1 hk1
        split at h
        · rename_i k2 hk2
          cases h
          rcases List.mem_cons.1 hf with rfl | hf'
          · exact ⟨k1, hk1, by rw [hn.2, List.length_append]; omega⟩
          · obtain ⟨k, h1, h2⟩ := kindsFs_mem hk2 f hf'
            exact ⟨k, h1, by rw [List.length_append]; omega⟩
        · cases h
      · cases h
    · cases h

theorem check_flat {empty : Bool} {g : Gh} : ∀ (d : Nat) (t : TypeId) (ks : List PK) (cs : List V) (xs : List Value) (off : Nat), kindsT P d t = some ks → VRL g cs xs → off + ks.length ≤ cs.length →
    ∃ x, (part t ⟨xs⟩ off).run P w = .ok x w ∧ ∀ n, d ≤ n → (Instr.checkKey empty n t x).run P w = .ok () w
  | 0, t, ks, cs, xs, off, hk, _, _ => by simp [kindsT] at hk
  | d + 1, t, ks, cs, xs, off, hk, hc, hl => by
    have hsz := kindsT_size hk
    have hlen := hc.length
    simp only [kindsT, hsz] at hk
    split at hk
    · rename_i hu
      have ha : tAgg P t = some false := by simp [tAgg, hu]
      split at hk
      · cases hk
        have h1 : off < xs.length := by simp at hl; omega
        refine ⟨xs[off], by simp [part, run_agg ha, h1], fun n hn => ?_⟩
        obtain ⟨n, rfl⟩ : ∃ k, n = k + 1 := ⟨n - 1, by omega⟩
        simp [Instr.checkKey, run_under hu]
      · cases hk
    · rename_i kk hu
      have ha : tAgg P t = some false := by simp [tAgg, hu]
      split at hk
      · cases hk
        have h1 : off < xs.length := by simp at hl; omega
        refine ⟨xs[off], by simp [part, run_agg ha, h1], fun n hn => ?_⟩
        obtain ⟨n, rfl⟩ : ∃ k, n = k + 1 := ⟨n - 1, by omega⟩
        simp [Instr.checkKey, run_under hu]
      · cases hk
    · rename_i hu
      have ha : tAgg P t = some false := by simp [tAgg, hu]
      split at hk
      · cases hk
        have h1 : off < xs.length := by simp at hl; omega
        refine ⟨xs[off], by simp [part, run_agg ha, h1], fun n hn => ?_⟩
        obtain ⟨n, rfl⟩ : ∃ k, n = k + 1 := ⟨n - 1, by omega⟩
        simp [Instr.checkKey, run_under hu]
      · cases hk
    · rename_i fs hu
      have ha : tAgg P t = some true := by simp [tAgg, hu]
      split at hk
      · cases hk
      · split at hk
        · rename_i ks' hfs
          split at hk
          · cases hk
            refine ⟨.agg ⟨(xs.drop off).take ks.length⟩, by simp [part, run_agg ha, run_size hsz, List.extract_eq_take_drop], fun n hn => ?_⟩
            obtain ⟨n, rfl⟩ : ∃ k, n = k + 1 := ⟨n - 1, by omega⟩
            simp only [Instr.checkKey, Sem.run_bind, run_under hu, Result.andThen_ok]
            rw [← Array.forIn_toList]
            rw [check_fields fs.toList (fun f hf _ => ?_)]
            · rfl
            obtain ⟨k1, h1, h2⟩ := kindsFs_mem hfs f hf
            obtain ⟨x, h3, h4⟩ := check_flat d f.type k1 ((cs.drop off).take ks.length) ((xs.drop off).take ks.length) f.offset h1 ((hc.drop).take) (by simp; omega)
            exact ⟨x, h3, h4 n (by omega)⟩
          · cases hk
        · cases hk
    · cases hk

theorem run_checkKey {kt : TypeId} {kk : KK} {empty : Bool} (hk : (∃ k, P.underlying kt = some (.int k) ∧ kk = .int k) ∨ (P.underlying kt = some .string ∧ kk = .str) ∨ (∃ fs ks, P.underlying kt = some (.struct fs) ∧ kindsT P 20 kt = some ks ∧ kk = .agg ks))
    {k : V} {x : Value} (hx : VR g k x) (hf : keyFits kk k = true) : (Instr.checkKey empty 10000 kt x).run P w = .ok () w := by
  rcases hk with ⟨k', hu, rfl⟩ | ⟨hu, rfl⟩ | ⟨fs, ks, hu, hks, rfl⟩
  · have : ∀ n, (Instr.checkKey empty (n + 1) kt x).run P w = .ok () w := fun n => by simp [Instr.checkKey, run_under hu]
    exact this 9999
  · have : ∀ n, (Instr.checkKey empty (n + 1) kt x).run P w = .ok () w := fun n => by simp [Instr.checkKey, run_under hu]
    exact this 9999
  · cases k with
    | agg cs =>
      simp only [VR] at hx
      obtain ⟨xs, rfl, hc⟩ := hx
      simp only [keyFits, beq_iff_eq] at hf
      obtain ⟨y, h1, h2⟩ := check_flat (P := P) (w := w) (empty := empty) 20 kt ks cs xs 0 hks hc (by omega)
      have ha : tAgg P kt = some true := by simp [tAgg, hu]
      have : (part kt ⟨xs⟩ 0).run P w = .ok (.agg ⟨xs⟩) w := by
        have := hc.length
        simp [part, run_agg ha, run_size (kindsT_size hks), List.extract_eq_take_drop]
        rw [List.take_of_length_le (by omega)]
      rw [this] at h1; cases h1
      exact h2 10000 (by omega)
    | _ => simp [keyFits] at hf

/-- A map's entries, in memory. -/
theorem map_entries (h : Rel w0 D g H w) {d i b : Nat} {es : List (V × V)} (ho : H.obj d i = some (.map es)) (hb : g.ρ d i = some b) :
    ∃ ents clock, w.heap[b]? = some (.map ⟨ents⟩ clock) ∧ ER (g.restr d) es ents := by
  obtain ⟨x, hx, hr⟩ := h.obj d i _ b ho hb
  obtain ⟨ents, clock, rfl, he⟩ := hr
  exact ⟨ents, clock, hx, he⟩
theorem run_getMap {b : Nat} {ents : Array MapEntry} {clock : Nat} (hx : w.heap[b]? = some (.map ents clock)) : (getObj b).run P w = .ok (.map ents clock) w := by
  simp [getObj, Sem.run, hx]

theorem sim_lookup {t : TypeId} {kk : KK} {z m k r : V} {ok : Bool} {x y : Value} (h : Rel w0 D g H w) (ht : tMap P t = some (kk, z)) (hm : VR g m x) (hk : VR g k y) (hr : pLookup kk z m k ok H = some r) :
    ∃ u, (Instr.lookup t x y ok).run P w = .ok u w ∧ VR g r u := by
  obtain ⟨kt, e, hu, hz, hkk⟩ := tMap_spec ht
  unfold pLookup at hr
  split at hr
  · rename_i hf
    obtain ⟨c, rfl, hrz⟩ := run_zero (w := w) hz
    have fin : ∀ (fv : Option V) (ents : List MapEntry), (match fv with | none => (Instr.findKey kt y ents).run P w = .ok none w | some v => ∃ j xv, (Instr.findKey kt y ents).run P w = .ok (some (j, xv)) w ∧ VR g v xv) →
        (match fv with | some v => some (if ok then V.tup [v, .bool true] else v) | none => some (if ok then V.tup [ofConst c, .bool false] else ofConst c)) = some r →
        ∃ u, (do
          Instr.checkKey (⟨ents⟩ : Array MapEntry).isEmpty 10000 kt y
          let (v, ok') ← match ← Instr.findKey kt y ents with
            | some (_, v) => pure (v, true)
            | none => do pure (← zeroValue e, false)
          pure (if ok then .tuple #[v, .bool ok'] else v) : Sem Value).run P w = .ok u w ∧ VR g r u := by
      intro fv ents h1 h2
      cases fv with
      | none =>
        simp only [Option.some.injEq] at h2; subst h2
        refine ⟨if ok then .tuple #[c, .bool false] else c, ?_, ?_⟩
        · simp only [Sem.run_bind, run_checkKey hkk hk hf, Result.andThen_ok, h1, hrz, Sem.run_pure]
        · cases ok
          · simpa using VR.ofConst g c
          · simp only [if_true, VR]; exact ⟨[c, .bool false], rfl, VRL.cons (VR.ofConst g c) (VRL.cons (by simp [VR]) (VRL.nil g))⟩
      | some v =>
        obtain ⟨j, xv, h3, h4⟩ := h1
        simp only [Option.some.injEq] at h2; subst h2
        refine ⟨if ok then .tuple #[xv, .bool true] else xv, ?_, ?_⟩
        · simp only [Sem.run_bind, run_checkKey hkk hk hf, Result.andThen_ok, h3, Sem.run_pure]
        · cases ok
          · simpa using h4
          · simp only [if_true, VR]; exact ⟨[xv, .bool true], rfl, VRL.cons h4 (VRL.cons (by simp [VR]) (VRL.nil g))⟩
    unfold aLookup at hr
    cases m with
    | nilm =>
      simp only [VR] at hm; subst hm
      simp only at hr
      obtain ⟨u, h1, h2⟩ := fin none [] (by simp [Instr.findKey, Instr.findNow]; rcases hkk with ⟨k', hu', _⟩ | ⟨hu', _⟩ | ⟨fs, ks, hu', _⟩ <;> simp [run_under hu']) hr
      refine ⟨u, ?_, h2⟩
      simp only [Instr.lookup, Sem.run_bind, run_under hu, Result.andThen_ok, Sem.run_pure]
      simp only [Sem.run_bind] at h1
      exact h1
    | mapr d i =>
      simp only [VR] at hm
      obtain ⟨b, hb, rfl⟩ := hm
      simp only at hr
      split at hr
      · rename_i v hfm
        split at hfm
        · rename_i es ho
          obtain ⟨ents, clock, hx, he⟩ := map_entries h ho hb
          obtain ⟨j, a, en, q1, q2, q3, q4, q5, q6, _⟩ := run_findKey (w := w) hkk hk (he.mono (Gh.restr_le _ _)) hfm
          obtain ⟨u, h1, h2⟩ := fin (some v) ents ⟨j, en.val, q6, q4⟩ hr
          refine ⟨u, ?_, h2⟩
          simp only [Instr.lookup, Sem.run_bind, run_under hu, Result.andThen_ok, run_getMap hx, Sem.run_pure]
          simp only [Sem.run_bind] at h1
          exact h1
        · cases hfm
      · rename_i hfm
        split at hfm
        · rename_i es ho
          obtain ⟨ents, clock, hx, he⟩ := map_entries h ho hb
          obtain ⟨q6, _⟩ := run_findKey (w := w) hkk hk (he.mono (Gh.restr_le _ _)) hfm
          obtain ⟨u, h1, h2⟩ := fin none ents q6 hr
          refine ⟨u, ?_, h2⟩
          simp only [Instr.lookup, Sem.run_bind, run_under hu, Result.andThen_ok, run_getMap hx, Sem.run_pure]
          simp only [Sem.run_bind] at h1
          exact h1
        · cases hfm
      · cases hr
    | _ => simp at hr
  · cases hr
end

end Go.Abs
