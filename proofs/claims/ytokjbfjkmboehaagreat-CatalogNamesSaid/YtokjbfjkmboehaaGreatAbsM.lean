/- Operations that read memory, together. -/
import Derived.Test.YtokjbfjkmboehaaGreatAbsL
set_option linter.unusedVariables false
set_option linter.unusedSimpArgs false
namespace Go.Abs
open Go.RowKit

section
variable {P : Program} {w0 w : World} {D : Nat} {g : Gh} {H : Hp}

theorem sim_len {t : TypeId} {ats : Array TypeId} {ty : TypeId} {k : LK} {v r : V} {x : Value} (h : Rel w0 D g H w) (hat : ats[0]? = some t) (hk : match k with | .str => P.underlying t = some .string | .sl => ∃ e, P.underlying t = some (.slice e) | .map => ∃ a b, P.underlying t = some (.map a b))
    (hv : VR g v x) (hr : pLen k v H = some r) : ∃ z, (Builtin.len_ ats ty #[x]).run P w = .ok z w ∧ VR g r z := by
  cases k with
  | str =>
    cases v with
    | str s =>
      simp only [VR] at hv; subst hv
      simp only [pLen, Option.some.injEq] at hr; subst hr
      exact ⟨_, by simp [Builtin.len_, hat, run_under hk]; rfl, by simp [VR, goInt]; rfl⟩
    | _ => simp [pLen] at hr
  | sl =>
    obtain ⟨e, hk⟩ := hk
    cases v with
    | sl n cs tk =>
      simp only [VR] at hv
      obtain ⟨base, cap, ys, rfl, _⟩ := hv
      simp only [pLen, Option.some.injEq] at hr; subst hr
      exact ⟨_, by simp [Builtin.len_, hat, run_under hk]; rfl, by simp [VR, goInt]⟩
    | sref d i o n s =>
      simp only [VR] at hv
      obtain ⟨b, cap, m, _, rfl, _⟩ := hv
      simp only [pLen, Option.some.injEq] at hr; subst hr
      exact ⟨_, by simp [Builtin.len_, hat, run_under hk]; rfl, by simp [VR, goInt]⟩
    | _ => simp [pLen] at hr
  | map =>
    obtain ⟨a, b, hk⟩ := hk
    cases v with
    | nilm =>
      simp only [VR] at hv; subst hv
      simp only [pLen, Option.some.injEq] at hr; subst hr
      exact ⟨_, by simp [Builtin.len_, hat, run_under hk]; rfl, by simp [VR, goInt]⟩
    | mapr d i =>
      simp only [VR] at hv
      obtain ⟨b', hb, rfl⟩ := hv
      simp only [pLen] at hr
      split at hr
      · rename_i es ho
        cases hr
        obtain ⟨ents, clock, hx, he⟩ := map_entries h ho hb
        refine ⟨_, by simp [Builtin.len_, hat, run_under hk, run_getMap hx]; rfl, ?_⟩
        simp [VR, goInt, he.length]
      · cases hr
    | _ => simp [pLen] at hr

/-! ### Conversions -/

theorem toBytes_spec : ∀ {cs : List V} {bs : List UInt8} {ys : List Value}, toBytes cs = some bs → VRL g cs ys → ∃ ns : List Int, ys = ns.map (fun n => .int .u8 n) ∧ bs = ns.map fun n => UInt8.ofNat n.toNat
  | [], bs, ys, h, hc => by
    simp only [toBytes, Option.some.injEq] at h; subst h
    simp only [VRL] at hc; subst hc
    exact ⟨[], rfl, rfl⟩
  | v :: cs, bs, ys, h, hc => by
    simp only [toBytes] at h
    split at h
    · rename_i b hb
      split at h
      · rename_i bs' hbs
        cases h
        simp only [VRL] at hc
        obtain ⟨y, ys', rfl, h1, h2⟩ := hc
        obtain ⟨ns, rfl, rfl⟩ := toBytes_spec hbs h2
        unfold toByte at hb
        split at hb
        · rename_i n
          cases hb
          simp only [VR] at h1; subst h1
          exact ⟨n :: ns, rfl, rfl⟩
        · cases hb
      · cases h
    · cases h

theorem run_pushBytes : ∀ (ns : List Int) (s : ByteArray),
    (forIn (ns.map (fun n => Value.int .u8 n)) s fun c (s : ByteArray) => (match c with
      | .int .u8 n => pure (ForInStep.yield (s.push (UInt8.ofNat n.toNat)))
      | _ => do
        stuck "bytesToString: byte expected"
        pure (ForInStep.yield s) : Sem (ForInStep ByteArray))).run P w = .ok ⟨⟨s.data.toList ++ ns.map fun n => UInt8.ofNat n.toNat⟩⟩ w
  | [], s => by simp
  | n :: ns, s => by
    simp only [List.map_cons, List.forIn_cons, Sem.run_bind, Sem.run_pure, Result.andThen_ok]
    rw [run_pushBytes ns]
    congr 1
    apply ByteArray.ext
    apply Array.toList_inj.1
    simp [ByteArray.data_push]

theorem run_bytesToString {x : Value} {ns : List Int} (hx : (x = .slice none 0 0 ∧ ns = []) ∨ ∃ b o len cap full ty fz, x = .slice (some ⟨b, o, none⟩) len cap ∧ ns.length = len ∧
      (len = 0 ∨ (w.heap[b]? = some (.cells ⟨full⟩ ty fz) ∧ o + len ≤ full.length ∧ (full.drop o).take len = ns.map (fun n => .int .u8 n)))) :
    (Conv.bytesToString x).run P w = .ok (.string ⟨⟨ns.map fun n => UInt8.ofNat n.toNat⟩⟩) w := by
  rcases hx with ⟨rfl, rfl⟩ | ⟨b, o, len, cap, full, ty, fz, rfl, hn, hm⟩
  · simp [Conv.bytesToString]; rfl
  · have hl : (loadCells ⟨b, o, none⟩ len).run P w = .ok ⟨ns.map (fun n => .int .u8 n)⟩ w := by
      rcases hm with h0 | ⟨h1, h2, h3⟩
      · subst h0
        have : ns = [] := List.eq_nil_of_length_eq_zero hn
        subst this
        simp [loadCells, loadCellsFrom]
      · rw [run_loadCells h1 h2, h3]
    simp only [Conv.bytesToString, Sem.run_bind, hl, Result.andThen_ok]
    rw [← Array.forIn_toList]
    have := run_pushBytes (P := P) (w := w) ns ByteArray.empty
    refine Eq.trans (congrArg (fun r : Result ByteArray => r.andThen fun a w' => Sem.run P (pure (Value.string a)) w') this) ?_
    simp

/-- A slice's cells, of either kind, in memory. -/
theorem slice_cells' (h : Rel w0 D g H w) {v : V} {x : Value} {len : Nat} {cs : List V} (hv : VR g v x)
    (hc : (∃ t, v = .sl len cs t) ∨ ∃ d i off s all, v = .sref d i off len s ∧ H.obj d i = some (.cells all) ∧ off + len * s ≤ all.length ∧ cs = (all.drop off).take (len * s)) :
    ∃ base cap ys, x = .slice base len cap ∧ len ≤ cap ∧ VRL g cs ys ∧ (base = none → ys = [] ∧ cap = 0) ∧ (∀ a, base = some a → a.spot = none) ∧
      (ys ≠ [] → ∃ b o full ty fz, base = some ⟨b, o, none⟩ ∧ w.heap[b]? = some (.cells ⟨full⟩ ty fz) ∧ o + ys.length ≤ full.length ∧ (full.drop o).take ys.length = ys) ∧ ((∃ t, v = .sl len cs t) → VRL (g.restr 0) cs ys) := by
  rcases hc with ⟨t, rfl⟩ | ⟨d, i, off, s, all, rfl, ho, hle, rfl⟩
  · simp only [VR] at hv
    obtain ⟨base, cap, ys, rfl, hl, hcs, hs⟩ := hv
    refine ⟨base, cap, ys, rfl, hl, hcs.mono (Gh.restr_le _ _), hs.1, hs.2.1, fun hne => ?_, fun _ => hcs⟩
    obtain ⟨b, o, rfl, full, hf, hseg⟩ := hs.2.2.1 hne
    obtain ⟨zs, ty, fz, hx⟩ := h.Φok b full hf
    have hseg' : ∀ j y, ys[j]? = some y → (full ++ zs)[o + j]? = some y := fun j y hj => by
      have := hseg j y hj
      rw [List.getElem?_append_left (List.getElem?_eq_some_iff.1 this).1]; exact this
    rcases take_of_seg hseg' (Nat.le_refl ys.length) with ⟨h1, h2⟩ | h0
    · exact ⟨b, o, full ++ zs, ty, fz, rfl, hx, h1, by rw [h2, List.take_length]⟩
    · exact (hne (List.eq_nil_of_length_eq_zero h0)).elim
  · simp only [VR] at hv
    obtain ⟨b, cap, n, hρ, rfl, hl, hB, hn⟩ := hv
    obtain ⟨ob, hx, hr⟩ := h.obj d i _ b ho hρ
    obtain ⟨ys, zs, ty, fz, rfl, hyr, _⟩ := hr
    have hyl := hyr.length
    refine ⟨some ⟨b, off, none⟩, cap, (ys.drop off).take (len * s), rfl, hl, ((hyr.mono (Gh.restr_le _ _)).drop).take, (fun e => by cases e), (fun a e => by cases e; rfl), fun hne => ?_, fun ⟨_, e⟩ => by cases e⟩
    have hlen : ((ys.drop off).take (len * s)).length = len * s := by simp; omega
    refine ⟨b, off, ys ++ zs, ty, fz, rfl, hx, by rw [hlen]; simp; omega, ?_⟩
    rw [hlen, List.drop_append_of_le_length (by omega), List.take_append_of_le_length (by simp; omega)]

theorem slice_cells (h : Rel w0 D g H w) {v : V} {x : Value} {len : Nat} {cs : List V} (hv : VR g v x)
    (hc : (∃ t, v = .sl len cs t) ∨ ∃ d i off s all, v = .sref d i off len s ∧ H.obj d i = some (.cells all) ∧ off + len * s ≤ all.length ∧ cs = (all.drop off).take (len * s)) :
    ∃ base cap ys, x = .slice base len cap ∧ len ≤ cap ∧ VRL g cs ys ∧ (base = none → ys = [] ∧ cap = 0) ∧ (∀ a, base = some a → a.spot = none) ∧
      (ys ≠ [] → ∃ b o full ty fz, base = some ⟨b, o, none⟩ ∧ w.heap[b]? = some (.cells ⟨full⟩ ty fz) ∧ o + ys.length ≤ full.length ∧ (full.drop o).take ys.length = ys) := by
  obtain ⟨base, cap, ys, h1, h2, h3, h4, h5, h6, _⟩ := slice_cells' h hv hc
  exact ⟨base, cap, ys, h1, h2, h3, h4, h5, h6⟩

theorem heap_freeze_new {w : World} {c : Array Value} {e : TypeId} (n : Nat) (hn : n = c.size) : (w.alloc (.cells c e)).freeze ⟨w.heap.size, n, none⟩ 1 = w.alloc (.cells c e (n, n + 1)) := by
  simp only [World.freeze]
  have : (w.heap.push (.cells c e)).modify w.heap.size (fun
      | .cells c elem (lo, hi) => .cells c elem (if lo == hi then (n, n + 1) else (min lo n, max hi (n + 1)))
      | o => o) = w.heap.push (.cells c e (n, n + 1)) := by
    apply Array.ext_getElem?
    intro i
    rw [Array.getElem?_modify, Array.getElem?_push, Array.getElem?_push]
    by_cases hi : i = w.heap.size
    · subst hi; simp
    · have : ¬ w.heap.size = i := fun h => hi h.symm
      simp [hi, this]
  exact congrArg (fun hp => ({ heap := hp, tape := w.tape, drawn := w.drawn, os := w.os, output := w.output } : World)) this

theorem bytes_rel {g : Gh} : ∀ (s : List UInt8), VRL g (s.map fun b => V.int .u8 b.toNat) (s.map fun b => Value.int .u8 b.toNat)
  | [] => by simp [VRL]
  | b :: s => by simp only [List.map_cons]; exact VRL.cons (by simp [VR]) (bytes_rel s)

/-- The model's run of '[]byte(s)'. -/
theorem run_stringToBytes {e : TypeId} {s : List UInt8} (hs : s.length ≤ mostBytes) : ∃ zs cap, s.length ≤ cap ∧ cap = s.length + zs.length ∧ (Conv.stringToBytes e ⟨⟨s⟩⟩).run P w =
    .ok (.slice (some ⟨w.heap.size, 0, none⟩) s.length cap) (w.drew.alloc (.cells ⟨(s.map fun b => Value.int .u8 b.toNat) ++ zs⟩ e (cap, cap + 1))) := by
  let q : Question := .appendCap s.length 0 e
  have hcut : s.length ≤ q.cut (w.tape w.drawn q) := by show s.length ≤ s.length + _; omega
  refine ⟨List.replicate (q.cut (w.tape w.drawn q) - s.length) (.int .u8 0), q.cut (w.tape w.drawn q), hcut, by simp; omega, ?_⟩
  have hsz : (⟨⟨s⟩⟩ : ByteArray).size = s.length := rfl
  have hq : (Question.appendCap s.length 0 e).forced = false := rfl
  simp only [Conv.stringToBytes, hsz, Sem.run_bind, run_choose, hq, Bool.false_eq_true, if_false, Result.andThen_ok, newRow, run_newObj, Sem.run_pure, markStringish, run_shape]
  have hsh : World.shape? (w.drew.alloc (.cells (((⟨s⟩ : Array UInt8).map fun b => Value.int .u8 b.toNat) ++ Array.replicate (q.cut (w.tape w.drawn q) - s.length) (.int .u8 0)) e)) w.heap.size = some (e, q.cut (w.tape w.drawn q)) := by
    have : (w.drew.alloc (.cells (((⟨s⟩ : Array UInt8).map fun b => Value.int .u8 b.toNat) ++ Array.replicate (q.cut (w.tape w.drawn q) - s.length) (.int .u8 0)) e)).heap[w.heap.size]? = some (.cells (((⟨s⟩ : Array UInt8).map fun b => Value.int .u8 b.toNat) ++ Array.replicate (q.cut (w.tape w.drawn q) - s.length) (.int .u8 0)) e) := heap_alloc_new (w := w.drew)
    simp only [World.shape?, this]
    simp; omega
  have hw : ({ heap := w.heap.push (.cells (((⟨⟨s⟩⟩ : ByteArray).data.map fun b => Value.int .u8 b.toNat) ++ Array.replicate (q.cut (w.tape w.drawn q) - s.length) (.int .u8 0)) e), tape := w.tape, drawn := w.drawn + 1, os := w.os, output := w.output } : World) =
      w.drew.alloc (.cells (((⟨s⟩ : Array UInt8).map fun b => Value.int .u8 b.toNat) ++ Array.replicate (q.cut (w.tape w.drawn q) - s.length) (.int .u8 0)) e) := rfl
  rw [hw, hsh]
  simp only [Sem.run_bind, run_freeze, Result.andThen_ok, Sem.run_pure]
  rw [show w.heap.size = w.drew.heap.size from rfl, heap_freeze_new _ (by simp; omega)]
  congr 2
  congr 1
  apply Array.toList_inj.1
  simp

theorem tConv_spec {src dst : TypeId} {c : CK} (h : tConv P src dst = some c) :
    match c with
    | .toInt k => (∃ k', P.underlying src = some (.int k')) ∧ P.underlying dst = some (.int k)
    | .same => P.underlying src = some .string ∧ P.underlying dst = some .string
    | .toBytes => P.underlying src = some .string ∧ ∃ e, P.underlying dst = some (.slice e) ∧ P.underlying e = some (.int .u8)
    | .toStr => (∃ e, P.underlying src = some (.slice e) ∧ P.underlying e = some (.int .u8)) ∧ P.underlying dst = some .string := by
  unfold tConv at h
  split at h
  · rename_i k' k h1 h2; cases h; exact ⟨⟨k', h1⟩, h2⟩
  · rename_i h1 h2; cases h; exact ⟨h1, h2⟩
  · rename_i e h1 h2
    split at h
    · rename_i h3; cases h; exact ⟨h1, e, h2, h3⟩
    · cases h
  · rename_i e h1 h2
    split at h
    · rename_i h3; cases h; exact ⟨⟨e, h1, h3⟩, h2⟩
    · cases h
  · cases h

theorem convert_slice {src dst e : TypeId} {x : Value} (h1 : P.underlying src = some (.slice e)) (h2 : P.underlying dst = some .string) (h3 : P.underlying e = some (.int .u8)) {base : Option Addr} {len cap : Nat} (hx : x = .slice base len cap) :
    (convert src dst x).run P w = (Conv.bytesToString x).run P w := by
  subst hx
  simp only [convert, Sem.run_bind, run_under h1, run_under h2, Result.andThen_ok, run_under h3]

theorem sim_conv {src dst : TypeId} {c : CK} {v r : V} {x : Value} (h : Rel w0 D g H w) (hc : tConv P src dst = some c) (hv : VR g v x) (hr : pConv c v H = some r) :
    ∃ z g' w', (convert src dst x).run P w = .ok z w' ∧ VR g' r z ∧ Rel w0 D g' H w' ∧ Grow g g' H := by
  have hs := tConv_spec hc
  cases c with
  | toInt k =>
    obtain ⟨⟨k', h1⟩, h2⟩ := hs
    cases v with
    | int k0 n =>
      simp only [pConv, Option.some.injEq] at hr; subst hr
      simp only [VR] at hv; subst hv
      exact ⟨_, g, w, by simp [convert, run_under h1, run_under h2, Conv.intToInt]; rfl, by simp [VR, wrap_eq], h, Grow.refl _ _⟩
    | _ => simp [pConv] at hr
  | same =>
    obtain ⟨h1, h2⟩ := hs
    cases v with
    | str s =>
      simp only [pConv, Option.some.injEq] at hr; subst hr
      simp only [VR] at hv; subst hv
      exact ⟨_, g, w, by simp [convert, run_under h1, run_under h2]; rfl, by simp [VR], h, Grow.refl _ _⟩
    | _ => simp [pConv] at hr
  | toBytes =>
    obtain ⟨h1, e, h2, h3⟩ := hs
    cases v with
    | str s =>
      simp only [pConv] at hr
      split at hr
      · rename_i hl
        cases hr
        simp only [VR] at hv; subst hv
        obtain ⟨zs, cap, c1, c2, hrun⟩ := run_stringToBytes (P := P) (w := w) (e := e) hl
        obtain ⟨g', q1, q2, q3⟩ := newSl (zs := zs) h.drew (bytes_rel (g := g.restr 0) s) e (cap, cap + 1) s.length cap c1 .dead (.inl rfl)
        refine ⟨_, g', _, ?_, q1, q2, q3⟩
        simp only [convert, Sem.run_bind, run_under h1, run_under h2, Result.andThen_ok, run_under h3]
        exact hrun
      · cases hr
    | _ => simp [pConv] at hr
  | toStr =>
    obtain ⟨⟨e, h1, h3⟩, h2⟩ := hs
    have fin : ∀ (len : Nat) (cs : List V) (bs : List UInt8), ((∃ t, v = .sl len cs t) ∨ ∃ d i off s all, v = .sref d i off len s ∧ H.obj d i = some (.cells all) ∧ off + len * s ≤ all.length ∧ cs = (all.drop off).take (len * s)) →
        cs.length = len → toBytes cs = some bs → r = .str bs → ∃ z g' w', (convert src dst x).run P w = .ok z w' ∧ VR g' r z ∧ Rel w0 D g' H w' ∧ Grow g g' H := by
      intro len cs bs hcs hlen hbs hrr
      subst hrr
      obtain ⟨base, cap, ys, rfl, hle, hcr, hb1, hb2, hb3⟩ := slice_cells h hv hcs
      obtain ⟨ns, rfl, rfl⟩ := toBytes_spec hbs hcr
      have hyl := hcr.length
      simp only [List.length_map] at hyl
      refine ⟨.string ⟨⟨ns.map fun n => UInt8.ofNat n.toNat⟩⟩, g, w, ?_, ?_, h, Grow.refl _ _⟩
      · rw [convert_slice h1 h2 h3 rfl]
        refine run_bytesToString ?_
        cases base with
        | none =>
          obtain ⟨e1, e2⟩ := hb1 rfl
          have : len = 0 := by omega
          subst this; subst e2
          exact .inl ⟨rfl, by simpa using e1⟩
        | some ad =>
          obtain ⟨b, o, sp⟩ := ad
          have := hb2 _ rfl
          simp only at this; subst this
          refine .inr ?_
          by_cases h0 : len = 0
          · exact ⟨b, o, len, cap, [], 0, (0, 0), rfl, by omega, .inl h0⟩
          · have hne : ns.map (fun n => Value.int .u8 n) ≠ [] := by
              intro hn
              have : ns = [] := by simpa using hn
              subst this; simp at hyl; omega
            obtain ⟨b', o', full, ty, fz, e1, e2, e3, e4⟩ := hb3 hne
            cases e1
            simp only [List.length_map] at e3 e4
            refine ⟨b, o, len, cap, full, ty, fz, rfl, by omega, .inr ⟨e2, by omega, ?_⟩⟩
            rw [show len = ns.length by omega]; exact e4
      · simp only [VR]
    cases v with
    | sl n cs t =>
      simp only [pConv] at hr
      split at hr
      · rename_i hl
        split at hr
        · rename_i bs hbs; cases hr
          exact fin n cs bs (.inl ⟨t, rfl⟩) hl hbs rfl
        · cases hr
      · cases hr
    | sref d i off n s =>
      simp only [pConv] at hr
      split at hr
      · rename_i all ho
        split at hr
        · rename_i hl
          obtain ⟨hl, rfl⟩ := hl
          split at hr
          · rename_i bs hbs; cases hr
            exact fin n _ bs (.inr ⟨d, i, off, 1, all, rfl, ho, by omega, by rw [Nat.mul_one]⟩) (by simp; omega) hbs rfl
          · cases hr
        · cases hr
      · cases hr
    | _ => simp [pConv] at hr

/-- The model's run of 'make([]T, len, cap)'. -/
theorem run_makeSlice {t e : TypeId} {z : List V} {by_ : Nat} {l c : Int} (hu : P.underlying t = some (.slice e)) (hz : tZ P e = some z) (hb : tBytes P e = some by_) (h0 : 0 ≤ l) (h1 : l ≤ c) (h2 : c ≤ 9223372036854775807) (h3 : c.toNat * (by_ + 1) ≤ mostBytes) :
    ∃ zs, VRL ⟨fun _ _ => none, fun _ => none, fun _ _ _ => none, fun _ => none⟩ z zs ∧ zs.length = z.length ∧ (Instr.makeSlice t (.int .i64 l) (.int .i64 c)).run P w = .ok (.slice (some ⟨w.heap.size, 0, none⟩) l.toNat c.toNat) (w.alloc (.cells ⟨(List.replicate c.toNat zs).flatten⟩ e)) := by
  obtain ⟨cz, hzc, hrz, hsz, hcs⟩ := tZ_spec hz w
  have hvz := ofConst_cells ⟨fun _ _ => none, fun _ => none, fun _ _ _ => none, fun _ => none⟩ cz
  rw [← hzc] at hvz
  refine ⟨cz.cells.toList, hvz, by simpa using hcs, ?_⟩
  have wl : IntKind.i64.wrap l = l := by simp only [IntKind.wrap, IntKind.signed, IntKind.bits]; simp; omega
  have wc : IntKind.i64.wrap c = c := by simp only [IntKind.wrap, IntKind.signed, IntKind.bits]; simp; omega
  obtain ⟨ie, hie, hby⟩ : ∃ i, P.info? e = some i ∧ i.bytes = by_ := by
    unfold tBytes at hb
    split at hb
    · rename_i i hi; cases hb; exact ⟨i, hi, rfl⟩
    · cases hb
  have hbig : ¬ ((ie.bytes : Int) * c > 281474976710656) := by
    have : (c.toNat : Int) = c := by omega
    rw [hby, ← this]
    have h4 : by_ * c.toNat ≤ c.toNat * (by_ + 1) := by rw [Nat.mul_comm]; exact Nat.mul_le_mul_left _ (by omega)
    unfold mostBytes at h3
    have : ((by_ * c.toNat : Nat) : Int) ≤ 1099511627776 := by omega
    push_cast at this
    omega
  have hcond : ¬ ((decide (c < 0) || decide ((ie.bytes : Int) * c > 281474976710656) || decide (l < 0) || decide (l > c)) = true) := by
    simp only [Bool.or_eq_true, decide_eq_true_eq, not_or]
    exact ⟨⟨⟨by omega, hbig⟩, by omega⟩, by omega⟩
  have hrep : (Array.range (c.toNat * z.length)).map (fun i => (if c.toNat * z.length = 0 then (#[] : Array Value) else cz.cells)[i % (if c.toNat * z.length = 0 then (#[] : Array Value) else cz.cells).size]!) = ⟨(List.replicate c.toNat cz.cells.toList).flatten⟩ := by
    by_cases h0 : c.toNat * z.length = 0
    · have : (List.replicate c.toNat cz.cells.toList).flatten = [] := by
        apply List.eq_nil_of_length_eq_zero
        simp [List.length_flatten, hcs, h0]
      simp [h0, this]
    · simp only [h0, if_false]
      rw [← hcs]; exact range_map_rep _ _
  simp only [Instr.makeSlice, Sem.run_bind, run_under hu, Result.andThen_ok, asInt, asIntOf, Sem.run_pure, run_info hie, wl, wc]
  rw [if_neg (by simpa using hcond)]
  simp only [Sem.run_bind, run_askRoom, Result.andThen_ok, run_size hsz]
  split
  · rename_i h0
    simp only [if_pos h0] at hrep
    simp only [Sem.run_pure, Result.andThen_ok, hrep, newRow, Sem.run_bind, run_newObj]
    rfl
  · rename_i h0
    simp only [if_neg h0] at hrep
    simp only [Sem.run_bind, hrz, Result.andThen_ok, Sem.run_pure, hrep, newRow, run_newObj]
    rfl

theorem rep_length (z : List V) : ∀ n, (rep z n).length = n * z.length
  | 0 => by simp [rep]
  | n + 1 => by simp [rep, rep_length z n, Nat.succ_mul, Nat.add_comm]

/-- WHAT READS MEMORY AND LEAVES IT IS DONE AS HERE; what it makes is new memory. -/
theorem sim_read {T : List V} {a : Act} {o : Oper} {v : V} (h : Rel w0 D g H w) (hT : TR g T a.tmps) (hv : aRead P o T H = some v) :
    ∃ x g' w', (execOp a.eval o).run P w = .ok (.value x) w' ∧ VR g' v x ∧ Rel w0 D g' H w' ∧ Grow g g' H := by
  have same : ∀ {x : Value}, (execOp a.eval o).run P w = .ok (.value x) w → VR g v x → ∃ x g' w', (execOp a.eval o).run P w = .ok (.value x) w' ∧ VR g' v x ∧ Rel w0 D g' H w' ∧ Grow g g' H :=
    fun h1 h2 => ⟨_, g, w, h1, h2, h, Grow.refl _ _⟩
  unfold aRead at hv
  split at hv
  · rename_i t ad ho
    split at hv
    · rename_i b hb
      split at hv
      · rename_i n hn
        obtain ⟨z, e2, e3⟩ := sim_load h (hT.eval ad) hb hn hv
        exact same (x := z) (by simp [execOp, ho, e2]) e3
      · cases hv
    · cases hv
  · rename_i t m k ok ho
    split at hv
    · rename_i kk z ht
      obtain ⟨u, e2, e3⟩ := sim_lookup h ht (hT.eval m) (hT.eval k) hv
      exact same (x := u) (by simp [execOp, ho, e2]) e3
    · cases hv
  · rename_i args ats ho
    split at hv
    · rename_i x hargs
      have ha : args.map a.eval = #[a.eval x] := by rw [map_toList, hargs]; rfl
      split at hv
      · rename_i t rest hats
        have hat : ats[0]? = some t := by
          have : ats.toList[0]? = some t := by rw [hats]; rfl
          simpa using this
        have go : ∀ {k : LK}, (match k with | .str => P.underlying t = some .string | .sl => ∃ e, P.underlying t = some (.slice e) | .map => ∃ a b, P.underlying t = some (.map a b)) → pLen k (aEval T x) H = some v → ∃ x g' w', (execOp a.eval o).run P w = .ok (.value x) w' ∧ VR g' v x ∧ Rel w0 D g' H w' ∧ Grow g g' H := by
          intro k hk hr
          obtain ⟨z, e2, e3⟩ := sim_len (ty := o.type) h hat (by cases k <;> exact hk) (hT.eval x) hr
          exact same (x := z) (by simp [execOp, ho, resolve, ha, invoke, builtin, e2]) e3
        split at hv
        · rename_i hu; exact go (k := .str) hu hv
        · rename_i e hu; exact go (k := .sl) ⟨e, hu⟩ hv
        · rename_i e1 e2 hu; exact go (k := .map) ⟨e1, e2, hu⟩ hv
        · rename_i n e hu
          cases hv
          refine same (x := .int .i64 n) ?_ (by simp [VR])
          simp [execOp, ho, resolve, ha, invoke, builtin, Builtin.len_, hat, run_under hu, goInt]
        · cases hv
      · cases hv
    · cases hv
  · rename_i src dst x ho
    split at hv
    · rename_i c hc
      obtain ⟨z, g', w', e1, e2, e3, e4⟩ := sim_conv h hc (hT.eval x) hv
      exact ⟨z, g', w', by simp [execOp, ho, e1], e2, e3, e4⟩
    · cases hv
  · rename_i t l c ho
    split at hv
    · rename_i e hu
      split at hv
      · rename_i z hz
        split at hv
        · rename_i by_ hb
          have hl := hT.eval l
          have hc := hT.eval c
          unfold pMakeSl at hv
          split at hv
          · rename_i li e1; rw [e1] at hl
            split at hv
            · rename_i ci e2; rw [e2] at hc
              split at hv
              · rename_i hcond
                obtain ⟨c0, c1, c2, c3⟩ := hcond
                cases hv
                simp only [VR] at hl hc
                obtain ⟨zs, hzr, hzl, hrun⟩ := run_makeSlice (w := w) hu hz hb c0 c1 c2 c3
                have hle0 : Gh.le ⟨fun _ _ => none, fun _ => none, fun _ _ _ => none, fun _ => none⟩ (g.restr 0) := ⟨fun _ _ _ h => by simp at h, fun _ _ h => by simp at h, fun _ _ _ _ h => by simp at h, fun _ _ h => by simp at h⟩
                have hsplit : (List.replicate ci.toNat zs).flatten = (List.replicate li.toNat zs).flatten ++ (List.replicate (ci.toNat - li.toNat) zs).flatten := by
                  rw [← List.flatten_append, List.replicate_append_replicate]; congr 2; omega
                obtain ⟨g', q1, q2, q3⟩ := newSl (zs := (List.replicate (ci.toNat - li.toNat) zs).flatten) h (rep_rel (hzr.mono hle0) li.toNat) e (0, 0) li.toNat ci.toNat (by omega) (if li = ci then .full else .dead)
                  (by by_cases hlc : li = ci <;> simp [hlc])
                refine ⟨_, g', _, ?_, q1, q2, q3⟩
                simp only [execOp, ho, hl, hc, Sem.run_bind, hrun, Result.andThen_ok, Sem.run_pure]
                rw [hsplit]
              · cases hv
            · cases hv
          · cases hv
        · cases hv
      · cases hv
    · cases hv
  · cases hv
end

end Go.Abs
