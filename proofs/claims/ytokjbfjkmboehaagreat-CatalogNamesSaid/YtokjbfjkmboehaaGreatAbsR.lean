/- The relation between the abstract interpreter's values and heap and the model's: definitions, and that it grows. -/
import Derived.Test.YtokjbfjkmboehaaGreatAbsB
import Derived.Below
import Derived.Laws.Sem
import Derived.Laws.World
set_option linter.unusedVariables false
namespace Go.Abs
open Go.RowKit

structure Gh where
  ρ : Nat → Nat → Option Nat
  Φ : Nat → Option (List Value)
  κ : Nat → Nat → Nat → Option (Nat × Nat)
  B : Nat → Option Nat

def Gh.restr (g : Gh) (d0 : Nat) : Gh :=
  { g with ρ := fun d i => if d ≤ d0 then g.ρ d i else none, κ := fun d f p => if d ≤ d0 then g.κ d f p else none }

structure Gh.le (g g' : Gh) : Prop where
  ρ : ∀ d i b, g.ρ d i = some b → g'.ρ d i = some b
  Φ : ∀ b xs, g.Φ b = some xs → ∃ ys, g'.Φ b = some (xs ++ ys)
  κ : ∀ d f p x, g.κ d f p = some x → g'.κ d f p = some x
  B : ∀ b n, g.B b = some n → g'.B b = some n

theorem Gh.le.refl (g : Gh) : g.le g := ⟨fun _ _ _ h => h, fun b xs h => ⟨[], by simpa using h⟩, fun _ _ _ _ h => h, fun _ _ h => h⟩
theorem Gh.le.trans {a b c : Gh} (h : a.le b) (k : b.le c) : a.le c :=
  ⟨fun d i x hx => k.ρ _ _ _ (h.ρ _ _ _ hx),
   fun x xs hx => by
    obtain ⟨ys, hy⟩ := h.Φ _ _ hx
    obtain ⟨zs, hz⟩ := k.Φ _ _ hy
    exact ⟨ys ++ zs, by rw [hz, List.append_assoc]⟩,
   fun d f p x hx => k.κ _ _ _ _ (h.κ _ _ _ _ hx), fun b n hn => k.B _ _ (h.B _ _ hn)⟩
theorem Gh.restr_ρ {g : Gh} {d0 d i b : Nat} : (g.restr d0).ρ d i = some b ↔ d ≤ d0 ∧ g.ρ d i = some b := by
  simp only [Gh.restr]
  by_cases h : d ≤ d0 <;> simp [h]
theorem Gh.restr_κ {g : Gh} {d0 d f p : Nat} {x : Nat × Nat} : (g.restr d0).κ d f p = some x ↔ d ≤ d0 ∧ g.κ d f p = some x := by
  simp only [Gh.restr]
  by_cases h : d ≤ d0 <;> simp [h]
theorem Gh.le.restr {g g' : Gh} (h : g.le g') (d : Nat) : (g.restr d).le (g'.restr d) :=
  ⟨fun d' i b hb => Gh.restr_ρ.2 ⟨(Gh.restr_ρ.1 hb).1, h.ρ _ _ _ (Gh.restr_ρ.1 hb).2⟩,
   h.Φ,
   fun d' f p x hx => Gh.restr_κ.2 ⟨(Gh.restr_κ.1 hx).1, h.κ _ _ _ _ (Gh.restr_κ.1 hx).2⟩,
   h.B⟩
theorem Gh.restr_le (g : Gh) (d : Nat) : (g.restr d).le g :=
  ⟨fun d' i b hb => (Gh.restr_ρ.1 hb).2,
   fun b xs h => ⟨[], by simpa [Gh.restr] using h⟩,
   fun d' f p x hx => (Gh.restr_κ.1 hx).2,
   fun _ _ h => h⟩
theorem Gh.restr_restr (g : Gh) {d e : Nat} (h : e ≤ d) : (g.restr d).restr e = g.restr e := by
  unfold Gh.restr
  congr 1
  · funext d' i; by_cases h1 : d' ≤ e
    · simp [h1, Nat.le_trans h1 h]
    · simp [h1]
  · funext d' f p; by_cases h1 : d' ≤ e
    · simp [h1, Nat.le_trans h1 h]
    · simp [h1]
theorem Gh.restr_mono (g : Gh) {d e : Nat} (h : d ≤ e) : (g.restr d).le (g.restr e) := by
  rw [← Gh.restr_restr g h]; exact Gh.restr_le _ _

/-- So many cells are laid for ever from a place on. -/
def Gh.seg (g : Gh) (b o : Nat) (ys : List Value) : Prop :=
  ∃ full, g.Φ b = some full ∧ ∀ j y, ys[j]? = some y → full[o + j]? = some y

theorem Gh.seg.mono {g g' : Gh} (h : g.le g') {b o : Nat} {ys : List Value} (hs : g.seg b o ys) : g'.seg b o ys := by
  obtain ⟨full, hf, hy⟩ := hs
  obtain ⟨zs, hz⟩ := h.Φ _ _ hf
  refine ⟨full ++ zs, hz, fun j y hj => ?_⟩
  have := hy j y hj
  obtain ⟨hlt, _⟩ := List.getElem?_eq_some_iff.1 this
  rw [List.getElem?_append_left hlt]
  exact this

/-- What is known of a slice's memory. -/
def SL (g : Gh) (base : Option Addr) (ys : List Value) (len cap : Nat) (t : Tok) : Prop :=
  (base = none → ys = [] ∧ cap = 0) ∧ (∀ a, base = some a → a.spot = none) ∧
  (ys ≠ [] → ∃ b o, base = some ⟨b, o, none⟩ ∧ g.seg b o ys) ∧
  match t with
  | .nil => base = none
  | .full => cap = len
  | .dead => True
  | .room d f p => ∃ b o n s, base = some ⟨b, o, none⟩ ∧ g.κ d f p = some (b, o + ys.length) ∧ g.B b = some n ∧ 0 < s ∧ ys.length = len * s ∧ o + cap * s ≤ n

theorem SL.mono {g g' : Gh} (h : g.le g') {base : Option Addr} {ys : List Value} {len cap : Nat} {t : Tok} (hs : SL g base ys len cap t) : SL g' base ys len cap t := by
  obtain ⟨h1, h2, h3, h4⟩ := hs
  refine ⟨h1, h2, fun hy => ?_, ?_⟩
  · obtain ⟨b, o, e, s⟩ := h3 hy
    exact ⟨b, o, e, s.mono h⟩
  · cases t with
    | nil => exact h4
    | full => exact h4
    | dead => trivial
    | room d f p =>
      obtain ⟨b, o, n, s, e, hk, hb, r⟩ := h4
      exact ⟨b, o, n, s, e, h.κ _ _ _ _ hk, h.B _ _ hb, r⟩

mutual
def VR : Gh → V → Value → Prop
  | _, .undef, x => x = Go.undef
  | _, .unk, _ => True
  | _, .bool b, x => x = .bool b
  | _, .int k n, x => x = .int k n
  | _, .str s, x => x = .string ⟨⟨s⟩⟩
  | _, .nilp, x => x = .pointer none
  | g, .ptr d i off, x => ∃ b, g.ρ d i = some b ∧ x = .pointer (some ⟨b, off, none⟩)
  | g, .imm cs, x => ∃ b o ys, x = .pointer (some ⟨b, o, none⟩) ∧ g.seg b o ys ∧ VRL (g.restr 0) cs ys
  | g, .sl len cs t, x => ∃ base cap ys, x = .slice base len cap ∧ len ≤ cap ∧ VRL (g.restr 0) cs ys ∧ SL g base ys len cap t
  | g, .sref d i off len s, x => ∃ b cap n, g.ρ d i = some b ∧ x = .slice (some ⟨b, off, none⟩) len cap ∧ len ≤ cap ∧ g.B b = some n ∧ off + cap * s ≤ n
  | _, .nilm, x => x = .map none
  | g, .mapr d i, x => ∃ b, g.ρ d i = some b ∧ x = .map (some b)
  | _, .nilf, x => x = .nilFunc
  | g, .fn f a c, x => ∃ xs ys, x = .func (.func f) ⟨xs⟩ ⟨ys⟩ ∧ VRL g a xs ∧ VRL g c ys
  | g, .agg cs, x => ∃ ys, x = .agg ⟨ys⟩ ∧ VRL g cs ys
  | g, .tup cs, x => ∃ ys, x = .tuple ⟨ys⟩ ∧ VRL g cs ys
def VRL : Gh → List V → List Value → Prop
  | _, [], ys => ys = []
  | g, c :: cs, ys => ∃ y ys', ys = y :: ys' ∧ VR g c y ∧ VRL g cs ys'
end

mutual
theorem VR.mono {g g' : Gh} (h : g.le g') : ∀ {v : V} {x : Value}, VR g v x → VR g' v x
  | .undef, _, hv => by simpa [VR] using hv
  | .unk, _, _ => by simp [VR]
  | .bool _, _, hv => by simpa [VR] using hv
  | .int _ _, _, hv => by simpa [VR] using hv
  | .str _, _, hv => by simpa [VR] using hv
  | .nilp, _, hv => by simpa [VR] using hv
  | .ptr d i off, _, hv => by
    simp only [VR] at hv ⊢
    obtain ⟨b, hb, e⟩ := hv
    exact ⟨b, h.ρ _ _ _ hb, e⟩
  | .imm cs, _, hv => by
    simp only [VR] at hv ⊢
    obtain ⟨b, o, ys, e, hs, hc⟩ := hv
    exact ⟨b, o, ys, e, hs.mono h, VRL.mono (h.restr 0) hc⟩
  | .sl len cs t, _, hv => by
    simp only [VR] at hv ⊢
    obtain ⟨base, cap, ys, e, hl, hc, hs⟩ := hv
    exact ⟨base, cap, ys, e, hl, VRL.mono (h.restr 0) hc, hs.mono h⟩
  | .sref d i off len s, _, hv => by
    simp only [VR] at hv ⊢
    obtain ⟨b, cap, n, hb, e, hl, hn, r⟩ := hv
    exact ⟨b, cap, n, h.ρ _ _ _ hb, e, hl, h.B _ _ hn, r⟩
  | .nilm, _, hv => by simpa [VR] using hv
  | .mapr d i, _, hv => by
    simp only [VR] at hv ⊢
    obtain ⟨b, hb, e⟩ := hv
    exact ⟨b, h.ρ _ _ _ hb, e⟩
  | .nilf, _, hv => by simpa [VR] using hv
  | .fn f a c, _, hv => by
    simp only [VR] at hv ⊢
    obtain ⟨xs, ys, e, h1, h2⟩ := hv
    exact ⟨xs, ys, e, VRL.mono h h1, VRL.mono h h2⟩
  | .agg cs, _, hv => by
    simp only [VR] at hv ⊢
    obtain ⟨ys, e, h1⟩ := hv
    exact ⟨ys, e, VRL.mono h h1⟩
  | .tup cs, _, hv => by
    simp only [VR] at hv ⊢
    obtain ⟨ys, e, h1⟩ := hv
    exact ⟨ys, e, VRL.mono h h1⟩
theorem VRL.mono {g g' : Gh} (h : g.le g') : ∀ {vs : List V} {xs : List Value}, VRL g vs xs → VRL g' vs xs
  | [], _, hv => by simpa [VRL] using hv
  | v :: vs, _, hv => by
    simp only [VRL] at hv ⊢
    obtain ⟨y, ys, e, h1, h2⟩ := hv
    exact ⟨y, ys, e, VR.mono h h1, VRL.mono h h2⟩
end

/-! ### Lists of related values -/

theorem VRL.length {g : Gh} : ∀ {vs : List V} {xs : List Value}, VRL g vs xs → xs.length = vs.length
  | [], _, h => by simp only [VRL] at h; simp [h]
  | v :: vs, _, h => by
    simp only [VRL] at h
    obtain ⟨y, ys, rfl, _, h2⟩ := h
    simp [VRL.length h2]
theorem VRL.get {g : Gh} : ∀ {vs : List V} {xs : List Value} {i : Nat} {v : V}, VRL g vs xs → vs[i]? = some v → ∃ x, xs[i]? = some x ∧ VR g v x
  | [], _, _, _, _, hi => by simp at hi
  | v :: vs, _, 0, _, h, hi => by
    simp only [VRL] at h
    obtain ⟨y, ys, rfl, h1, _⟩ := h
    simp at hi; subst hi
    exact ⟨y, by simp, h1⟩
  | v :: vs, _, i + 1, _, h, hi => by
    simp only [VRL] at h
    obtain ⟨y, ys, rfl, _, h2⟩ := h
    simpa using VRL.get h2 (by simpa using hi)
theorem VRL.append {g : Gh} : ∀ {vs us : List V} {xs ys : List Value}, VRL g vs xs → VRL g us ys → VRL g (vs ++ us) (xs ++ ys)
  | [], _, _, _, h, k => by simp only [VRL] at h; subst h; simpa using k
  | v :: vs, _, _, _, h, k => by
    simp only [VRL] at h
    obtain ⟨y, ys, rfl, h1, h2⟩ := h
    simp only [List.cons_append, VRL]
    exact ⟨y, _, rfl, h1, VRL.append h2 k⟩
theorem VRL.drop {g : Gh} : ∀ {n : Nat} {vs : List V} {xs : List Value}, VRL g vs xs → VRL g (vs.drop n) (xs.drop n)
  | 0, _, _, h => by simpa using h
  | n + 1, [], _, h => by simp only [VRL] at h; subst h; simp [VRL]
  | n + 1, v :: vs, _, h => by
    simp only [VRL] at h
    obtain ⟨y, ys, rfl, _, h2⟩ := h
    simpa using VRL.drop h2
theorem VRL.take {g : Gh} : ∀ {n : Nat} {vs : List V} {xs : List Value}, VRL g vs xs → VRL g (vs.take n) (xs.take n)
  | 0, _, _, _ => by simp [VRL]
  | n + 1, [], _, h => by simp only [VRL] at h; subst h; simp [VRL]
  | n + 1, v :: vs, _, h => by
    simp only [VRL] at h
    obtain ⟨y, ys, rfl, h1, h2⟩ := h
    simp only [List.take_succ_cons, VRL]
    exact ⟨y, _, rfl, h1, VRL.take h2⟩
theorem VRL.set {g : Gh} : ∀ {i : Nat} {vs : List V} {xs : List Value} {v : V} {x : Value}, VRL g vs xs → VR g v x → VRL g (vs.set i v) (xs.set i x)
  | _, [], _, _, _, h, _ => by simp only [VRL] at h; subst h; simp [VRL]
  | 0, u :: vs, _, _, _, h, k => by
    simp only [VRL] at h
    obtain ⟨y, ys, rfl, _, h2⟩ := h
    simp only [List.set_cons_zero, VRL]
    exact ⟨_, _, rfl, k, h2⟩
  | i + 1, u :: vs, _, _, _, h, k => by
    simp only [VRL] at h
    obtain ⟨y, ys, rfl, h1, h2⟩ := h
    simp only [List.set_cons_succ, VRL]
    exact ⟨_, _, rfl, h1, VRL.set h2 k⟩
theorem VRL.replicate {g : Gh} {v : V} {x : Value} (h : VR g v x) : ∀ n, VRL g (List.replicate n v) (List.replicate n x)
  | 0 => by simp [VRL]
  | n + 1 => by simp only [List.replicate_succ, VRL]; exact ⟨_, _, rfl, h, VRL.replicate h n⟩
theorem VRL.nil (g : Gh) : VRL g [] [] := by simp [VRL]
theorem VRL.cons {g : Gh} {v : V} {x : Value} {vs : List V} {xs : List Value} (h : VR g v x) (k : VRL g vs xs) : VRL g (v :: vs) (x :: xs) := by
  simp only [VRL]; exact ⟨_, _, rfl, h, k⟩
theorem VRL.one {g : Gh} {v : V} {xs : List Value} (h : VRL g [v] xs) : ∃ x, xs = [x] ∧ VR g v x := by
  simp only [VRL] at h
  obtain ⟨y, ys, rfl, h1, rfl⟩ := h
  exact ⟨y, rfl, h1⟩
theorem VRL.of_seg {g : Gh} {b o : Nat} {ys : List Value} {n m : Nat} (h : g.seg b o ys) : g.seg b (o + n) ((ys.drop n).take m) := by
  obtain ⟨full, hf, hy⟩ := h
  refine ⟨full, hf, fun j y hj => ?_⟩
  have h1 : (ys.drop n)[j]? = some y := by
    rw [List.getElem?_take] at hj
    by_cases hm : j < m
    · simpa [hm] using hj
    · simp [hm] at hj
  rw [List.getElem?_drop] at h1
  have := hy _ _ h1
  rwa [← Nat.add_assoc] at this

/-! ### What a shorter life may hold -/

theorem SL.fit {g : Gh} {d0 : Nat} {base : Option Addr} {ys : List Value} {len cap : Nat} {t : Tok}
    (h : SL g base ys len cap t) (ht : ∀ d f p, t = .room d f p → d ≤ d0) : SL (g.restr d0) base ys len cap t := by
  obtain ⟨h1, h2, h3, h4⟩ := h
  refine ⟨h1, h2, h3, ?_⟩
  cases t with
  | nil => exact h4
  | full => exact h4
  | dead => trivial
  | room d f p =>
    obtain ⟨b, o, n, s, e, hk, r⟩ := h4
    refine ⟨b, o, n, s, e, ?_, r⟩
    simp only [Gh.restr, if_pos (ht d f p rfl)]; exact hk
theorem SL.dead {g : Gh} {base : Option Addr} {ys : List Value} {len cap : Nat} {t : Tok} (h : SL g base ys len cap t) : SL g base ys len cap .dead :=
  ⟨h.1, h.2.1, h.2.2.1, trivial⟩

mutual
theorem VR.fit {g : Gh} {d0 : Nat} : ∀ {v v' : V} {x : Value}, fitV d0 v = some v' → VR g v x → VR (g.restr d0) v' x
  | .undef, _, _, e, hv => by simp only [fitV, Option.some.injEq] at e; subst e; simpa [VR] using hv
  | .unk, _, _, e, hv => by simp only [fitV] at e; cases e
  | .bool _, _, _, e, hv => by simp only [fitV, Option.some.injEq] at e; subst e; simpa [VR] using hv
  | .int _ _, _, _, e, hv => by simp only [fitV, Option.some.injEq] at e; subst e; simpa [VR] using hv
  | .str _, _, _, e, hv => by simp only [fitV, Option.some.injEq] at e; subst e; simpa [VR] using hv
  | .nilp, _, _, e, hv => by simp only [fitV, Option.some.injEq] at e; subst e; simpa [VR] using hv
  | .ptr d i off, _, _, e, hv => by
    simp only [fitV] at e; split at e
    · rename_i hd; simp only [Option.some.injEq] at e; subst e
      simp only [VR] at hv ⊢
      obtain ⟨b, hb, e⟩ := hv
      exact ⟨b, by simp only [Gh.restr, if_pos hd]; exact hb, e⟩
    · cases e
  | .imm cs, _, _, e, hv => by
    simp only [fitV, Option.some.injEq] at e; subst e
    simp only [VR] at hv ⊢
    obtain ⟨b, o, ys, e, hs, hc⟩ := hv
    exact ⟨b, o, ys, e, hs, by rw [Gh.restr_restr _ (Nat.zero_le _)]; exact hc⟩
  | .sl len cs t, v', x, e, hv => by
    simp only [VR] at hv
    obtain ⟨base, cap, ys, ex, hl, hc, hs⟩ := hv
    have hc' : VRL ((g.restr d0).restr 0) cs ys := by rw [Gh.restr_restr _ (Nat.zero_le _)]; exact hc
    cases t with
    | nil => simp only [fitV, Option.some.injEq] at e; subst e; simp only [VR]; exact ⟨base, cap, ys, ex, hl, hc', hs.fit (by simp)⟩
    | full => simp only [fitV, Option.some.injEq] at e; subst e; simp only [VR]; exact ⟨base, cap, ys, ex, hl, hc', hs.fit (by simp)⟩
    | dead => simp only [fitV, Option.some.injEq] at e; subst e; simp only [VR]; exact ⟨base, cap, ys, ex, hl, hc', hs.fit (by simp)⟩
    | room d f p =>
      simp only [fitV] at e; split at e
      · rename_i hd; simp only [Option.some.injEq] at e; subst e; simp only [VR]
        exact ⟨base, cap, ys, ex, hl, hc', hs.fit (by intro d' f' p' h; cases h; exact hd)⟩
      · simp only [Option.some.injEq] at e; subst e; simp only [VR]
        exact ⟨base, cap, ys, ex, hl, hc', hs.dead.fit (by simp)⟩
  | .sref d i off len s, _, _, e, hv => by
    simp only [fitV] at e; split at e
    · rename_i hd; simp only [Option.some.injEq] at e; subst e
      simp only [VR] at hv ⊢
      obtain ⟨b, cap, n, hb, e, hl, hn, r⟩ := hv
      exact ⟨b, cap, n, by simp only [Gh.restr, if_pos hd]; exact hb, e, hl, hn, r⟩
    · cases e
  | .nilm, _, _, e, hv => by simp only [fitV, Option.some.injEq] at e; subst e; simpa [VR] using hv
  | .mapr d i, _, _, e, hv => by
    simp only [fitV] at e; split at e
    · rename_i hd; simp only [Option.some.injEq] at e; subst e
      simp only [VR] at hv ⊢
      obtain ⟨b, hb, e⟩ := hv
      exact ⟨b, by simp only [Gh.restr, if_pos hd]; exact hb, e⟩
    · cases e
  | .nilf, _, _, e, hv => by simp only [fitV, Option.some.injEq] at e; subst e; simpa [VR] using hv
  | .fn f a c, _, _, e, hv => by
    simp only [fitV] at e
    split at e
    · rename_i a' ha
      split at e
      · rename_i c' hc
        simp only [Option.some.injEq] at e; subst e
        simp only [VR] at hv ⊢
        obtain ⟨xs, ys, ex, h1, h2⟩ := hv
        exact ⟨xs, ys, ex, VRL.fit ha h1, VRL.fit hc h2⟩
      · cases e
    · cases e
  | .agg cs, _, _, e, hv => by
    simp only [fitV] at e
    split at e
    · rename_i a' ha
      simp only [Option.some.injEq] at e; subst e
      simp only [VR] at hv ⊢
      obtain ⟨ys, ex, h1⟩ := hv
      exact ⟨ys, ex, VRL.fit ha h1⟩
    · cases e
  | .tup cs, _, _, e, hv => by
    simp only [fitV] at e
    split at e
    · rename_i a' ha
      simp only [Option.some.injEq] at e; subst e
      simp only [VR] at hv ⊢
      obtain ⟨ys, ex, h1⟩ := hv
      exact ⟨ys, ex, VRL.fit ha h1⟩
    · cases e
theorem VRL.fit {g : Gh} {d0 : Nat} : ∀ {vs vs' : List V} {xs : List Value}, fitL d0 vs = some vs' → VRL g vs xs → VRL (g.restr d0) vs' xs
  | [], _, _, e, hv => by simp only [fitL, Option.some.injEq] at e; subst e; simpa [VRL] using hv
  | v :: vs, _, _, e, hv => by
    simp only [fitL] at e
    split at e
    · rename_i v' h1
      split at e
      · rename_i vs' h2
        simp only [Option.some.injEq] at e; subst e
        simp only [VRL] at hv ⊢
        obtain ⟨y, ys, ex, k1, k2⟩ := hv
        exact ⟨y, ys, ex, VR.fit h1 k1, VRL.fit h2 k2⟩
      · cases e
    · cases e
end

theorem fitL_length {d0 : Nat} : ∀ {vs vs' : List V}, fitL d0 vs = some vs' → vs'.length = vs.length
  | [], _, e => by simp only [fitL, Option.some.injEq] at e; subst e; rfl
  | v :: vs, _, e => by
    simp only [fitL] at e
    split at e
    · split at e
      · rename_i h2
        simp only [Option.some.injEq] at e; subst e
        simp [fitL_length h2]
      · cases e
    · cases e

theorem VR.eraseC {g : Gh} {v : V} {x : Value} (h : VR g v x) : VR g (eraseC v) x := by
  cases v with
  | sl len cs t =>
    simp only [Abs.eraseC, VR] at h ⊢
    obtain ⟨base, cap, ys, e, hl, hc, hs⟩ := h
    exact ⟨base, cap, ys, e, hl, hc, hs.dead⟩
  | _ => exact h
theorem VRL.mapErase {g : Gh} : ∀ {vs : List V} {xs : List Value}, VRL g vs xs → VRL g (vs.map Abs.eraseC) xs
  | [], _, h => by simpa [VRL] using h
  | v :: vs, _, h => by
    simp only [VRL, List.map_cons] at h ⊢
    obtain ⟨y, ys, e, h1, h2⟩ := h
    exact ⟨y, ys, e, h1.eraseC, VRL.mapErase h2⟩
theorem VR.eraseA {g : Gh} {v : V} {x : Value} (h : VR g v x) : VR g (eraseA v) x := by
  cases v with
  | agg cs =>
    simp only [Abs.eraseA, VR] at h ⊢
    obtain ⟨ys, e, h1⟩ := h
    exact ⟨ys, e, h1.mapErase⟩
  | _ => exact h.eraseC
theorem VRL.mapEraseA {g : Gh} : ∀ {vs : List V} {xs : List Value}, VRL g vs xs → VRL g (vs.map Abs.eraseA) xs
  | [], _, h => by simpa [VRL] using h
  | v :: vs, _, h => by
    simp only [VRL, List.map_cons] at h ⊢
    obtain ⟨y, ys, e, h1, h2⟩ := h
    exact ⟨y, ys, e, h1.eraseA, VRL.mapEraseA h2⟩
theorem VR.eraseV {g : Gh} {v : V} {x : Value} (h : VR g v x) : VR g (eraseV v) x := by
  cases v with
  | tup cs =>
    simp only [Abs.eraseV, VR] at h ⊢
    obtain ⟨ys, e, h1⟩ := h
    exact ⟨ys, e, h1.mapEraseA⟩
  | _ => exact h.eraseA

/-! ### Constants and temporaries -/

theorem VR.ofCell (g : Gh) (x : Value) : VR g (ofCell x) x := by
  unfold Abs.ofCell
  split
  · simp [VR]
  · simp [VR]
  · simp [VR]
  · simp [VR]
  · simp only [VR]; exact ⟨none, 0, [], rfl, Nat.le_refl _, by simp [VRL], ⟨fun _ => ⟨rfl, rfl⟩, (fun a h => by cases h), (fun h => (h rfl).elim), rfl⟩⟩
  · simp [VR]
  · simp [VR]
  · rename_i f a b
    split
    · rename_i h
      obtain ⟨h1, h2⟩ := h
      simp only [VR]
      have e1 : a = #[] := Array.eq_empty_of_size_eq_zero h1
      have e2 : b = #[] := Array.eq_empty_of_size_eq_zero h2
      subst e1; subst e2
      exact ⟨[], [], rfl, VRL.nil g, VRL.nil g⟩
    · simp [VR]
  · simp [VR]
theorem VRL.mapOfCell (g : Gh) : ∀ (xs : List Value), VRL g (xs.map Abs.ofCell) xs
  | [] => by simp [VRL]
  | x :: xs => by simp only [List.map_cons, VRL]; exact ⟨x, xs, rfl, VR.ofCell g x, VRL.mapOfCell g xs⟩
theorem VR.ofConst (g : Gh) (x : Value) : VR g (ofConst x) x := by
  unfold Abs.ofConst
  split
  · rename_i cs
    simp only [VR]
    exact ⟨cs.toList, by cases cs; rfl, VRL.mapOfCell g _⟩
  · exact VR.ofCell g x

/-- The temporaries' values. -/
def TR (g : Gh) (T : List V) (tmps : Array Value) : Prop := VRL g T tmps.toList

theorem TR.mono {g g' : Gh} (h : g.le g') {T : List V} {tmps : Array Value} (ht : TR g T tmps) : TR g' T tmps := VRL.mono h ht

theorem nth_eq : ∀ (T : List V) (i : Nat), nth T i = (T[i]?).getD .undef
  | [], i => by simp [nth]
  | v :: T, 0 => by simp [nth]
  | v :: T, i + 1 => by simpa [nth] using nth_eq T i
theorem upd_eq : ∀ (T : List V) (i : Nat) (v : V), upd T i v = T.set i v
  | [], i, v => by simp [upd]
  | u :: T, 0, v => by simp [upd]
  | u :: T, i + 1, v => by simpa [upd] using upd_eq T i v

theorem TR.nth {g : Gh} {T : List V} {tmps : Array Value} (h : TR g T tmps) (t : Nat) : VR g (nth T t) (tmps.getD t Go.undef) := by
  rw [nth_eq]
  cases hT : T[t]? with
  | none =>
    have hl := VRL.length h
    have : tmps.size ≤ t := by
      have h1 := List.getElem?_eq_none_iff.1 hT
      simp only [Array.length_toList] at hl
      omega
    simp [Array.getD, Nat.not_lt.2 this, VR]
  | some v =>
    obtain ⟨x, hx, hv⟩ := VRL.get h hT
    have : tmps[t]? = some x := by simpa using hx
    have e : tmps.getD t Go.undef = x := by
      rw [Array.getD_eq_getD_getElem?, this]; rfl
    simpa [e] using hv
theorem TR.eval {g : Gh} {T : List V} {a : Act} (h : TR g T a.tmps) (x : Operand) : VR g (aEval T x) (a.eval x) := by
  cases x with
  | tmp t => exact h.nth t
  | const v => exact VR.ofConst g v
  | global n => simp [aEval, VR]
  | func f => simp only [aEval, Act.eval, VR]; exact ⟨[], [], rfl, VRL.nil g, VRL.nil g⟩
theorem TR.put {g : Gh} {T : List V} {a : Act} (h : TR g T a.tmps) {v : V} {x : Value} (hv : VR g v x) (dst : Option Tmp) :
    TR g (put T dst v) (a.put dst x).tmps := by
  cases dst with
  | none => exact h
  | some d =>
    simp only [Abs.put, Act.put, upd_eq, TR, Array.toList_setIfInBounds]
    exact VRL.set h hv
theorem Act.put_defers' (a : Act) (dst : Option Tmp) (x : Value) : (a.put dst x).defers = a.defers := by cases dst <;> rfl

end Go.Abs
