/- Regions in the order of the text, code, loops, calls. -/
import Derived.Test.YtokjbfjkmboehaaGreatAbsJ
set_option linter.unusedVariables false
set_option linter.unusedSimpArgs false
namespace Go.Abs
open Go.RowKit

/-- What holds between two steps: since (g0, H0) all has grown; 'Fx' holds of the temporaries. -/
def Inv (w0 : World) (D : Nat) (g0 : Gh) (H0 : Hp) (Fx : Array Value → Prop) (T : List V) (H : Hp) (a : Act) (w : World) : Prop :=
  (∃ g, Rel w0 D g H w ∧ TR g T a.tmps ∧ Eff g0 g H0 H) ∧ a.defers = [] ∧ Fx a.tmps

/-- Writing where an operation writes leaves 'Fx'. -/
def Leaves (Fx : Array Value → Prop) (dst : Option Tmp) : Prop := ∀ (a : Act) (v : Value), Fx a.tmps → Fx (a.put dst v).tmps

section
variable {P : Program} {w0 w : World} {D : Nat} {g g0 : Gh} {H H0 : Hp} {Fx : Array Value → Prop}

theorem Inv.put {T : List V} {a : Act} {dst : Option Tmp} {v : V} {x : Value} {w' : World} {H' : Hp} {g' : Gh} (hd : a.defers = []) (hF : Fx a.tmps) (hL : Leaves Fx dst) (hT : TR g T a.tmps) (hE : Eff g0 g H0 H) (hv : VR g' v x) (hR : Rel w0 D g' H' w') (hE' : Eff g g' H H') :
    Inv w0 D g0 H0 Fx (put T dst v) H' (a.put dst x) w' :=
  ⟨⟨g', hR, (hT.mono hE'.le).put hv dst, hE.trans hE'⟩, by rw [Act.put_defers']; exact hd, hL a x hF⟩

theorem aSeq_sound {pol : Pol} {call : Oracle} (hcall : CallOK P call) {f : FuncId} {ops : Array Oper} {Kc : List V → Hp → Option (V × Hp)} {res : V × Hp} {Q : Exit → Act → World → Prop}
    (hF : ∀ o ∈ ops.toList, Leaves Fx o.dst)
    (hK : ∀ T H a w, Kc T H = some res → Inv w0 D g0 H0 Fx T H a w → Q .normal a w) :
    ∀ (os : List Oper) (k : Nat), ops.toList.drop k = os → ∀ (T : List V) (H : Hp) (a : Act) (w : World), aSeq P pol call f D ops Kc os T H = some res → Inv w0 D g0 H0 Fx T H a w →
      wpOps P ops Q (List.range' k os.length) a w
  | [], k, _, T, H, a, w, hr, hI => by
    simp only [aSeq] at hr
    simp only [List.length_nil, List.range'_zero, wpOps]
    exact hK T H a w hr hI
  | o :: os, k, hk, T, H, a, w, hr, ⟨⟨g, hR, hT, hE⟩, hd, hFx⟩ => by
    have hlt : k < ops.toList.length := by
      rcases Nat.lt_or_ge k ops.toList.length with h | h
      · exact h
      · rw [List.drop_eq_nil_of_le h] at hk; cases hk
    have hdrop := List.drop_eq_getElem_cons hlt
    rw [hk] at hdrop
    simp only [List.cons.injEq] at hdrop
    obtain ⟨ho, hos⟩ := hdrop
    have hi : ops[k]? = some o := by
      rw [ho]; simp at hlt ⊢
    have hmem : o ∈ ops.toList := by rw [ho]; exact List.getElem_mem hlt
    have hL := hF o hmem
    have ih := aSeq_sound (pol := pol) (f := f) hcall hF hK os (k + 1) hos.symm
    simp only [List.length_cons, List.range'_succ]
    rw [wpOps_cons]
    simp only [aSeq] at hr
    split at hr
    · unfold ob at hr
      split at hr
      · rename_i v hv
        obtain ⟨x, g', w', e1, e2, e3, e4⟩ := op_val hi hR hT hv
        exact e4 _ Q (ih _ _ _ _ hr (Inv.put hd hFx hL hT hE e1 e2 (.of_grow e3)))
      · cases hr
    · unfold ob at hr
      split at hr
      · rename_i v hv
        obtain ⟨x, g', w', e1, e2, e3, e4⟩ := op_read hi hR hT hv
        exact e4 _ Q (ih _ _ _ _ hr (Inv.put hd hFx hL hT hE e1 e2 (.of_grow e3)))
      · cases hr
    · unfold ob2 at hr
      split at hr
      · rename_i p hv
        obtain ⟨v, H'⟩ := p
        exact op_eff hcall hi hR hT hv _ Q (fun x g' w' e1 e2 e3 => ih _ _ _ _ hr (Inv.put hd hFx hL hT hE e1 e2 e3))
      · cases hr

/-- What is to be shown of a region that draws its order. -/
def DrawOK (P : Program) (pol : Pol) (call : Oracle) : Prop :=
  ∀ (w0 : World) (D : Nat) (g0 : Gh) (H0 : Hp) (Fx : Array Value → Prop) (f : FuncId) (ops : Array Oper) (Kc : List V → Hp → Option (V × Hp)) (res : V × Hp) (Q : Exit → Act → World → Prop),
    (∀ o ∈ ops.toList, Leaves Fx o.dst) → (∀ T H a w, Kc T H = some res → Inv w0 D g0 H0 Fx T H a w → Q .normal a w) →
    ∀ T H a w, aDraw P pol call f D ops Kc T H = some res → Inv w0 D g0 H0 Fx T H a w → wpAny P .any ops Q ops.size (Array.replicate ops.size false) a w

def toExit : AX → Exit
  | .normal => .normal
  | .exit id => .exit id
  | .ret => .ret

/-- A code's writes leave 'Fx'. -/
def LeavesC (Fx : Array Value → Prop) : Code → Prop
  | .region _ ops _ => ∀ o ∈ ops.toList, Leaves Fx o.dst
  | .seq a b => LeavesC Fx a ∧ LeavesC Fx b
  | .cond _ a b => LeavesC Fx a ∧ LeavesC Fx b
  | .block _ c => LeavesC Fx c
  | .loop c => LeavesC Fx c
  | _ => True

theorem LeavesC.and {Fx Fy : Array Value → Prop} : ∀ {c : Code}, LeavesC Fx c → LeavesC Fy c → LeavesC (fun t => Fx t ∧ Fy t) c
  | .region _ ops _, h, k => fun o ho a v hF => ⟨h o ho a v hF.1, k o ho a v hF.2⟩
  | .seq a b, h, k => ⟨LeavesC.and h.1 k.1, LeavesC.and h.2 k.2⟩
  | .cond _ a b, h, k => ⟨LeavesC.and h.1 k.1, LeavesC.and h.2 k.2⟩
  | .block _ c, h, k => LeavesC.and (c := c) h k
  | .loop c, h, k => LeavesC.and (c := c) h k
  | .skip, _, _ | .label _, _, _ | .exit _, _, _ | .ret, _, _ | .goto _, _, _ => trivial
  | .rangeFunc .., _, _ | .scope _, _, _ | .refuse _, _, _ => trivial
theorem LeavesC.true : ∀ {c : Code}, LeavesC (fun _ => True) c
  | .region _ ops _ => fun o ho a v hF => trivial
  | .seq a b => ⟨LeavesC.true, LeavesC.true⟩
  | .cond _ a b => ⟨LeavesC.true, LeavesC.true⟩
  | .block _ c => LeavesC.true (c := c)
  | .loop c => LeavesC.true (c := c)
  | .skip | .label _ | .exit _ | .ret | .goto _ => trivial
  | .rangeFunc .. | .scope _ | .refuse _ => trivial

/-! ### Rounds -/

theorem least {p : Nat → Prop} : ∀ n, p n → ∃ m, p m ∧ ∀ k, k < m → ¬ p k := by
  intro n
  induction n using Nat.strongRecOn with
  | _ n ih =>
    intro h
    by_cases hc : ∃ k, k < n ∧ p k
    · obtain ⟨k, hk, hp⟩ := hc; exact ih k hk hp
    · exact ⟨n, h, fun k hk hp => hc ⟨k, hk, hp⟩⟩
/-- A loop whose rounds are counted. -/
theorem wp_loop_count {c : Code} {Q : Exit → Act → World → Prop} {a : Act} {w : World} (J : Nat → Act → World → Prop) {n : Nat} (h0 : J n a w)
    (round : ∀ m a w, J m a w → c.wp P (Exit.then (fun a' w' => ∃ m', m' < m ∧ J m' a' w') Q) a w) : (Code.loop c).wp P Q a w := by
  have hex : ∀ a w, (∃ m, J m a w) → ∃ m, J m a w ∧ ∀ k, k < m → ¬ J k a w := fun a w ⟨m, hm⟩ => least m hm
  let μ : Act → World → Nat := fun a w => by
    classical
    exact if h : ∃ m, J m a w then (hex a w h).choose else 0
  have hμ : ∀ a w (h : ∃ m, J m a w), J (μ a w) a w ∧ ∀ k, J k a w → μ a w ≤ k := by
    intro a w h
    have e : μ a w = (hex a w h).choose := by simp only [μ, dif_pos h]
    have hs := (hex a w h).choose_spec
    rw [e]
    refine ⟨hs.1, fun k hk => ?_⟩
    rcases Nat.lt_or_ge k (hex a w h).choose with hlt | hge
    · exact (hs.2 k hlt hk).elim
    · exact hge
  refine wp_loop (fun a w => ∃ m, J m a w) μ ⟨n, h0⟩ (fun a w hI => ?_)
  refine wp_mono (round _ a w (hμ a w hI).1) (fun e a' w' h => ?_)
  cases e with
  | normal =>
    obtain ⟨m', hlt, hJ⟩ := h
    exact ⟨⟨m', hJ⟩, Nat.lt_of_le_of_lt ((hμ a' w' ⟨m', hJ⟩).2 m' hJ) hlt⟩
  | exit id => exact h
  | goto l => exact h
  | ret => exact h
  | panic ch => exact h
  | outgrown => exact h

theorem aCode_sound {pol : Pol} {call : Oracle} (hcall : CallOK P call) (hdraw : DrawOK P pol call) (hm : P.follows .mixedOrders = true) {f : FuncId} {n : Nat} {res : V × Hp} : ∀ (c : Code) (bid : Nat) (K : Kont (V × Hp)) (T : List V) (H : Hp),
    aCode P pol call f D n c bid K T H = some res → ∀ (g0 : Gh) (H0 : Hp) (Fx : Array Value → Prop) (Q : Exit → Act → World → Prop), LeavesC Fx c →
    (∀ ax T' H' a' w', K ax T' H' = some res → Inv w0 D g0 H0 Fx T' H' a' w' → Q (toExit ax) a' w') → ∀ a w, Inv w0 D g0 H0 Fx T H a w → c.wp P Q a w
  | .skip, bid, K, T, H, hr, g0, H0, Fx, Q, hL, hK, a, w, hI => wp_skip (hK .normal T H a w hr hI)
  | .label l, bid, K, T, H, hr, g0, H0, Fx, Q, hL, hK, a, w, hI => wp_label (hK .normal T H a w hr hI)
  | .exit id, bid, K, T, H, hr, g0, H0, Fx, Q, hL, hK, a, w, hI => wp_exit (hK (.exit id) T H a w hr hI)
  | .ret, bid, K, T, H, hr, g0, H0, Fx, Q, hL, hK, a, w, hI => wp_ret (hK .ret T H a w hr hI)
  | .region id ops draw, bid, K, T, H, hr, g0, H0, Fx, Q, hL, hK, a, w, hI => by
    simp only [aCode] at hr
    split at hr
    · refine wp_region_any hm ?_
      refine hdraw w0 D g0 H0 Fx f ops _ res Q hL (fun T' H' a' w' h1 h2 => hK .normal T' H' a' w' h1 h2) T H a _ hr ?_
      obtain ⟨⟨g, hR, hT, hE⟩, hd, hF⟩ := hI
      exact ⟨⟨g, hR.drew, hT, hE⟩, hd, hF⟩
    · refine wp_region ?_
      have := aSeq_sound (Q := Q) hcall hL (fun T' H' a' w' h1 h2 => hK .normal T' H' a' w' h1 h2) ops.toList 0 (by simp) T H a w hr hI
      rw [List.range_eq_range']
      simpa using this
  | .seq x y, bid, K, T, H, hr, g0, H0, Fx, Q, hL, hK, a, w, hI => by
    simp only [aCode] at hr
    refine wp_seq (aCode_sound hcall hdraw hm x bid _ T H hr g0 H0 Fx _ hL.1 (fun ax T' H' a' w' h1 h2 => ?_) a w hI)
    cases ax with
    | normal => exact aCode_sound hcall hdraw hm y bid K T' H' h1 g0 H0 Fx Q hL.2 hK a' w' h2
    | ret => exact hK .ret T' H' a' w' h1 h2
    | exit id => exact hK (.exit id) T' H' a' w' h1 h2
  | .cond c x y, bid, K, T, H, hr, g0, H0, Fx, Q, hL, hK, a, w, hI => by
    simp only [aCode, ifB] at hr
    have hI' := hI
    obtain ⟨⟨g, hR, hT, hE⟩, _⟩ := hI'
    have hc := hT.eval c
    split at hr
    · rename_i hb
      rw [hb] at hc; simp only [VR] at hc
      exact wp_cond_true hc (aCode_sound hcall hdraw hm x bid K T H hr g0 H0 Fx Q hL.1 hK a w hI)
    · rename_i hb
      rw [hb] at hc; simp only [VR] at hc
      exact wp_cond_false hc (aCode_sound hcall hdraw hm y bid K T H hr g0 H0 Fx Q hL.2 hK a w hI)
    · cases hr
  | .block id c, bid, K, T, H, hr, g0, H0, Fx, Q, hL, hK, a, w, hI => by
    simp only [aCode] at hr
    refine wp_block (aCode_sound hcall hdraw hm c id _ T H hr g0 H0 Fx _ hL (fun ax T' H' a' w' h1 h2 => ?_) a w hI)
    cases ax with
    | normal => exact hK .normal T' H' a' w' h1 h2
    | ret => exact hK .ret T' H' a' w' h1 h2
    | exit id' =>
      simp only [inBlock] at h1
      show Exit.inBlock id Q (.exit id') a' w'
      simp only [Exit.inBlock]
      by_cases hid : id' = id
      · simp only [hid, decide_true] at h1
        rw [if_pos hid]
        exact hK .normal T' H' a' w' h1 h2
      · simp only [hid, decide_false] at h1
        rw [if_neg hid]
        exact hK (.exit id') T' H' a' w' h1 h2
  | .loop c, bid, K, T, H, hr, g0, H0, Fx, Q, hL, hK, a, w, hI => by
    simp only [aCode] at hr
    let body : (List V → Hp → Option (V × Hp)) → List V → Hp → Option (V × Hp) := fun k T H => aCode P pol call f D n c bid (thenK K k) T H
    let J : Nat → Act → World → Prop := fun m a' w' => ∃ T' H', aLoop body m T' H' = some res ∧ Inv w0 D g0 H0 Fx T' H' a' w'
    refine wp_loop_count J (n := n) ⟨T, H, hr, hI⟩ ?_
    rintro m a' w' ⟨T', H', hrun, hI'⟩
    cases m with
    | zero => simp [aLoop] at hrun
    | succ m =>
      simp only [aLoop] at hrun
      refine aCode_sound hcall hdraw hm c bid _ _ H' hrun g0 H0 Fx _ hL (fun ax T2 H2 a2 w2 h1 h2 => ?_) a' w' hI'
      cases ax with
      | normal => exact ⟨m, Nat.lt_succ_self m, T2, H2, h1, h2⟩
      | ret => exact hK .ret T2 H2 a2 w2 h1 h2
      | exit id => exact hK (.exit id) T2 H2 a2 w2 h1 h2
  | .goto l, bid, K, T, H, hr, g0, H0, Fx, Q, hL, hK, a, w, hI => by simp [aCode] at hr
  | .rangeFunc .., bid, K, T, H, hr, g0, H0, Fx, Q, hL, hK, a, w, hI => by simp [aCode] at hr
  | .scope _, bid, K, T, H, hr, g0, H0, Fx, Q, hL, hK, a, w, hI => by simp [aCode] at hr
  | .refuse _, bid, K, T, H, hr, g0, H0, Fx, Q, hL, hK, a, w, hI => by simp [aCode] at hr
end

end Go.Abs
