/- The code with its types looked up: regions that draw, code, calls. -/
import Derived.Test.YtokjbfjkmboehaaGreatAbsZ
set_option linter.unusedVariables false
set_option linter.unusedSimpArgs false
namespace Go.Abs

section
variable {P : Program} {pol : Pol} {call : Oracle} {f : FuncId} {D d nt : Nat} {ops : Array Oper} {β : Type}

theorem kind_alloc {own : Bool} {o : Op} (h : kindOf own o = .alloc) : ∃ t, o = .alloc t := by
  cases o with
  | alloc t => exact ⟨t, rfl⟩
  | call c =>
    obtain ⟨callee, args, ats⟩ := c
    cases callee with
    | builtin b => cases b <;> simp [kindOf] at h
    | _ => simp [kindOf] at h
  | convert => simp only [kindOf] at h; split at h <;> cases h
  | makeSlice => simp only [kindOf] at h; split at h <;> cases h
  | _ => simp [kindOf] at h

theorem rHoist_ok {p : Nat} {K K' : Hp → Option β} (hK : ∀ H, K H = K' H) : ∀ {os : List Oper} {zs : List (List V)}, rZs P os = some zs → ∀ H, rHoist p K zs H = aHoist P p K' os H
  | [], zs, h, H => by simp only [rZs, Option.some.injEq] at h; subst h; exact hK H
  | o :: os, zs, h, H => by
    simp only [rZs] at h
    simp only [aHoist]
    split at h
    · rename_i t hop
      split at h
      · rename_i z hz
        split at h
        · rename_i zs' hzs
          cases h
          rw [hop]
          simp only [hz, ob]
          show (Option.rec (motive := fun _ => Option β) none (fun p' => rHoist p K zs' p'.2) (H.newObj p (.cells z.cells)) : Option β) = _
          cases H.newObj p (.cells z.cells) with
          | none => rfl
          | some q => exact rHoist_ok hK hzs q.2
        · cases h
      · cases h
    · rename_i hne
      have ih := rHoist_ok (p := p) hK h H
      rw [ih]
      split
      · rename_i t hop; exact (hne t hop).elim
      · rfl

/-- Two records of the same operation. -/
def RecOK (P : Program) (call : Oracle) (e : Env) (ops : Array Oper) (r : RRec) (q : Rec) : Prop :=
  r.at_ = q.at_ ∧ r.r.lo = q.lo ∧ r.r.hi = q.hi ∧ ∀ S, rSame call e r S = aSame P ops q S
def RecsOK (P : Program) (call : Oracle) (e : Env) (ops : Array Oper) : List RRec → List Rec → Prop
  | [], qs => qs = []
  | r :: rs, qs => ∃ q qs', qs = q :: qs' ∧ RecOK P call e ops r q ∧ RecsOK P call e ops rs qs'

theorem rChk1_ok {e : Env} {r : RRec} {q : Rec} (h : RecOK P call e ops r q) {K K' : Option β} (hK : K = K') : ∀ (Ss : List Hp) (k : Nat), rChk1 call e r K Ss k = chk1 P ops q K' k Ss
  | [], k => hK
  | S :: Ss, k => by
    obtain ⟨h1, h2, h3, h4⟩ := h
    have ih := rChk1_ok ⟨h1, h2, h3, h4⟩ hK Ss (k + 1)
    show (match (Nat.ble r.r.lo k && Nat.ble k r.r.hi) && !(Nat.beq k r.at_) with
      | true => ifT (rSame call e r S) (rChk1 call e r K Ss (k + 1))
      | false => rChk1 call e r K Ss (k + 1)) = _
    simp only [chk1]
    rw [ih, h4 S, h1, h2, h3]
    have e1 : Nat.ble q.lo k = decide (q.lo ≤ k) := by rw [Bool.eq_iff_iff]; simp [Nat.ble_eq]
    have e2 : Nat.ble k q.hi = decide (k ≤ q.hi) := by rw [Bool.eq_iff_iff]; simp [Nat.ble_eq]
    have e3 : Nat.beq k q.at_ = decide (k = q.at_) := by rw [Bool.eq_iff_iff]; simp [Nat.beq_eq]
    rw [e1, e2, e3]
    rfl
theorem rChks_ok {e : Env} {Ss : List Hp} {K K' : Option β} (hK : K = K') : ∀ {rs : List RRec} {qs : List Rec}, RecsOK P call e ops rs qs → rChks call e Ss K rs = chks P ops Ss K' qs
  | [], qs, h => by simp only [RecsOK] at h; subst h; exact hK
  | r :: rs, qs, h => by
    simp only [RecsOK] at h
    obtain ⟨q, qs', rfl, h1, h2⟩ := h
    exact rChk1_ok h1 (rChks_ok hK h2) Ss 0

theorem rDrawGo_ok {bs : List Nat} {base : Nat} {K : TT → Hp → Option β} {K' : List V → Hp → Option β} (hK : ∀ T H, nt ≤ T.length → K (mkT d T) H = K' T H) :
    ∀ {os : List Oper} {rs : List RD} {i : Nat}, rDraws P (pol.own f) d nt ops bs i os = some rs → ∀ (a n : Nat) (T : List V) (H : Hp) (Ss : List Hp) (Rs : List RRec) (Qs : List Rec), nt ≤ T.length → Ss.length = n + 1 → RecsOK P call ⟨pol.own f, place pol f D, D⟩ ops Rs Qs →
      rDrawGo call ⟨pol.own f, place pol f D, D⟩ base (ops.size + 1) K rs a n (mkT d T) H Ss Rs = aDrawGo P pol call f D ops bs base K' i a os T H Ss Qs
  | [], rs, i, h, a, n, T, H, Ss, Rs, Qs, hT, hn, hR => by
    simp only [rDraws, Option.some.injEq] at h; subst h
    simp only [aDrawGo]
    exact rChks_ok (hK T H hT) hR
  | o :: os, rs, i, h, a, n, T, H, Ss, Rs, Qs, hT, hn, hR => by
    simp only [rDraws] at h
    split at h
    · rename_i ri hi
      split at h
      · rename_i rs' hrs
        cases h
        have ih := fun a n T H Ss Rs Qs hT hn hR => rDrawGo_ok (base := base) hK hrs a n T H Ss Rs Qs hT hn hR
        obtain ⟨h0, h1, h2, h3⟩ := rOper_ok (call := call) (D := D) hi
        have hn' : Ss.length - 1 = n := by omega
        simp only [aDrawGo]
        cases hk : kindOf (pol.own f) o.op with
        | val =>
          show (Option.rec (motive := fun _ => Option β) none (fun p => rDrawGo call ⟨pol.own f, place pol f D, D⟩ base (ops.size + 1) K rs' a n (putD ri.dst p.1 (mkT d T)) H Ss Rs) (rI call ⟨pol.own f, place pol f D, D⟩ ri (mkT d T) H) : Option β) = _
          rw [h1 hk T H]
          simp only [ob]
          cases gVal P ops o T with
          | none => rfl
          | some v => simp only [with_]; rw [h0 T hT v]; exact ih _ _ _ _ _ _ _ (by rw [putLen]; exact hT) hn hR
        | read =>
          show (Option.rec (motive := fun _ => Option β) none (fun p => rDrawGo call ⟨pol.own f, place pol f D, D⟩ base (ops.size + 1) K rs' a n (putD ri.dst p.1 (mkT d T)) H Ss (⟨⟨ri, .read, loOf (pol.own f) ops bs i, hiOf (pol.own f) ops bs i⟩, mkT d T, p.1, n⟩ :: Rs)) (rI call ⟨pol.own f, place pol f D, D⟩ ri (mkT d T) H) : Option β) = _
          rw [h2 hk T H]
          simp only [ob]
          cases gRead P ops o T H with
          | none => rfl
          | some v =>
            simp only [with_]; rw [h0 T hT v]
            refine ih _ _ _ _ _ _ _ (by rw [putLen]; exact hT) hn ⟨_, _, rfl, ⟨hn'.symm, rfl, rfl, fun S => ?_⟩, hR⟩
            have hs : aSame P ops ⟨o, T, v, Ss.length - 1, loOf (pol.own f) ops bs i, hiOf (pol.own f) ops bs i⟩ S = eqO (gRead P ops o T S) v := by
              simp only [aSame]
              split
              · rename_i t hop; rw [hop] at hk; simp [kindOf] at hk
              · rfl
            rw [hs]
            simp only [rSame]
            rw [h2 hk T S]
            cases gRead P ops o T S <;> rfl
        | alloc =>
          obtain ⟨t, hop⟩ := kind_alloc hk
          show (match ri.g with
            | .no => rDrawGo call ⟨pol.own f, place pol f D, D⟩ base (ops.size + 1) K rs' (a + 1) n (putD ri.dst (.ptr (place pol f D) (base + a) 0) (mkT d T)) H Ss (⟨⟨ri, .alloc, loOf (pol.own f) ops bs i, hiOf (pol.own f) ops bs i⟩, mkT d T, .ptr (place pol f D) (base + a) 0, ops.size + 1⟩ :: Rs)
            | _ => none) = _
          unfold rOper at hi
          split at hi
          · rename_i g hg
            split at hi
            · rename_i ro hro
              split at hi
              · rename_i ds hds
                cases hi
                have hro' : rEff P d o.op = some ro := by unfold rRO at hro; rw [hk] at hro; exact hro
                rw [hop] at hro'
                have hz : ∀ (S : Hp) (d' i' : Nat), (match ro with | .alloc z => eqObj (S.obj d' i') z | _ => false) = (match tZero P t with | some z => eqObj (S.obj d' i') z.cells | none => false) := by
                  intro S d' i'
                  simp only [rEff] at hro'
                  split at hro'
                  · rename_i z hz; simp only [Option.some.injEq] at hro'; subst hro'; simp only [hz]
                  · rename_i hz; simp only [Option.some.injEq] at hro'; subst hro'; simp only [hz]
                have hgg := rGd_ok hg
                unfold GdOK at hgg
                cases g with
                | no =>
                  simp only at hgg
                  have hgn : o.guard = none := by
                    unfold guardOf at hgg
                    split at hgg
                    · assumption
                    · split at hgg <;> cases hgg
                  simp only [hgn]
                  rw [h0 T hT]
                  refine ih _ _ _ _ _ _ _ (by rw [putLen]; exact hT) hn ⟨_, _, rfl, ⟨rfl, rfl, rfl, fun S => ?_⟩, hR⟩
                  simp only [rSame, aSame, hop]
                  exact hz S _ _
                | never =>
                  simp only at hgg
                  cases hgn : o.guard with
                  | none => unfold guardOf at hgg; rw [hgn] at hgg; cases hgg
                  | some x => rfl
                | on p want =>
                  obtain ⟨t', hgg, _⟩ := hgg
                  cases hgn : o.guard with
                  | none => unfold guardOf at hgg; rw [hgn] at hgg; cases hgg
                  | some x => rfl
              · cases hi
            · cases hi
          · cases hi
        | eff =>
          show (Option.rec (motive := fun _ => Option β) none (fun p => rDrawGo call ⟨pol.own f, place pol f D, D⟩ base (ops.size + 1) K rs' a (n + 1) (putD ri.dst p.1 (mkT d T)) p.2 (Ss ++ [p.2]) Rs) (rI call ⟨pol.own f, place pol f D, D⟩ ri (mkT d T) H) : Option β) = _
          rw [h3 (.inl hk) T H]
          simp only [ob2]
          cases gEff P pol call f D ops o T H with
          | none => rfl
          | some p => simp only; rw [h0 T hT p.1]; exact ih _ _ _ _ _ _ _ (by rw [putLen]; exact hT) (by simp [hn]) hR
      · cases h
    · cases h

theorem rLoop_ok {b : (TT → Hp → Option β) → TT → Hp → Option β} {b' : (List V → Hp → Option β) → List V → Hp → Option β} (h : ∀ k k', (∀ T H, nt ≤ T.length → k (mkT d T) H = k' T H) → ∀ T H, nt ≤ T.length → b k (mkT d T) H = b' k' T H) :
    ∀ n T H, nt ≤ T.length → rLoop b n (mkT d T) H = aLoop b' n T H
  | 0, T, H, hT => rfl
  | n + 1, T, H, hT => by
    simp only [aLoop]
    exact h _ _ (fun T H hT => rLoop_ok h n T H hT) T H hT

theorem rCode_ok {n : Nat} : ∀ {c : Code} {rc : RC}, rCodeOf P (pol.own f) d nt c = some rc → ∀ (bid : Nat) (K : KT β) (K' : Kont β), (∀ ax T H, nt ≤ T.length → K ax (mkT d T) H = K' ax T H) → ∀ T H, nt ≤ T.length →
    rCode call ⟨pol.own f, place pol f D, D⟩ n rc K (mkT d T) H = aCode P pol call f D n c bid K' T H
  | .skip, rc, h, bid, K, K', hK, T, H, hT => by simp only [rCodeOf, Option.some.injEq] at h; subst h; exact hK _ T H hT
  | .label _, rc, h, bid, K, K', hK, T, H, hT => by simp only [rCodeOf, Option.some.injEq] at h; subst h; exact hK _ T H hT
  | .exit id, rc, h, bid, K, K', hK, T, H, hT => by simp only [rCodeOf, Option.some.injEq] at h; subst h; exact hK _ T H hT
  | .ret, rc, h, bid, K, K', hK, T, H, hT => by simp only [rCodeOf, Option.some.injEq] at h; subst h; exact hK _ T H hT
  | .region _ ops draw, rc, h, bid, K, K', hK, T, H, hT => by
    simp only [rCodeOf] at h
    simp only [aCode]
    split at h
    · split at h
      · rename_i hok
        split at h
        · rename_i zs hzs
          split at h
          · rename_i rs hrs
            cases h
            unfold aDraw
            simp only [hok]
            exact rHoist_ok (fun H0 => rDrawGo_ok (fun T H hT => hK _ T H hT) hrs 0 0 T H0 [H0] [] [] hT rfl rfl) hzs H
          · cases h
        · cases h
      · cases h
    · split at h
      · rename_i is his
        cases h
        exact rSeq_ok (fun T H hT => hK _ T H hT) his T H hT
      · cases h
  | .seq a b, rc, h, bid, K, K', hK, T, H, hT => by
    simp only [rCodeOf] at h
    split at h
    · rename_i ra ha
      split at h
      · rename_i rb hb
        cases h
        simp only [aCode]
        refine rCode_ok ha bid _ _ (fun ax T H hT => ?_) T H hT
        cases ax with
        | normal => exact rCode_ok hb bid K K' hK T H hT
        | ret => exact hK _ T H hT
        | exit id => exact hK _ T H hT
      · cases h
    · cases h
  | .cond c a b, rc, h, bid, K, K', hK, T, H, hT => by
    simp only [rCodeOf] at h
    split at h
    · rename_i rc' hc
      split at h
      · rename_i ra ha
        split at h
        · rename_i rb hb
          cases h
          simp only [aCode]
          show ifB (rc'.ev (mkT d T)) (rCode call _ n ra K (mkT d T) H) (rCode call _ n rb K (mkT d T) H) = _
          rw [rOpd_ok hc, rCode_ok ha bid K K' hK T H hT, rCode_ok hb bid K K' hK T H hT]
        · cases h
      · cases h
    · cases h
  | .block id c, rc, h, bid, K, K', hK, T, H, hT => by
    simp only [rCodeOf] at h
    split at h
    · rename_i rc' hc
      cases h
      simp only [aCode]
      refine rCode_ok hc id _ _ (fun ax T H hT => ?_) T H hT
      cases ax with
      | normal => exact hK _ T H hT
      | ret => exact hK _ T H hT
      | exit id' =>
        simp only [inT, inBlock]
        have e : Nat.beq id' id = decide (id' = id) := by rw [Bool.eq_iff_iff]; simp [Nat.beq_eq]
        rw [e]
        cases decide (id' = id) with
        | true => exact hK _ T H hT
        | false => exact hK _ T H hT
    · cases h
  | .loop c, rc, h, bid, K, K', hK, T, H, hT => by
    simp only [rCodeOf] at h
    split at h
    · rename_i rc' hc
      cases h
      simp only [aCode]
      refine rLoop_ok (fun k k' hk T H hT => ?_) n T H hT
      refine rCode_ok hc bid _ _ (fun ax T H hT => ?_) T H hT
      cases ax with
      | normal => exact hk T H hT
      | ret => exact hK _ T H hT
      | exit id => exact hK _ T H hT
    · cases h
  | .goto _, rc, h, bid, K, K', hK, T, H, hT => by simp only [rCodeOf, Option.some.injEq] at h; subst h; simp only [aCode]; rfl
  | .rangeFunc .., rc, h, bid, K, K', hK, T, H, hT => by simp only [rCodeOf, Option.some.injEq] at h; subst h; simp only [aCode]; rfl
  | .scope _, rc, h, bid, K, K', hK, T, H, hT => by simp only [rCodeOf, Option.some.injEq] at h; subst h; simp only [aCode]; rfl
  | .refuse _, rc, h, bid, K, K', hK, T, H, hT => by simp only [rCodeOf, Option.some.injEq] at h; subst h; simp only [aCode]; rfl
end

end Go.Abs
