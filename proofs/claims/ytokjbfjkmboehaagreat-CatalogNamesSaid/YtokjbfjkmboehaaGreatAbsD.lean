/- Regions that draw their order. -/
import Derived.Test.YtokjbfjkmboehaaGreatAbsC
set_option linter.unusedVariables false
set_option linter.unusedSimpArgs false
namespace Go.Abs
open Go.RowKit

section
variable (P : Program) (pol : Pol) (call : Oracle) (f : FuncId) (D : Nat) (ops : Array Oper)

/-- How many operations of a kind stand ahead in the text. -/
def cntK (k : Kind) (i : Nat) : Nat := countOf (fun j o => (kindOf (pol.own f) o.op == k) && decide (j < i)) 0 ops.toList

variable {P pol call f D ops}

theorem cntK_zero {k : Kind} : cntK pol f ops k 0 = 0 := count_zero (fun j o h => by simp)
theorem cntK_same {k : Kind} {i : Nat} {o : Oper} (ho : ops[i]? = some o) (hk : kindOf (pol.own f) o.op ≠ k) : cntK pol f ops k (i + 1) = cntK pol f ops k i := by
  refine count_congr (fun j o' hj => ?_)
  simp only [Nat.zero_add]
  by_cases hji : j = i
  · subst hji
    have : o' = o := by
      have hj' : ops[j]? = some o' := by simpa using hj
      rw [ho] at hj'; cases hj'; rfl
    subst this
    have : (kindOf (pol.own f) o'.op == k) = false := by simpa using hk
    simp [this]
  · have : decide (j < i + 1) = decide (j < i) := by rw [decide_eq_decide]; omega
    rw [this]
theorem cntK_step {k : Kind} {i : Nat} {o : Oper} (ho : ops[i]? = some o) (hk : kindOf (pol.own f) o.op = k) : cntK pol f ops k (i + 1) = cntK pol f ops k i + 1 := by
  refine count_insert (j0 := i) (o0 := o) (by simpa using ho) (by simp) (by simp [hk]) (fun j o' hj hne => ?_)
  simp only [Nat.zero_add]
  have : decide (j < i + 1) = decide (j < i) := by rw [decide_eq_decide]; omega
  rw [this]
theorem cntK_mono {k : Kind} {i j : Nat} (h : i ≤ j) : cntK pol f ops k i ≤ cntK pol f ops k j := by
  refine count_le (fun m o hm hp => ?_)
  simp only [Bool.and_eq_true, decide_eq_true_eq] at hp ⊢
  exact ⟨hp.1, by omega⟩

theorem chk1_spec {r : Rec} {K : Option (V × Hp)} {res : V × Hp} : ∀ {Ss : List Hp} {k : Nat}, chk1 P ops r K k Ss = some res → K = some res ∧ ∀ j S, Ss[j]? = some S → r.lo ≤ k + j → k + j ≤ r.hi → k + j ≠ r.at_ → aSame P ops r S = true
  | [], k, h => by simp only [chk1] at h; exact ⟨h, fun j S hj => by simp at hj⟩
  | S :: Ss, k, h => by
    simp only [chk1] at h
    have tail : ∀ {k0 : Option (V × Hp)}, (∀ j S', Ss[j]? = some S' → r.lo ≤ k + 1 + j → k + 1 + j ≤ r.hi → k + 1 + j ≠ r.at_ → aSame P ops r S' = true) → (r.lo ≤ k → k ≤ r.hi → k ≠ r.at_ → aSame P ops r S = true) →
        ∀ j S', (S :: Ss)[j]? = some S' → r.lo ≤ k + j → k + j ≤ r.hi → k + j ≠ r.at_ → aSame P ops r S' = true := by
      intro _ h1 h2 j S' hj a b c
      cases j with
      | zero => simp only [List.getElem?_cons_zero, Option.some.injEq] at hj; subst hj; exact h2 (by simpa using a) (by simpa using b) (by simpa using c)
      | succ j => exact h1 j S' (by simpa using hj) (by omega) (by omega) (by omega)
    split at h
    · rename_i hc
      unfold ifT at h
      split at h
      · rename_i hs
        obtain ⟨h1, h2⟩ := chk1_spec h
        exact ⟨h1, tail (k0 := K) h2 (fun _ _ _ => hs)⟩
      · cases h
    · rename_i hc
      obtain ⟨h1, h2⟩ := chk1_spec h
      refine ⟨h1, tail (k0 := K) h2 (fun a b c => ?_)⟩
      simp [a, b, c] at hc
theorem chks_spec {Ss : List Hp} {K : Option (V × Hp)} {res : V × Hp} : ∀ {rs : List Rec}, chks P ops Ss K rs = some res → K = some res ∧ ∀ r ∈ rs, ∀ k S, Ss[k]? = some S → r.lo ≤ k → k ≤ r.hi → k ≠ r.at_ → aSame P ops r S = true
  | [], h => ⟨h, fun r hr => by simp at hr⟩
  | r :: rs, h => by
    simp only [chks] at h
    obtain ⟨h1, h2⟩ := chk1_spec h
    obtain ⟨h3, h4⟩ := chks_spec h1
    refine ⟨h3, fun r' hr' k S hk a b c => ?_⟩
    rcases List.mem_cons.1 hr' with rfl | hr'
    · exact h2 k S hk (by omega) (by omega) (by omega)
    · exact h4 r' hr' k S hk a b c

/-- What is known of one operation in the order of the text. -/
structure OpF (P : Program) (pol : Pol) (call : Oracle) (f : FuncId) (D : Nat) (ops : Array Oper) (bs : List Nat) (base : Nat) (SS : List Hp) (RR : List Rec) (j : Nat) (o : Oper) (T T' : List V) (v : V) : Prop where
  next : T' = put T o.dst v
  val : kindOf (pol.own f) o.op = .val → gVal P ops o T = some v
  read : kindOf (pol.own f) o.op = .read → (∃ S, SS[cntK pol f ops .eff j]? = some S ∧ gRead P ops o T S = some v) ∧ ⟨o, T, v, cntK pol f ops .eff j, loOf (pol.own f) ops bs j, hiOf (pol.own f) ops bs j⟩ ∈ RR
  alloc : kindOf (pol.own f) o.op = .alloc → o.guard = none ∧ v = .ptr (place pol f D) (base + cntK pol f ops .alloc j) 0 ∧ ⟨o, T, v, ops.size + 1, loOf (pol.own f) ops bs j, hiOf (pol.own f) ops bs j⟩ ∈ RR
  eff : kindOf (pol.own f) o.op = .eff → ∃ S S', SS[cntK pol f ops .eff j]? = some S ∧ SS[cntK pol f ops .eff j + 1]? = some S' ∧ gEff P pol call f D ops o T S = some (v, S')

theorem go_spec {bs : List Nat} {base : Nat} {Kc : List V → Hp → Option (V × Hp)} {res : V × Hp} : ∀ (os : List Oper) (i a : Nat) (T : List V) (H : Hp) (Ss : List Hp) (Rs : List Rec),
    aDrawGo P pol call f D ops bs base Kc i a os T H Ss Rs = some res → ops.toList.drop i = os → i + os.length = ops.size → Ss.length = cntK pol f ops .eff i + 1 → Ss[cntK pol f ops .eff i]? = some H → a = cntK pol f ops .alloc i →
    ∃ (v : Nat → V) (Tn : Nat → List V) (SS : List Hp) (RR : List Rec), Tn i = T ∧ (∃ ext, SS = Ss ++ ext) ∧ (∀ r ∈ Rs, r ∈ RR) ∧ SS.length = cntK pol f ops .eff ops.size + 1 ∧ (∃ S, SS[cntK pol f ops .eff ops.size]? = some S ∧ chks P ops SS (Kc (Tn ops.size) S) RR = some res) ∧
      ∀ j o, i ≤ j → ops[j]? = some o → OpF P pol call f D ops bs base SS RR j o (Tn j) (Tn (j + 1)) (v j)
  | [], i, a, T, H, Ss, Rs, hr, hd, hn, hl, hS, ha => by
    simp only [aDrawGo] at hr
    have hin : i = ops.size := by simpa using hn
    subst hin
    refine ⟨fun _ => .undef, fun _ => T, Ss, Rs, rfl, ⟨[], by simp⟩, fun r h => h, hl, ⟨H, hS, hr⟩, fun j o hij ho => ?_⟩
    have := (Array.getElem?_eq_some_iff.1 ho).1
    omega
  | o :: os, i, a, T, H, Ss, Rs, hr, hd, hn, hl, hS, ha => by
    have hlt : i < ops.toList.length := by
      rcases Nat.lt_or_ge i ops.toList.length with h | h
      · exact h
      · rw [List.drop_eq_nil_of_le h] at hd; cases hd
    have hdrop := List.drop_eq_getElem_cons hlt
    rw [hd] at hdrop
    simp only [List.cons.injEq] at hdrop
    obtain ⟨ho', hos⟩ := hdrop
    have ho : ops[i]? = some o := by
      rw [ho']; simp at hlt ⊢
    have hn' : i + 1 + os.length = ops.size := by simp only [List.length_cons] at hn; omega
    have hSl : ∀ {ext : List Hp}, (Ss ++ ext)[cntK pol f ops .eff i]? = some H := fun {ext} => by rw [List.getElem?_append_left (by omega)]; exact hS
    -- what a step and the rest tell
    have wrap : ∀ (v1 : V) (a1 : Nat) (H1 : Hp) (Ss1 : List Hp) (Rs1 : List Rec), aDrawGo P pol call f D ops bs base Kc (i + 1) a1 os (put T o.dst v1) H1 Ss1 Rs1 = some res → Ss1.length = cntK pol f ops .eff (i + 1) + 1 → Ss1[cntK pol f ops .eff (i + 1)]? = some H1 → a1 = cntK pol f ops .alloc (i + 1) →
        (∃ ext, Ss1 = Ss ++ ext) → (∀ r ∈ Rs, r ∈ Rs1) → (∀ SS RR, (∃ ext, SS = Ss1 ++ ext) → (∀ r ∈ Rs1, r ∈ RR) → OpF P pol call f D ops bs base SS RR i o T (put T o.dst v1) v1) →
        ∃ (v : Nat → V) (Tn : Nat → List V) (SS : List Hp) (RR : List Rec), Tn i = T ∧ (∃ ext, SS = Ss ++ ext) ∧ (∀ r ∈ Rs, r ∈ RR) ∧ SS.length = cntK pol f ops .eff ops.size + 1 ∧ (∃ S, SS[cntK pol f ops .eff ops.size]? = some S ∧ chks P ops SS (Kc (Tn ops.size) S) RR = some res) ∧
          ∀ j o, i ≤ j → ops[j]? = some o → OpF P pol call f D ops bs base SS RR j o (Tn j) (Tn (j + 1)) (v j) := by
      intro v1 a1 H1 Ss1 Rs1 h1 h2 h3 h4 ⟨ext1, h5⟩ h6 h7
      obtain ⟨v, Tn, SS, RR, k1, ⟨ext2, k2⟩, k3, k4, k5, k6⟩ := go_spec os (i + 1) a1 _ H1 Ss1 Rs1 h1 hos.symm hn' h2 h3 h4
      have hsz : i < ops.size := by simpa using hlt
      refine ⟨fun j => if j = i then v1 else v j, fun j => if j = i then T else Tn j, SS, RR, by simp, ⟨ext1 ++ ext2, by rw [k2, h5, List.append_assoc]⟩, fun r hr => k3 r (h6 r hr), k4, ?_, fun j o2 hij ho2 => ?_⟩
      · obtain ⟨S, q1, q2⟩ := k5
        refine ⟨S, q1, ?_⟩
        simp only [show ¬ ops.size = i by omega, if_false]; exact q2
      · by_cases hji : j = i
        · subst hji
          rw [ho] at ho2; cases ho2
          simp only [if_true, show ¬ j + 1 = j by omega, if_false, k1]
          exact h7 SS RR ⟨ext2, k2⟩ k3
        · simp only [hji, if_false, show ¬ j + 1 = i by omega]
          exact k6 j o2 (by omega) ho2
    simp only [aDrawGo] at hr
    split at hr
    · rename_i hk
      unfold ob at hr
      split at hr
      · rename_i v1 hv
        have e1 : cntK pol f ops .eff (i + 1) = cntK pol f ops .eff i := cntK_same ho (by rw [hk]; simp)
        have e2 : cntK pol f ops .alloc (i + 1) = cntK pol f ops .alloc i := cntK_same ho (by rw [hk]; simp)
        exact wrap v1 a H Ss Rs hr (by rw [e1]; exact hl) (by rw [e1]; exact hS) (by rw [e2]; exact ha) ⟨[], by simp⟩ (fun r h => h)
          (fun SS RR _ _ => ⟨rfl, fun _ => hv, fun h => (by rw [hk] at h; cases h), fun h => (by rw [hk] at h; cases h), fun h => (by rw [hk] at h; cases h)⟩)
      · cases hr
    · rename_i hk
      unfold ob at hr
      split at hr
      · rename_i v1 hv
        have e1 : cntK pol f ops .eff (i + 1) = cntK pol f ops .eff i := cntK_same ho (by rw [hk]; simp)
        have e2 : cntK pol f ops .alloc (i + 1) = cntK pol f ops .alloc i := cntK_same ho (by rw [hk]; simp)
        refine wrap v1 a H Ss _ hr (by rw [e1]; exact hl) (by rw [e1]; exact hS) (by rw [e2]; exact ha) ⟨[], by simp⟩ (fun r h => List.mem_cons_of_mem _ h)
          (fun SS RR ⟨ext, hSS⟩ hRR => ⟨rfl, fun h => (by rw [hk] at h; cases h), fun _ => ⟨⟨H, by rw [hSS]; exact hSl, hv⟩, ?_⟩, fun h => (by rw [hk] at h; cases h), fun h => (by rw [hk] at h; cases h)⟩)
        have := hRR _ (List.mem_cons_self ..)
        rwa [show Ss.length - 1 = cntK pol f ops .eff i by omega] at this
      · cases hr
    · rename_i hk
      split at hr
      · cases hr
      · rename_i hg
        have e1 : cntK pol f ops .eff (i + 1) = cntK pol f ops .eff i := cntK_same ho (by rw [hk]; simp)
        have e2 : cntK pol f ops .alloc (i + 1) = cntK pol f ops .alloc i + 1 := cntK_step ho hk
        exact wrap _ (a + 1) H Ss _ hr (by rw [e1]; exact hl) (by rw [e1]; exact hS) (by rw [e2, ha]) ⟨[], by simp⟩ (fun r h => List.mem_cons_of_mem _ h)
          (fun SS RR _ hRR => ⟨rfl, fun h => (by rw [hk] at h; cases h), fun h => (by rw [hk] at h; cases h), fun _ => ⟨hg, by rw [ha], hRR _ (List.mem_cons_self ..)⟩, fun h => (by rw [hk] at h; cases h)⟩)
    · rename_i hk
      unfold ob2 at hr
      split at hr
      · rename_i p hv
        obtain ⟨v1, H1⟩ := p
        have e1 : cntK pol f ops .eff (i + 1) = cntK pol f ops .eff i + 1 := cntK_step ho hk
        have e2 : cntK pol f ops .alloc (i + 1) = cntK pol f ops .alloc i := cntK_same ho (by rw [hk]; simp)
        have hat : (Ss ++ [H1])[cntK pol f ops .eff i + 1]? = some H1 := by
          rw [← hl]; simp
        exact wrap v1 a H1 (Ss ++ [H1]) Rs hr (by rw [e1]; simp [hl]) (by rw [e1]; exact hat) (by rw [e2]; exact ha) ⟨[H1], rfl⟩ (fun r h => h)
          (fun SS RR ⟨ext, hSS⟩ _ => ⟨rfl, fun h => (by rw [hk] at h; cases h), fun h => (by rw [hk] at h; cases h), fun h => (by rw [hk] at h; cases h), fun _ => ⟨H, H1, by rw [hSS, List.append_assoc]; exact hSl, by
            rw [hSS, List.getElem?_append_left (by simp; omega)]; exact hat, hv⟩⟩)
      · cases hr

/-! ### What is alloc'ed ahead -/

theorem hoist_spec {w0 w : World} {g : Gh} {d : Nat} (hd : d ≤ D) {Kc : Hp → Option (V × Hp)} {res : V × Hp} : ∀ (os : List Oper) (H : Hp), aHoist P d Kc os H = some res → Rel w0 D g H w →
    ∃ H0, Kc H0 = some res ∧ Rel w0 D g H0 w ∧ Eff g g H H0 ∧ (∀ n m, H.sizes d = some (n, m) → ∃ m', H0.sizes d = some (n + countOf (fun _ o => kindOf (pol.own f) o.op == .alloc) 0 os, m') ∧ ∀ k, k < countOf (fun _ o => kindOf (pol.own f) o.op == .alloc) 0 os → g.ρ d (n + k) = none)
  | [], H, hr, hR => by
    simp only [aHoist] at hr
    exact ⟨H, hr, hR, .refl _ _, fun n m hs => ⟨m, by simpa [countOf] using hs, fun k hk => by simp [countOf] at hk⟩⟩
  | o :: os, H, hr, hR => by
    have hoff : ∀ (os : List Oper) (i j : Nat), countOf (fun _ o => kindOf (pol.own f) o.op == .alloc) i os = countOf (fun _ o => kindOf (pol.own f) o.op == .alloc) j os := by
      intro os
      induction os with
      | nil => intro i j; rfl
      | cons o os ih => intro i j; simp only [countOf]; rw [ih (i + 1) (j + 1)]
    simp only [aHoist] at hr
    split at hr
    · rename_i t hop
      have hk : kindOf (pol.own f) o.op = .alloc := by rw [hop]; rfl
      split at hr
      · rename_i z hz
        unfold ob at hr
        split at hr
        · rename_i p hn
          obtain ⟨i, H1⟩ := p
          obtain ⟨h1, hρ⟩ := hR.hoist hn
          obtain ⟨q1, q2, q3, q4, ⟨m, q5, q6⟩, q7, q8⟩ := Hp.newObj_spec hn
          obtain ⟨H0, k1, k2, k3, k4⟩ := hoist_spec hd os H1 hr h1
          refine ⟨H0, k1, k2, ?_, fun n m' hs => ?_⟩
          · refine Eff.trans ⟨⟨.refl g, fun _ _ _ _ _ _ h => h⟩, fun d' n m' hs => ?_⟩ k3
            by_cases hc : d' = d
            · subst hc; rw [q5] at hs; cases hs; exact ⟨_, _, q6, by omega⟩
            · exact ⟨n, m', by rw [q7 d' hc]; exact hs, Nat.le_refl _⟩
          · rw [q5] at hs; cases hs
            obtain ⟨m'', r1, r2⟩ := k4 _ _ q6
            have hc : countOf (fun _ o => kindOf (pol.own f) o.op == .alloc) 0 (o :: os) = 1 + countOf (fun _ o => kindOf (pol.own f) o.op == .alloc) 0 os := by
              simp only [countOf, hk, beq_self_eq_true]; rw [hoff os 1 0]
            rw [hc]
            refine ⟨m'', by rw [r1]; simp; omega, fun k hk' => ?_⟩
            cases k with
            | zero => exact hρ
            | succ k => have := r2 k (by omega); rwa [show i + (k + 1) = i + 1 + k by omega]
        · cases hr
      · cases hr
    · rename_i hne
      have hk : (kindOf (pol.own f) o.op == .alloc) = false := by
        cases hop : o.op with
        | alloc t => exact (hne t hop).elim
        | call c =>
          obtain ⟨callee, args, ats⟩ := c
          cases callee with
          | builtin b => cases b <;> rfl
          | _ => rfl
        | convert => simp only [kindOf]; split <;> rfl
        | makeSlice => simp only [kindOf]; split <;> rfl
        | _ => rfl
      obtain ⟨H0, k1, k2, k3, k4⟩ := hoist_spec hd os H hr hR
      refine ⟨H0, k1, k2, k3, fun n m hs => ?_⟩
      have hc : countOf (fun _ o => kindOf (pol.own f) o.op == .alloc) 0 (o :: os) = countOf (fun _ o => kindOf (pol.own f) o.op == .alloc) 0 os := by
        simp only [countOf, hk]; rw [hoff os 1 0]; omega
      rw [hc]; exact k4 n m hs
end

end Go.Abs
