/- The code with its types looked up: functions, calls. -/
import Derived.Test.YtokjbfjkmboehaaGreatAbsV
import Derived.Test.YtokjbfjkmboehaaGreatAbsW
set_option linter.unusedVariables false
set_option linter.unusedSimpArgs false
namespace Go.Abs

inductive RRes where
  | t (p : Pth)
  | cell (b : Bool) (n : Nat) (p : Pth)

/-- A function with its types looked up. 'ap': where its arguments stand; 'e0': temporaries that nothing was written to. -/
structure RFn where
  ap : List Pth
  e0 : TT
  code : RC
  res : List RRes
  at_ : Nat
  own : Bool
  keep : Bool

noncomputable def rInit : List Pth → List V → TT → Option TT
  | _, [], T => some T
  | [], _ :: _, _ => none
  | p :: ps, a :: vs, T => rInit ps vs (TT.put p a T)

noncomputable def rRes (T : TT) (H : Hp) (r : RRes) : Option V :=
  match r with
  | .t p => some (TT.get p T)
  | .cell b n p => aLoad b n (TT.get p T) H
noncomputable def rRess {β : Type} (T : TT) (H : Hp) (K : List V → Option β) (rs : List RRes) : Option β :=
  match rs with
  | [] => K []
  | r :: rs => ob (rRes T H r) fun v => rRess T H (fun vs => K (v :: vs)) rs

noncomputable def rLeave (keep : Bool) (rs : List RRes) (D : Nat) : KT (V × Hp) := fun ax T H =>
  match ax with
  | .exit _ => none
  | .normal => rRess T H (fun vs => leave keep D vs H) rs
  | .ret => rRess T H (fun vs => leave keep D vs H) rs

def placeOf (a D : Nat) : Nat :=
  match a with
  | 0 => D
  | 1 => D - 1
  | _ => 0

noncomputable def rBody (rf : RFn) (call : Oracle) (n : Nat) (args : List V) (H : Hp) : Option (V × Hp) :=
  match rInit rf.ap args rf.e0 with
  | some T => rCode call ⟨rf.own, placeOf rf.at_ (H.depth + 1), H.depth + 1⟩ n rf.code (rLeave rf.keep rf.res H.depth) T (aPush H)
  | none => none

def lookT {α : Type} (g : Nat) : List (Nat × α) → Option α
  | [] => none
  | (k, x) :: l => match Nat.beq k g with
    | true => some x
    | false => lookT g l

noncomputable def rcall (prims : List (Nat × (List V → Hp → Option (V × Hp)))) (tab : List (Nat × RFn)) : Nat → Oracle
  | 0 => fun _ _ _ => none
  | n + 1 => fun g args H =>
    match lookT g prims with
    | some pr => pr args H
    | none => match lookT g tab with
      | some rf => rBody rf (rcall prims tab n) n args H
      | none => none

/-! ### Looking up -/

def apOf (d : Nat) : Nat → Nat → List Pth
  | _, 0 => []
  | i, k + 1 => pth d i :: apOf d (i + 1) k
def mkU : Nat → TT
  | 0 => .lf .undef
  | d + 1 => .nd (mkU d) (mkU d)
def rResOf (P : Program) (d : Nat) (r : ResultVar) : Option RRes :=
  match r with
  | .tmp t => match Nat.blt t (2 ^ d) with
    | true => some (.t (pth d t))
    | false => none
  | .cell a t => match tAgg P t with
    | some b => match tSize P t with
      | some n => match Nat.blt a (2 ^ d) with
        | true => some (.cell b n (pth d a))
        | false => none
      | none => none
    | none => none
def rRessOf (P : Program) (d : Nat) : List ResultVar → Option (List RRes)
  | [] => some []
  | r :: rs => match rResOf P d r with
    | some x => match rRessOf P d rs with
      | some xs => some (x :: xs)
      | none => none
    | none => none

/-- 'd': the depth of the tree of temporaries; 'k': how many arguments at most. -/
def resolveFn (P : Program) (pol : Pol) (g d k : Nat) : Option RFn :=
  match P.funcs[g]? with
  | none => none
  | some fn => match fn.body with
    | none => none
    | some c => match rCodeOf P (pol.own g) d fn.ntmps c with
      | some rc => match rRessOf P d fn.results.toList with
        | some rs => match Nat.ble k fn.ntmps && Nat.ble fn.ntmps (2 ^ d) with
          | true => some ⟨apOf d 0 k, mkU d, rc, rs, pol.at_ g, pol.own g, pol.keep g⟩
          | false => none
        | none => none
      | none => none

/-! ### It does as before -/

section
variable {P : Program} {pol : Pol} {call : Oracle} {d nt : Nat}

theorem mkU_eq : ∀ (d off : Nat) (f : Nat → V), (∀ j, f j = .undef) → mkU d = mkF d off f
  | 0, off, f, h => by simp only [mkU, mkF, h]
  | d + 1, off, f, h => by simp only [mkU, mkF]; rw [← mkU_eq d off f h, ← mkU_eq d (off + 2 ^ d) f h]
theorem nth_replicate (n j : Nat) : nth (List.replicate n .undef) j = .undef := by
  rw [nth_eq]
  cases h : (List.replicate n V.undef)[j]? with
  | none => rfl
  | some v =>
    have := List.mem_of_getElem? h
    simp at this
    simp [this]
theorem mkU_mkT (d n : Nat) : mkU d = mkT d (List.replicate n .undef) := mkU_eq d 0 _ (nth_replicate n)

theorem upd_at (pre : List V) (m : Nat) (a : V) : upd (pre ++ List.replicate (m + 1) .undef) pre.length a = pre ++ [a] ++ List.replicate m .undef := by
  rw [upd_eq, List.set_append, if_neg (Nat.lt_irrefl _)]
  simp [List.replicate_succ]

theorem rInit_ok (hnt : nt ≤ 2 ^ d) : ∀ (k : Nat) (args pre : List V) {T : TT}, pre.length + k ≤ nt → rInit (apOf d pre.length k) args (mkT d (pre ++ List.replicate (nt - pre.length) .undef)) = some T →
    T = mkT d (pre ++ args ++ List.replicate (nt - pre.length - args.length) .undef)
  | k, [], pre, T, hk, h => by
    have : some (mkT d (pre ++ List.replicate (nt - pre.length) .undef)) = some T := by cases k <;> exact h
    cases this
    simp
  | 0, a :: args, pre, T, hk, h => by simp [apOf, rInit] at h
  | k + 1, a :: args, pre, T, hk, h => by
    simp only [apOf, rInit] at h
    obtain ⟨m, hm⟩ : ∃ m, nt - pre.length = m + 1 := ⟨nt - pre.length - 1, by omega⟩
    rw [hm, put_mkT (by omega) (by simp), upd_at] at h
    have ih := rInit_ok hnt k args (pre ++ [a]) (T := T) (by simp; omega)
    simp only [List.length_append, List.length_cons, List.length_nil] at ih
    rw [show nt - (pre.length + (0 + 1)) = m by omega] at ih
    have := ih h
    rw [this, hm]
    simp

theorem rRess_ok {β : Type} {T : List V} {H : Hp} : ∀ {rs : List ResultVar} {xs : List RRes}, rRessOf P d rs = some xs → ∀ (K : List V → Option β), rRess (mkT d T) H K xs = aResults P T H K rs
  | [], xs, h, K => by simp only [rRessOf, Option.some.injEq] at h; subst h; rfl
  | r :: rs, xs, h, K => by
    simp only [rRessOf] at h
    split at h
    · rename_i x hx
      split at h
      · rename_i xs' hxs
        cases h
        have one : rRes (mkT d T) H x = aResult P T H r := by
          unfold rResOf at hx
          split at hx
          · split at hx
            · rename_i hb
              cases hx
              simp only [rRes, aResult]
              rw [get_mkT (by simpa [Nat.blt_eq] using hb)]
            · cases hx
          · split at hx
            · rename_i b hb0
              split at hx
              · rename_i n hn
                split at hx
                · rename_i hb
                  cases hx
                  simp only [rRes, aResult, hb0, hn]
                  rw [get_mkT (by simpa [Nat.blt_eq] using hb)]
                · cases hx
              · cases hx
            · cases hx
        simp only [rRess, aResults]
        rw [one]
        have ih := fun v => rRess_ok (T := T) (H := H) hxs (fun vs => K (v :: vs))
        simp only [ih]
      · cases h
    · cases h

theorem rBody_ok {g d k : Nat} {rf : RFn} (h : resolveFn P pol g d k = some rf) {n : Nat} {args : List V} {H : Hp} {r : V × Hp} (hr : rBody rf call n args H = some r) : aBody P pol call n g args H = some r := by
  unfold resolveFn at h
  split at h
  · cases h
  · rename_i fn hf
    split at h
    · cases h
    · rename_i c hb
      split at h
      · rename_i rc hrc
        split at h
        · rename_i rs hrs
          split at h
          · rename_i hck
            cases h
            simp only [Bool.and_eq_true] at hck
            have h1 : k ≤ fn.ntmps := Nat.le_of_ble_eq_true hck.1
            have h2 : fn.ntmps ≤ 2 ^ d := Nat.le_of_ble_eq_true hck.2
            unfold rBody at hr
            split at hr
            · rename_i T hT
              simp only at hT hr
              rw [mkU_mkT d fn.ntmps] at hT
              have hi := rInit_ok (nt := fn.ntmps) h2 k args [] (T := T) (by simpa using h1) (by simpa using hT)
              simp only [List.nil_append, List.length_nil, Nat.sub_zero] at hi
              subst hi
              unfold aBody
              simp only [hf, hb]
              rw [← hr]
              have hpl : placeOf (pol.at_ g) (H.depth + 1) = place pol g (H.depth + 1) := by
                unfold placeOf place; rfl
              rw [hpl]
              refine (rCode_ok (pol := pol) hrc 0 _ _ (fun ax T H' hT => ?_) _ _ ?_).symm
              · cases ax with
                | exit id => rfl
                | normal => exact rRess_ok hrs _
                | ret => exact rRess_ok hrs _
              · simp; omega
            · cases hr
          · cases h
        · cases h
      · cases h

theorem lookT_mem {α : Type} {g : Nat} : ∀ {l : List (Nat × α)} {x : α}, lookT g l = some x → (g, x) ∈ l
  | [], x, h => by simp [lookT] at h
  | (k, y) :: l, x, h => by
    simp only [lookT] at h
    split at h
    · rename_i hk
      cases h
      have : k = g := by simpa [Nat.beq_eq] using hk
      subst this; simp
    · exact List.mem_cons_of_mem _ (lookT_mem h)

/-- RESOLVED CALLS ARE SOUND. -/
theorem rcall_sound {prims : List (Nat × (List V → Hp → Option (V × Hp)))} {tab : List (Nat × RFn)} (hm : P.follows .mixedOrders = true) (hnn : NoNum P) (hprim : ∀ x ∈ prims, CallOK1 P x.1 x.2)
    (htab : ∀ x ∈ tab, ∃ d k, resolveFn P pol x.1 d k = some x.2) : ∀ n, CallOK P (rcall prims tab n)
  | 0 => by intro f args H r H' hr; simp [rcall] at hr
  | n + 1 => by
    have ih := rcall_sound hm hnn hprim htab n
    intro f args H r H' hr
    simp only [rcall] at hr
    split at hr
    · rename_i pr hp
      exact hprim _ (lookT_mem hp) args H r H' hr
    · split at hr
      · rename_i rf hrf
        obtain ⟨d, k, hres⟩ := htab _ (lookT_mem hrf)
        exact aBody_sound ih (aDraw_sound ih) hm hnn n f args H r H' (rBody_ok hres hr)
      · cases hr
end

end Go.Abs
