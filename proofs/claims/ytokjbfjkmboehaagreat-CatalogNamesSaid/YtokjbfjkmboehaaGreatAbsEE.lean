/- slices.Insert of one string: its contract as a primitive. -/
import Derived.Test.YtokjbfjkmboehaaGreatAbsDD
set_option linter.unusedVariables false
set_option linter.unusedSimpArgs false
namespace Go.Abs
open Go.RowKit Go.Shelf Go.Lib Go.Proofs

section
variable {P : Program} {ρ : Ren} {w0 w : World} {D : Nat} {g : Gh} {H : Hp}

theorem insert_in (h : Rel w0 D g H w) {d i i' b : Nat} {cs cs' : List V} {H1 : Hp} {ys zs ys' zs' : List Value} {ty : TypeId} {fz : Nat × Nat} {w' : World} (ho : H.obj d i = some (.cells cs)) (hρ : g.ρ d i = some b)
    (hx : w.heap[b]? = some (.cells ⟨ys ++ zs⟩ ty fz)) (hn : (H.setObj d i .dead).newObj d (.cells cs') = some (i', H1))
    (e2 : w'.heap[b]? = some (.cells ⟨ys' ++ zs'⟩ ty fz)) (e3 : w'.heap.size = w.heap.size) (e4 : ∀ c, c ≠ b → w'.heap[c]? = w.heap[c]?) (e5 : w'.os = w.os) (e6 : w'.tape = w.tape) (e7 : w'.output = w.output)
    (hcn : VRL (g.restr d) cs' ys') (hlen : ys'.length + zs'.length = ys.length + zs.length) (hfz : fzOK fz (ys.length + zs.length)) (hI : fz = (0, 0) ∨ allInt cs' = true) :
    Rel w0 D (g.addM d i' b) H1 w' ∧ Eff g (g.addM d i' b) H H1 := by
  have k1 := h.setObj (o := .dead) hρ (by rw [ho]; simp) hx e2 e3 e4 e5 e6 e7 (fun c ty2 fz2 e => by cases e; exact ⟨_, ty, rfl, by simp; omega⟩) trivial
  obtain ⟨k2, k3⟩ := k1.alias hρ (fun d2 i2 e => by
    by_cases hd : H.obj d2 i2 = some .dead
    · rw [Hp.obj_setObj]; split
      · rename_i hc; obtain ⟨rfl, rfl⟩ := hc; simp [ho]
      · exact hd
    · obtain ⟨rfl, rfl⟩ := h.ρinj _ _ _ _ _ e hρ hd (by rw [ho]; simp)
      rw [Hp.obj_setObj]; simp [ho]) hn e2 ⟨ys', zs', ty, fz, rfl, hcn, by rw [hlen]; exact hfz, hI⟩
  exact ⟨k2, (Eff.of_same (.refl _) (fun _ _ => rfl) (fun d' n' m' hs => ⟨m', by rw [Hp.sizes_setObj]; exact hs⟩)).trans k3⟩

theorem insert_new (h : Rel w0 D g H w) {d i i' : Nat} {cs' : List V} {H1 : Hp} {ys' zs' : List Value} {ty : TypeId}
    (hn : (H.setObj d i .dead).newObj d (.cells cs') = some (i', H1)) (hcn : VRL (g.restr d) cs' ys') :
    ∃ g', Rel w0 D g' H1 (w.alloc (.cells ⟨ys' ++ zs'⟩ ty (0, 0))) ∧ Eff g g' H H1 ∧ g'.ρ d i' = some w.heap.size ∧ g'.B w.heap.size = some (ys'.length + zs'.length) := by
  have k1 := h.kill d i
  obtain ⟨g', p1, p2, p3, p4⟩ := sim_new k1 hn hcn (zs := zs') ty (0, 0) (fzOK_zero _) (.inl rfl)
  exact ⟨g', p1, (Eff.of_same (.refl _) (fun _ _ => rfl) (fun d' n' m' hs => ⟨m', by rw [Hp.sizes_setObj]; exact hs⟩)).trans p2, p3, p4⟩

theorem zeroCells_one (v : Value) (n : Nat) : (Builtin.zeroCells #[v] n).toList = List.replicate n v := by
  apply List.ext_getElem
  · simp [Builtin.zeroCells]
  · intro i h1 h2
    simp [Builtin.zeroCells, Nat.mod_one]

theorem setAll_mid {α : Type} (vs a b c : List α) (n : Nat) (hn : a.length = n) (h : b.length = vs.length) : setAll (a ++ (b ++ c)) n vs = a ++ (vs ++ c) := by
  subst hn
  rw [setAll_behind _ _ _ (by simp; omega)]
  rw [← h, List.drop_left, List.append_assoc]

theorem setAll_shift (ys zs : List Value) (z x : Value) (k : Nat) (hk : k ≤ ys.length) :
    setAll (setAll (ys ++ z :: zs) (k + 1) (ys.drop k)) k [x] = (ys.take k ++ x :: ys.drop k) ++ zs := by
  have e1 : ys ++ z :: zs = (ys ++ [z]).take (k + 1) ++ ((ys ++ [z]).drop (k + 1) ++ zs) := by
    rw [← List.append_assoc, List.take_append_drop]; simp
  have hlt : k < (ys ++ [z]).length := by simp; omega
  have e2 : (ys ++ [z]).take (k + 1) = ys.take k ++ [(ys ++ [z])[k]] := by
    rw [List.take_succ_eq_append_getElem hlt, List.take_append_of_le_length hk]
  rw [e1, setAll_mid (ys.drop k) _ _ zs (k + 1) (by simp; omega) (by simp), e2]
  have := setAll_mid [x] (ys.take k) [(ys ++ [z])[k]] (ys.drop k ++ zs) k (by simp; omega) (by simp)
  rw [← List.append_assoc] at this
  rw [this]; simp

theorem grow_world {w : World} {ty : TypeId} (ys : List Value) (x z : Value) (k n : Nat) (hk : k ≤ ys.length) : ∃ zs : List Value, zs.length = n ∧
    (((w.alloc (.cells ((ys.take k).toArray ++ Builtin.zeroCells #[z] (ys.length + 1 - k) ++ Builtin.zeroCells #[z] n) ty)).drew.setCells w.heap.size k [x]).drew).setCells w.heap.size (k + 1) (ys.drop k) =
      w.drew.drew.alloc (.cells ⟨(ys.take k ++ x :: ys.drop k) ++ zs⟩ ty (0, 0)) := by
  refine ⟨List.replicate n z, by simp, ?_⟩
  have e0 : ((ys.take k).toArray ++ Builtin.zeroCells #[z] (ys.length + 1 - k) ++ Builtin.zeroCells #[z] n) = ⟨ys.take k ++ ([z] ++ (List.replicate (ys.length - k) z ++ List.replicate n z))⟩ := by
    apply Array.toList_inj.1
    simp only [Array.toList_append, zeroCells_one]
    rw [show ys.length + 1 - k = (ys.length - k) + 1 by omega, List.replicate_succ]
    simp
  rw [e0]
  have h1 := setCells_alloc w.drew ty (0, 0) [x] k (ys.take k ++ ([z] ++ (List.replicate (ys.length - k) z ++ List.replicate n z)))
  rw [setAll_mid [x] (ys.take k) [z] _ k (by simp; omega) (by simp)] at h1
  have h2 := setCells_alloc w.drew.drew ty (0, 0) (ys.drop k) (k + 1) (ys.take k ++ ([x] ++ (List.replicate (ys.length - k) z ++ List.replicate n z)))
  have e3 : ys.take k ++ ([x] ++ (List.replicate (ys.length - k) z ++ List.replicate n z)) = (ys.take k ++ [x]) ++ (List.replicate (ys.length - k) z ++ List.replicate n z) := by simp
  rw [e3, setAll_mid (ys.drop k) (ys.take k ++ [x]) _ _ (k + 1) (by simp; omega) (by simp), ← e3] at h2
  have q1 : ((w.alloc (.cells ⟨ys.take k ++ ([z] ++ (List.replicate (ys.length - k) z ++ List.replicate n z))⟩ ty)).drew.setCells w.heap.size k [x]) = w.drew.alloc (.cells ⟨ys.take k ++ ([x] ++ (List.replicate (ys.length - k) z ++ List.replicate n z))⟩ ty (0, 0)) := h1
  rw [q1]
  refine Eq.trans h2 ?_
  congr 2
  simp

set_option maxHeartbeats 1000000 in
theorem insert_ok (hnn : NoNum P) (L : Lays2.n22 P ρ) {fn : Func} (hf : P.funcs[ρ.f 22]? = some fn) (hb : fn.body.isNone = false) : CallOK1 P (ρ.f 22) primInsert := by
  refine CallOK1.of_calls hnn hf hb (fun args H r H' hr w0 w D g xs hR hargs => ?_)
  unfold primInsert at hr
  split at hr
  · rename_i d i len k x t
    split at hr
    · rename_i cs ho
      split at hr
      · rename_i hck
        split at hr
        · rename_i i' H1 hn
          simp only [Option.some.injEq, Prod.mk.injEq] at hr; obtain ⟨rfl, rfl⟩ := hr
          simp only [Bool.and_eq_true] at hck
          obtain ⟨⟨c1, c2⟩, c3, c4, c5⟩ := hck
          have c1 : cs.length = len := by simpa [Nat.beq_eq] using c1
          have c2 := Nat.le_of_ble_eq_true c2
          have c3 : 0 < len := by simpa [Nat.blt_eq] using c3
          have c4 := Nat.le_of_ble_eq_true c4
          simp only [VRL] at hargs
          obtain ⟨x1, _, rfl, hx1, x2, _, rfl, hx2, x3, _, rfl, hx3, rfl⟩ := hargs
          simp only [VR] at hx1 hx2 hx3
          obtain ⟨b, cap, nB, hρ, rfl, hle, hB, hfitB⟩ := hx1
          subst hx2
          obtain ⟨vbase, vcap, vys, rfl, hvle, hvr, hs1, hs2, hs3, hs4⟩ := hx3
          obtain ⟨vy, rfl, hvy⟩ := VRL.one hvr
          have hvy' : VR (g.restr d) (.str x) vy := by simpa [VR] using hvy
          simp only [VR] at hvy; subst hvy
          obtain ⟨vb, vo, rfl, full, hΦ, hfull⟩ := hs3 (by simp)
          obtain ⟨vz, vty, vfz, hvx⟩ := hR.Φok vb full hΦ
          have hvb : vb ≠ b := by rintro rfl; rw [hR.ρΦ _ _ _ hρ] at hΦ; cases hΦ
          obtain ⟨ob, hx, ys, zs, ty, fz, rfl, hyr, hfz, hI⟩ := hR.obj d i _ b ho hρ
          have hfz0 : fz = (0, 0) := hI.resolve_right (allStr_ne c5 (by omega))
          subst hfz0
          have hyl : ys.length = len := by rw [hyr.length, c1]
          obtain ⟨cB, tB, fB, hB1, hB2⟩ := hR.Bok b nB hB
          rw [hx] at hB1; cases hB1
          simp only [List.size_toArray, List.length_append] at hB2
          have hvs : ∀ (W : World), W.heap = w.heap → ∀ j v, [Value.string ⟨⟨x⟩⟩][j]? = some v → W.cell? ⟨vb, vo + j, none⟩ = some v := by
            intro W hW j v hj
            have := hfull j v hj
            rw [cell_of (by rw [hW]; exact hvx)]
            obtain ⟨hlt, _⟩ := List.getElem?_eq_some_iff.1 this
            simp [List.getElem?_append_left hlt, this]
          have hcells : ∀ (W : World), W.heap = w.heap → ∀ j v, ys[j]? = some v → W.cell? ⟨b, 0 + j, none⟩ = some v := by
            intro W hW j v hj
            rw [cell_of (by rw [hW]; exact hx)]
            obtain ⟨hlt, _⟩ := List.getElem?_eq_some_iff.1 hj
            simp [List.getElem?_append_left hlt, hj]
          have h1c : ∀ v ∈ ys, v.oneCell' = true := oneL_spec (allStr_oneL c5) hyr
          have h1v : ∀ v ∈ [Value.string ⟨⟨x⟩⟩], v.oneCell' = true := by
            intro v hv; simp only [List.mem_singleton] at hv; subst hv; rfl
          have hsome : ∀ j, j < len + 1 → len + 1 ≤ cap → (w.cell? ⟨b, 0 + j, none⟩).isSome = true := by
            intro j hj hc
            rw [cell_of hx]
            have : j < ys.length + zs.length := by omega
            simp [this]
          have hfro : ∀ o, w.frozen? ⟨b, o, none⟩ = false := by
            intro o
            simp [World.frozen?, hx]
          have hcn : VRL (g.restr d) (cs.take k ++ .str x :: cs.drop k) (ys.take k ++ Value.string ⟨⟨x⟩⟩ :: ys.drop k) :=
            (hyr.take).append (VRL.cons hvy' hyr.drop)
          have hnl : (ys.take k ++ Value.string ⟨⟨x⟩⟩ :: ys.drop k).length = len + 1 := by simp; omega
          by_cases hroom : len + 1 ≤ cap
          · have hzl : 1 ≤ zs.length := by omega
            obtain ⟨z, zs', rfl⟩ : ∃ z zs', zs = z :: zs' := by cases zs with
              | nil => simp at hzl
              | cons z zs' => exact ⟨z, zs', rfl⟩
            have inplace : ∀ {w' : World}, w'.heap[b]? = some (.cells ⟨(ys.take k ++ Value.string ⟨⟨x⟩⟩ :: ys.drop k) ++ zs'⟩ ty (0, 0)) → w'.heap.size = w.heap.size → (∀ c, c ≠ b → w'.heap[c]? = w.heap[c]?) → w'.os = w.os → w'.tape = w.tape → w'.output = w.output →
                ∃ y g', (Ending.returned (.slice (some ⟨b, 0, none⟩) (len + 1) cap) = .returned y) ∧ VR g' (.sref d i' 0 (len + 1) 1) y ∧ Rel w0 D g' H1 w' ∧ Eff g g' H H1 := by
              intro w' e2 e3 e4 e5 e6 e7
              obtain ⟨p1, p2⟩ := insert_in hR ho hρ hx hn e2 e3 e4 e5 e6 e7 hcn (by simp only [List.length_append, List.length_cons, List.length_take, List.length_drop]; omega) hfz (.inl rfl)
              refine ⟨_, _, rfl, ?_, p1, p2⟩
              simp only [VR]
              exact ⟨b, cap, nB, by simp [Gh.addM], rfl, hroom, hB, by omega⟩
            by_cases hk : k < len
            · have hsa : w.shape? vb = some (vty, (full ++ vz).length) := by simp [World.shape?, hvx]
              have hsb : w.shape? b = some (ty, (ys ++ z :: zs').length) := by simp [World.shape?, hx]
              have hkA : (full ++ vz).length ≠ 0 := by
                have := hfull 0 _ rfl
                obtain ⟨hlt, _⟩ := List.getElem?_eq_some_iff.1 this
                simp only [List.length_append]; omega
              refine (insert_shift L b 0 len cap k vb vo 1 vcap ys [.string ⟨⟨x⟩⟩] w hk (by omega) hroom (by omega) hvb hyl rfl (hcells w rfl) (fun j hj => hsome j hj hroom) (fun j _ => hfro _) (hvs w rfl) h1c h1v vty ty _ _ hsa hsb (by simp) hkA (hfro _)).mono ?_
              rintro e w' ⟨rfl, rfl⟩
              obtain ⟨a2, a3, a4, a5, a6, a7⟩ := heap_setCells (ys.drop k) (0 + (k + 1)) (ys ++ z :: zs') w.drew hx
              obtain ⟨b2, b3, b4, b5, b6, b7⟩ := heap_setCells [Value.string ⟨⟨x⟩⟩] (0 + k) _ _ a2
              refine inplace ?_ (by rw [b3, a3]; rfl) (fun c hc => by rw [b4 c hc, a4 c hc]; rfl) (by rw [b5, a5]; rfl) (by rw [b6, a6]; rfl) (by rw [b7, a7]; rfl)
              rw [b2]
              have q := setAll_shift ys zs' z (Value.string ⟨⟨x⟩⟩) k (by omega)
              simp only [Nat.zero_add, q]
            · have hk' : k = len := by omega
              subst hk'
              refine (insert_end_room L b 0 k cap vb vo 1 vcap [.string ⟨⟨x⟩⟩] w (by omega) hroom (by omega) rfl (fun j hj => by have := hsome (k + j) (by omega) hroom; rwa [← Nat.add_assoc] at this) (fun j _ => hfro _) (hvs w rfl) h1v).mono ?_
              rintro e w' ⟨rfl, rfl⟩
              obtain ⟨b2, b3, b4, b5, b6, b7⟩ := heap_setCells [Value.string ⟨⟨x⟩⟩] (0 + k) _ _ hx
              refine inplace ?_ b3 b4 b5 b6 b7
              rw [b2]
              have q := setAll_behind [Value.string ⟨⟨x⟩⟩] ys (z :: zs') (by simp)
              rw [hyl] at q
              rw [Nat.zero_add, q, ← hyl]
              simp
          · have hcap : cap = len := by omega
            by_cases hk : k < len
            · refine (Any2.slices_Insert_string_grow L b 0 len cap k vb vo 1 vcap ys [.string ⟨⟨x⟩⟩] w hk (by omega) hle (by omega) (by omega) hyl rfl (hcells w rfl) (hvs w rfl) h1c h1v).mono ?_
              rintro e w' ⟨rfl, rfl⟩
              obtain ⟨zs3, hz3, hw⟩ := grow_world (w := w) (ty := ρ.t 9) ys (Value.string ⟨⟨x⟩⟩) (Value.string ⟨#[]⟩) k (grownCap w (len + 1) cap (ρ.t 9) - (len + 1)) (by omega)
              rw [hyl] at hw
              have hge := grownCap_ge w (len + 1) cap (ρ.t 9)
              obtain ⟨g', p1, p2, p3, p4⟩ := insert_new (ty := ρ.t 9) (zs' := zs3) hR.drew.drew hn hcn
              have hwe : (((w.alloc (.cells ((ys.take k).toArray ++ Builtin.zeroCells (Value.string ⟨#[]⟩).cells (len + 1 - k) ++ Builtin.zeroCells (Value.string ⟨#[]⟩).cells (grownCap w (len + 1) cap (ρ.t 9) - (len + 1))) (ρ.t 9))).drew.setCells w.heap.size k [.string ⟨⟨x⟩⟩]).drew).setCells w.heap.size (k + 1) (ys.drop k) = _ := hw
              rw [hwe]
              refine ⟨_, g', rfl, ?_, p1, p2⟩
              simp only [VR]
              exact ⟨_, _, _, p3, rfl, hge, p4, by rw [hnl, hz3]; omega⟩
            · have hk' : k = len := by omega
              subst hk'
              refine (Any2.slices_Insert_string_end_grow L (some ⟨b, 0, none⟩) k cap vb vo 1 vcap ys [.string ⟨⟨x⟩⟩] w (by omega) hle (by omega) (by omega) hyl rfl (by simp) (fun a ha j v hj => by cases ha; rw [Addr.add_lit]; exact hcells w rfl j v hj) (hvs w rfl) h1v).mono ?_
              rintro e w' ⟨rfl, rfl⟩
              have hge := grownCap_ge w (k + 1) cap (ρ.t 9)
              obtain ⟨g', p1, p2, p3, p4⟩ := insert_new (ty := ρ.t 9) (zs' := List.replicate (grownCap w (k + 1) cap (ρ.t 9) - (k + 1)) (Value.string ⟨#[]⟩)) hR.drew hn hcn
              have hwe : w.drew.alloc (.cells ((ys ++ [Value.string ⟨⟨x⟩⟩]).toArray ++ Builtin.zeroCells (Value.string ⟨#[]⟩).cells (grownCap w (k + 1) cap (ρ.t 9) - (k + 1))) (ρ.t 9)) =
                  w.drew.alloc (.cells ⟨(ys.take k ++ Value.string ⟨⟨x⟩⟩ :: ys.drop k) ++ List.replicate (grownCap w (k + 1) cap (ρ.t 9) - (k + 1)) (Value.string ⟨#[]⟩)⟩ (ρ.t 9) (0, 0)) := by
                congr 2
                apply Array.toList_inj.1
                rw [Array.toList_append]
                show _ ++ (Builtin.zeroCells #[Value.string ⟨#[]⟩] _).toList = _
                rw [zeroCells_one]
                simp [← hyl]
              rw [hwe]
              refine ⟨_, g', rfl, ?_, p1, p2⟩
              simp only [VR]
              exact ⟨_, _, _, p3, rfl, hge, p4, by rw [hnl, List.length_replicate]; omega⟩
        · cases hr
      · cases hr
    · cases hr
  · rename_i t' t x u
    have empty : t = .nil ∨ t = .full → r = .sl 1 [.str x] .dead → H = H' → Calls P (ρ.f 22) ⟨xs⟩ w fun e w' => ∃ x g', e = .returned x ∧ VR g' r x ∧ Rel w0 D g' H' w' ∧ Eff g g' H H' := by
      intro ht hre hH
      subst hre; subst hH
      simp only [VRL] at hargs
      obtain ⟨x1, _, rfl, hx1, x2, _, rfl, hx2, x3, _, rfl, hx3, rfl⟩ := hargs
      simp only [VR] at hx1 hx2 hx3
      obtain ⟨base, cap, ys, rfl, hle, hyr, q1, q2, q3, q4⟩ := hx1
      subst hx2
      obtain ⟨vbase, vcap, vys, rfl, hvle, hvr, hs1, hs2, hs3, hs4⟩ := hx3
      obtain ⟨vy, rfl, hvy⟩ := VRL.one hvr
      have hvy' : VRL ((g.addΦ w.drew.heap.size [vy] (([vy] : List Value).length + (List.replicate (grownCap w (0 + 1) cap (ρ.t 9) - (0 + 1)) (Value.string ⟨#[]⟩)).length)).restr 0) [.str x] [vy] := by
        simp only [VR] at hvy; subst hvy
        exact VRL.cons (by simp [VR]) (VRL.nil _)
      simp only [VR] at hvy; subst hvy
      obtain ⟨vb, vo, rfl, full, hΦ, hfull⟩ := hs3 (by simp)
      obtain ⟨vz, vty, vfz, hvx⟩ := hR.Φok vb full hΦ
      have hcap : cap = 0 := by
        rcases ht with rfl | rfl
        · exact (q1 q4).2
        · exact q4
      have hvs : ∀ j v, [Value.string ⟨⟨x⟩⟩][j]? = some v → w.cell? ⟨vb, vo + j, none⟩ = some v := by
        intro j v hj
        have := hfull j v hj
        rw [cell_of hvx]
        obtain ⟨hlt, _⟩ := List.getElem?_eq_some_iff.1 this
        simp [List.getElem?_append_left hlt, this]
      have h1v : ∀ v ∈ [Value.string ⟨⟨x⟩⟩], v.oneCell' = true := by
        intro v hv; simp only [List.mem_singleton] at hv; subst hv; rfl
      refine (Any2.slices_Insert_string_end_grow L base 0 cap vb vo 1 vcap [] [.string ⟨⟨x⟩⟩] w (by omega) hle (by omega) (by omega) rfl rfl (fun _ => rfl) (fun a ha j v hj => by simp at hj) hvs h1v).mono ?_
      rintro e w' ⟨rfl, rfl⟩
      have hge := grownCap_ge w (0 + 1) cap (ρ.t 9)
      obtain ⟨p1, p2⟩ := hR.drew.commit [.string ⟨⟨x⟩⟩] (List.replicate (grownCap w (0 + 1) cap (ρ.t 9) - (0 + 1)) (Value.string ⟨#[]⟩)) (ρ.t 9) (0, 0)
      have hwe : w.drew.alloc (.cells (([] ++ [Value.string ⟨⟨x⟩⟩]).toArray ++ Builtin.zeroCells (Value.string ⟨#[]⟩).cells (grownCap w (0 + 1) cap (ρ.t 9) - (0 + 1))) (ρ.t 9)) =
          w.drew.alloc (.cells ⟨[.string ⟨⟨x⟩⟩] ++ List.replicate (grownCap w (0 + 1) cap (ρ.t 9) - (0 + 1)) (Value.string ⟨#[]⟩)⟩ (ρ.t 9) (0, 0)) := by
        congr 2
        apply Array.toList_inj.1
        rw [Array.toList_append]
        show _ ++ (Builtin.zeroCells #[Value.string ⟨#[]⟩] _).toList = _
        rw [zeroCells_one]
        simp
      rw [hwe]
      refine ⟨_, _, rfl, ?_, p1, .of_same p2 (fun _ _ => rfl) (fun d' n' m' hs => ⟨m', hs⟩)⟩
      simp only [VR]
      exact ⟨_, _, _, rfl, hge, hvy', (fun h => by cases h), (fun a h => by cases h; rfl), fun _ => ⟨_, _, rfl, Gh.addΦ_seg _ _ _ _⟩, trivial⟩
    split at hr
    · simp only [Option.some.injEq, Prod.mk.injEq] at hr
      exact empty (.inl rfl) hr.1.symm hr.2
    · simp only [Option.some.injEq, Prod.mk.injEq] at hr
      exact empty (.inr rfl) hr.1.symm hr.2
    · cases hr
  · cases hr
end

end Go.Abs
