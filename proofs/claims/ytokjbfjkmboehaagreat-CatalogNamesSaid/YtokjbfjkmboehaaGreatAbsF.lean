/- Operations that turn the heap: maps' entries. -/
import Derived.Test.YtokjbfjkmboehaaGreatAbsE
set_option linter.unusedVariables false
set_option linter.unusedSimpArgs false
namespace Go.Abs
open Go.RowKit

section
variable {P : Program} {w0 w : World} {D : Nat} {g : Gh} {H : Hp}

theorem run_setMap {b : Nat} {ents : Array MapEntry} {clock : Nat} (o : Obj) (hx : w.heap[b]? = some (.map ents clock)) : ∃ w', (setObj b o).run P w = .ok () w' ∧ w'.heap[b]? = some o ∧ w'.heap.size = w.heap.size ∧ (∀ c, c ≠ b → w'.heap[c]? = w.heap[c]?) ∧
    w'.os = w.os ∧ w'.tape = w.tape ∧ w'.output = w.output := by
  refine ⟨{ w with heap := w.heap.setIfInBounds b o }, by simp only [setObj, Sem.run, hx], ?_, by simp, fun c hc => ?_, rfl, rfl, rfl⟩
  · have := heap_lt hx; simp [this]
  · simp [Array.getElem?_setIfInBounds, Ne.symm hc]

theorem ba_self (s : ByteArray) : (s == s) = true := by rw [beq_toListBytes]; simp

theorem sameBits_cells : ∀ {ks : List PK} {a b : List V} {xs ys : List Value} (n : Nat), eqCells ks a b = some true → VRL g a xs → VRL g b ys → xs = ys ∧ ((xs.zip ys).all fun p => Instr.sameBits n p.1 p.2) = true
  | [], [], [], xs, ys, n, h, ha, hb => by simp only [VRL] at ha hb; subst ha; subst hb; exact ⟨rfl, rfl⟩
  | k :: ks, a :: us, b :: ws, xs, ys, n, h, ha, hb => by
    simp only [VRL] at ha hb
    obtain ⟨x, xs', rfl, hx, ha'⟩ := ha
    obtain ⟨y, ys', rfl, hy, hb'⟩ := hb
    unfold eqCells at h
    cases k with
    | int =>
      cases a <;> simp only [reduceCtorEq] at h
      cases b <;> simp only [reduceCtorEq] at h
      split at h
      · rename_i hk
        split at h
        · rename_i he
          subst hk; subst he
          simp only [VR] at hx hy; subst hx; subst hy
          obtain ⟨h1, h2⟩ := sameBits_cells n h ha' hb'
          exact ⟨by rw [h1], by simp [List.zip_cons_cons, Instr.sameBits, h2, ba_self]⟩
        · cases h
      · cases h
    | bool =>
      cases a <;> simp only [reduceCtorEq] at h
      cases b <;> simp only [reduceCtorEq] at h
      split at h
      · rename_i he
        subst he
        simp only [VR] at hx hy; subst hx; subst hy
        obtain ⟨h1, h2⟩ := sameBits_cells n h ha' hb'
        exact ⟨by rw [h1], by simp [List.zip_cons_cons, Instr.sameBits, h2, ba_self]⟩
      · cases h
    | str =>
      cases a <;> simp only [reduceCtorEq] at h
      cases b <;> simp only [reduceCtorEq] at h
      split at h
      · rename_i he
        subst he
        simp only [VR] at hx hy; subst hx; subst hy
        obtain ⟨h1, h2⟩ := sameBits_cells n h ha' hb'
        exact ⟨by rw [h1], by simp [List.zip_cons_cons, Instr.sameBits, h2, ba_self]⟩
      · cases h
  | [], _ :: _, _, _, _, _, h, _, _ => by simp [eqCells] at h
  | [], [], _ :: _, _, _, _, h, _, _ => by simp [eqCells] at h
  | _ :: _, [], _, _, _, _, h, _, _ => by simp [eqCells] at h
  | _ :: _, _ :: _, [], _, _, _, h, _, _ => by simp [eqCells] at h

theorem eqKey_bits {kk : KK} {a b : V} {x y : Value} (h : eqKey kk a b = some true) (ha : VR g a x) (hb : VR g b y) : ∀ n, x = y ∧ Instr.sameBits (n + 1) x y = true := by
  intro n
  unfold eqKey at h
  split at h
  · split at h
    · split at h
      · rename_i hk
        simp only [Option.some.injEq, decide_eq_true_eq] at h
        obtain ⟨rfl, rfl⟩ := hk; subst h
        simp only [VR] at ha hb; subst ha; subst hb
        exact ⟨rfl, by simp [Instr.sameBits, ba_self]⟩
      · cases h
    · cases h
  · split at h
    · simp only [Option.some.injEq, decide_eq_true_eq] at h
      subst h
      simp only [VR] at ha hb; subst ha; subst hb
      exact ⟨rfl, by simp [Instr.sameBits, ba_self]⟩
    · cases h
  · split at h
    · split at h
      · simp only [VR] at ha hb
        obtain ⟨xs, rfl, ha'⟩ := ha
        obtain ⟨ys, rfl, hb'⟩ := hb
        obtain ⟨h1, h2⟩ := sameBits_cells n h ha' hb'
        refine ⟨by rw [h1], ?_⟩
        have hl : xs.length = ys.length := by rw [h1]
        simp only [Instr.sameBits, List.size_toArray, hl, beq_self_eq_true, Bool.true_and]
        exact h2
      · cases h
    · cases h

theorem run_keyStays {x y : Value} (h : ∀ n, Instr.sameBits (n + 1) x y = true) : (Instr.keyThatStays x y).run P w = .ok y w := by
  unfold Instr.keyThatStays
  rw [h 9999]
  rfl

theorem ER.set : ∀ {l : List (V × V)} {es : List MapEntry} {j : Nat} {k v : V} {e : MapEntry}, ER g l es → VR g k e.key → VR g v e.val → ER g (l.set j (k, v)) (es.set j e)
  | [], _, j, k, v, e, h, _, _ => by simp only [ER] at h; subst h; simp [ER]
  | (a, u) :: l, _, 0, k, v, e, h, h1, h2 => by
    simp only [ER] at h
    obtain ⟨e', es', rfl, p1, p2, p3⟩ := h
    simp only [List.set_cons_zero, ER]
    exact ⟨e, es', rfl, h1, h2, p3⟩
  | (a, u) :: l, _, j + 1, k, v, e, h, h1, h2 => by
    simp only [ER] at h
    obtain ⟨e', es', rfl, p1, p2, p3⟩ := h
    simp only [List.set_cons_succ, ER]
    exact ⟨e', _, rfl, p1, p2, ER.set p3 h1 h2⟩
theorem ER.push : ∀ {l : List (V × V)} {es : List MapEntry} {k v : V} {e : MapEntry}, ER g l es → VR g k e.key → VR g v e.val → ER g (l ++ [(k, v)]) (es ++ [e])
  | [], _, k, v, e, h, h1, h2 => by simp only [ER] at h; subst h; simp only [List.nil_append, ER]; exact ⟨e, [], rfl, h1, h2, rfl⟩
  | (a, u) :: l, _, k, v, e, h, h1, h2 => by
    simp only [ER] at h
    obtain ⟨e', es', rfl, p1, p2, p3⟩ := h
    simp only [List.cons_append, ER]
    exact ⟨e', _, rfl, p1, p2, ER.push p3 h1 h2⟩
theorem ER.erase : ∀ {l : List (V × V)} {es : List MapEntry} {j : Nat}, ER g l es → ER g (l.eraseIdx j) (es.eraseIdx j)
  | [], _, j, h => by simp only [ER] at h; subst h; simp [ER]
  | (a, u) :: l, _, 0, h => by
    simp only [ER] at h
    obtain ⟨e', es', rfl, p1, p2, p3⟩ := h
    simpa using p3
  | (a, u) :: l, _, j + 1, h => by
    simp only [ER] at h
    obtain ⟨e', es', rfl, p1, p2, p3⟩ := h
    simp only [List.eraseIdx_cons_succ, ER]
    exact ⟨e', _, rfl, p1, p2, ER.erase p3⟩

theorem sim_mapPut {t : TypeId} {kk : KK} {z m k v r : V} {x y u : Value} {H' : Hp} (h : Rel w0 D g H w) (ht : tMap P t = some (kk, z)) (hm : VR g m x) (hk : VR g k y) (hv : VR g v u) (hr : pMapPut kk m k v H = some (r, H')) :
    ∃ g' w', (Instr.mapUpdate t x y u).run P w = .ok () w' ∧ r = .undef ∧ Rel w0 D g' H' w' ∧ Eff g g' H H' := by
  obtain ⟨kt, e, hu, hz, hkk⟩ := tMap_spec ht
  unfold pMapPut at hr
  split at hr
  · rename_i hf
    split at hr
    · rename_i H1 hp
      simp only [Option.some.injEq, Prod.mk.injEq] at hr
      obtain ⟨rfl, rfl⟩ := hr
      unfold aMapPut at hp
      split at hp
      · rename_i d i
        split at hp
        · rename_i es ho
          split at hp
          · rename_i k' hk'
            split at hp
            · rename_i fo hfo
              split at hp
              · rename_i v' hv'
                simp only [Option.some.injEq] at hp; subst hp
                simp only [VR] at hm
                obtain ⟨b, hb, rfl⟩ := hm
                obtain ⟨ents, clock, hx, he⟩ := map_entries h ho hb
                have hky0 : VR (g.restr 0) k' y := VR.fit hk' hk
                have hky : VR (g.restr d) k' y := hky0.mono (Gh.restr_mono g (Nat.zero_le d))
                have hvu : VR (g.restr d) v' u := VR.fit hv' hv
                have hfk := run_findKey (w := w) hkk hky he hfo
                have fin : ∀ (o : Obj), (Instr.mapUpdate t (.map (some b)) y u).run P w = (setObj b o).run P w → OR (g.restr d) (.map (putKey kk k' v' es)) o → ∃ g' w', (Instr.mapUpdate t (.map (some b)) y u).run P w = .ok () w' ∧ V.undef = .undef ∧ Rel w0 D g' (H.setObj d i (.map (putKey kk k' v' es))) w' ∧ Eff g g' H (H.setObj d i (.map (putKey kk k' v' es))) := by
                  intro o e1 e2
                  obtain ⟨w', s1, s2, s3, s4, s5, s6, s7⟩ := run_setMap (P := P) o hx
                  exact ⟨g, w', by rw [e1, s1], rfl, h.setObj hb (by rw [ho]; simp) hx s2 s3 s4 s5 s6 s7 (fun c ty fz e => by cases e) e2,
                    .of_same (.refl _) (fun _ _ => rfl) (fun d' n' m' hs => ⟨m', by rw [Hp.sizes_setObj]; exact hs⟩)⟩
                cases fo with
                | none =>
                  obtain ⟨q1, q2, q3⟩ := hfk
                  refine fin (.map ((⟨ents⟩ : Array MapEntry).push { key := y, val := u, born := clock }) (clock + 1)) ?_ ?_
                  · simp only [Instr.mapUpdate, Sem.run_bind, run_under hu, Result.andThen_ok, run_getMap hx, run_checkKey hkk hk hf, q1]
                  · rw [q2]
                    exact ⟨ents ++ [{ key := y, val := u, born := clock }], clock + 1, by simp, he.push hky hvu⟩
                | some fv =>
                  obtain ⟨j, a, en, p1, p2, p3, p4, p5, p6, p7, p8⟩ := hfk
                  have hbits := eqKey_bits p5 hky p3
                  have hyk : y = en.key := (hbits 0).1
                  refine fin (.map ((⟨ents⟩ : Array MapEntry).modify j fun e => { e with key := y, val := u }) clock) ?_ ?_
                  · simp only [Instr.mapUpdate, Sem.run_bind, run_under hu, Result.andThen_ok, run_getMap hx, run_checkKey hkk hk hf, p6]
                    have hget : ((((⟨ents⟩ : Array MapEntry)[j]?).map (·.key)).getD y) = en.key := by
                      have : (⟨ents⟩ : Array MapEntry)[j]? = some en := by simpa using p2
                      rw [this]; rfl
                    rw [hget, run_keyStays (x := en.key) (y := y) (fun n => by rw [← hyk]; have := (hbits n).2; rwa [← hyk] at this)]
                    simp only [Result.andThen_ok]
                  · rw [p7]
                    refine ⟨ents.set j { en with key := y, val := u }, clock, ?_, he.set hky hvu⟩
                    congr 1
                    apply Array.toList_inj.1
                    apply List.ext_getElem?
                    intro n
                    simp only [Array.toList_modify, List.getElem?_modify, List.getElem?_set]
                    by_cases hn : j = n
                    · subst hn
                      obtain ⟨hl, hen⟩ := List.getElem?_eq_some_iff.1 p2
                      simp [hl, hen]
                    · simp [hn]
              · cases hp
            · cases hp
          · cases hp
        · cases hp
      · cases hp
    · cases hr
  · cases hr

theorem sim_mapDel {t ty : TypeId} {ats : Array TypeId} {kk : KK} {z m k r : V} {x y : Value} {H' : Hp} (h : Rel w0 D g H w) (hat : ats[0]? = some t) (ht : tMap P t = some (kk, z)) (hm : VR g m x) (hk : VR g k y) (hr : pMapDel kk m k H = some (r, H')) :
    ∃ g' w', (Builtin.delete_ ats ty #[x, y]).run P w = .ok (.tuple #[]) w' ∧ r = .tup [] ∧ Rel w0 D g' H' w' ∧ Eff g g' H H' := by
  obtain ⟨kt, e, hu, hz, hkk⟩ := tMap_spec ht
  unfold pMapDel at hr
  split at hr
  · rename_i hf
    split at hr
    · rename_i H1 hp
      simp only [Option.some.injEq, Prod.mk.injEq] at hr
      obtain ⟨rfl, rfl⟩ := hr
      unfold aMapDel at hp
      split at hp
      · simp only [Option.some.injEq] at hp; subst hp
        simp only [VR] at hm; subst hm
        refine ⟨g, w, ?_, rfl, h, .refl _ _⟩
        simp only [Builtin.delete_, hat]
        simp [run_under hu, run_checkKey hkk hk hf]
      · rename_i d i
        split at hp
        · rename_i es ho
          split at hp
          · rename_i fo hfo
            simp only [Option.some.injEq] at hp; subst hp
            simp only [VR] at hm
            obtain ⟨b, hb, rfl⟩ := hm
            obtain ⟨ents, clock, hx, he⟩ := map_entries h ho hb
            have hfk := run_findKey (w := w) hkk hk (he.mono (Gh.restr_le _ _)) hfo
            have fin : ∀ (o : Obj), (Builtin.delete_ ats ty #[.map (some b), y]).run P w = ((setObj b o).run P w).andThen (fun _ w' => .ok (.tuple #[]) w') → OR (g.restr d) (.map (delKey kk k es)) o →
                ∃ g' w', (Builtin.delete_ ats ty #[.map (some b), y]).run P w = .ok (.tuple #[]) w' ∧ V.tup [] = .tup [] ∧ Rel w0 D g' (H.setObj d i (.map (delKey kk k es))) w' ∧ Eff g g' H (H.setObj d i (.map (delKey kk k es))) := by
              intro o e1 e2
              obtain ⟨w', s1, s2, s3, s4, s5, s6, s7⟩ := run_setMap (P := P) o hx
              exact ⟨g, w', by rw [e1, s1]; rfl, rfl, h.setObj hb (by rw [ho]; simp) hx s2 s3 s4 s5 s6 s7 (fun c ty fz e => by cases e) e2,
                .of_same (.refl _) (fun _ _ => rfl) (fun d' n' m' hs => ⟨m', by rw [Hp.sizes_setObj]; exact hs⟩)⟩
            cases fo with
            | none =>
              obtain ⟨q1, q2, q3⟩ := hfk
              refine fin (.map ⟨ents⟩ clock) ?_ (by rw [q3]; exact ⟨ents, clock, rfl, he⟩)
              simp only [Builtin.delete_, hat]
              simp [run_under hu, run_getMap hx, run_checkKey hkk hk hf, q1]
            | some fv =>
              obtain ⟨j, a, en, p1, p2, p3, p4, p5, p6, p7, p8⟩ := hfk
              refine fin (.map ((⟨ents⟩ : Array MapEntry).eraseIdxIfInBounds j) clock) ?_ ?_
              · simp only [Builtin.delete_, hat]
                simp [run_under hu, run_getMap hx, run_checkKey hkk hk hf, p6]
              · rw [p8]
                refine ⟨ents.eraseIdx j, clock, ?_, he.erase⟩
                congr 1
                apply Array.toList_inj.1
                simp
          · cases hp
        · cases hp
      · cases hp
    · cases hr
  · cases hr
end

end Go.Abs
