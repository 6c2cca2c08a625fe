/- A part of the evaluator of Go code over small heaps and of its proof: no condition beyond those that each theorem names. -/
import Derived.Test.YtgoglplnajofnaaGreatDoorEvMap
set_option linter.unusedVariables false
set_option linter.unusedSimpArgs false
set_option linter.constructorNameAsVariable false
namespace Go.Ev
variable {T : TypeId → Type}

theorem relH_kill {R : Rc T} {η : Eta} {H : List (Obj T)} {w : World} (hH : RelH R η H w) (id : Nat) (hid : id < H.length) : RelH R (kill η id) (H.set id .dead) w where
  obj := fun k r o hr ho => by
    rw [kill_eq] at hr
    by_cases h : k = id
    · subst h
      rw [if_pos rfl] at hr; cases hr
      rw [List.getElem?_set_self hid] at ho; cases ho
      rfl
    · rw [if_neg h] at hr
      rw [List.getElem?_set_ne (Ne.symm h)] at ho
      exact (hH.obj k r o hr ho).mono (kill_evo η id w) (kill_keeps η id) fun _ _ => rfl
  lt := fun k r b hr hb => by
    rw [kill_eq] at hr
    by_cases h : k = id
    · rw [if_pos h] at hr; cases hr; exact hb.elim
    · rw [if_neg h] at hr; exact hH.lt k r b hr hb
  inj := fun k k' r r' b hr hr' hb hb' => by
    rw [kill_eq] at hr hr'
    by_cases h : k = id
    · rw [if_pos h] at hr; cases hr; exact hb.elim
    · rw [if_neg h] at hr
      by_cases h' : k' = id
      · rw [if_pos h'] at hr'; cases hr'; exact hb'.elim
      · rw [if_neg h'] at hr'; exact hH.inj k k' r r' b hr hr' hb hb'
  nf := fun k r b hr hb => by
    rw [kill_eq] at hr
    by_cases h : k = id
    · rw [if_pos h] at hr; cases hr; exact hb.elim
    · rw [if_neg h] at hr; exact hH.nf k r b hr hb
  fl := hH.fl
  old := hH.oldEvo (kill_evo η id w)

/-- A list given up: its elements are data from now on. -/
theorem frozen {c : Cfg T} {η : Eta} {H : List (Obj T)} {w : World} (hH : RelH (rc c) η H w) {ty : TypeId} {id : Nat} {rng : Option (Nat × Nat)} {v : Value} {xs : List (T ty)}
    (hs : RV (rc c) η w (.sl id rng) v) (h : asL H ty (.sl id rng) = some xs) : id < H.length ∧ RV (rc c) (kill η id) w (.d (.l ty xs)) v := by
  obtain ⟨r0, base, cap, hr0, hid, rfl, hcap, hpl⟩ := slPlace hH hs h
  refine ⟨hid, ?_⟩
  simp only [RV]
  by_cases h0 : xs.length = 0
  · have := List.eq_nil_of_length_eq_zero h0
    subst this
    exact .nil _ _ _
  · rcases hpl with hc0 | ⟨b, o, ce, el, fr, rfl, hhas, _, _, _, harr⟩
    · omega
    · refine VD.of_arr ⟨?_, hH.nf id r0 b hr0 hhas⟩ (hH.lt id r0 b hr0 hhas) hcap (harr.mono (Nat.le_refl _) (fun b hb hlt => (kill_evo η id w).ok b hb hlt) rfl)
      rintro ⟨k, r, h1, h2⟩
      rw [kill_eq] at h1
      by_cases hk : k = id
      · rw [if_pos hk] at h1; cases h1; exact h2.elim
      · rw [if_neg hk] at h1
        exact hk (hH.inj k id r r0 b h1 hr0 h2 hhas)


theorem frzL_ok {c : Cfg T} : ∀ (cs : List (V T)) (η : Eta) (H : List (Obj T)) (w : World) (xs : List Value), RelH (rc c) η H w → (∀ id, H.length ≤ id → η id = none) → RVs (rc c) η w cs xs →
    ∃ η', Evo η η' w w ∧ Keeps η η' ∧ RelH (rc c) η' (frzL H cs).2 w ∧ (frzL H cs).2.length = H.length ∧ (∀ id, H.length ≤ id → η' id = none) ∧ RVs (rc c) η' w (frzL H cs).1 xs
  | [], η, H, w, xs, hH, hf, h => ⟨η, Evo.refl η w, Keeps.refl η, hH, rfl, hf, h⟩
  | v :: vs, η, H, w, xs, hH, hf, h => by
    simp only [RVs] at h
    obtain ⟨x, xs', rfl, h1, h2⟩ := h
    have same : ∀ (v' : V T), frzL H (v :: vs) = (v' :: (frzL H vs).1, (frzL H vs).2) → v' = v → ∃ η', Evo η η' w w ∧ Keeps η η' ∧ RelH (rc c) η' (frzL H (v :: vs)).2 w ∧ (frzL H (v :: vs)).2.length = H.length ∧ (∀ id, H.length ≤ id → η' id = none) ∧ RVs (rc c) η' w (frzL H (v :: vs)).1 (x :: xs') := by
      intro v' e e2
      obtain ⟨η', a1, a2, a3, a4, a5, a6⟩ := frzL_ok vs η H w xs' hH hf h2
      rw [e]
      refine ⟨η', a1, a2, a3, a4, a5, ?_⟩
      simp only [RVs]
      exact ⟨x, xs', rfl, by rw [e2]; exact RV.mono a1 a2 _ _ h1, a6⟩
    cases v with
    | sl id rng =>
      cases ho : H[id]? with
      | none => exact same _ (by simp only [frzL, ho]) rfl
      | some o =>
        cases o with
        | arr t ys =>
          have hz : ∃ zs, asL H t (.sl id rng) = some zs ∧ frzL H (.sl id rng :: vs) = (.d (.l t zs) :: (frzL (H.set id .dead) vs).1, (frzL (H.set id .dead) vs).2) := by
            cases rng with
            | none => exact ⟨ys, by unfold asL; simp [ho, asT], by simp only [frzL, ho]⟩
            | some p => obtain ⟨o, n⟩ := p; exact ⟨(ys.drop o).take n, by unfold asL; simp [ho, asT], by simp only [frzL, ho]⟩
          obtain ⟨zs, hz1, hz2⟩ := hz
          obtain ⟨hid, h5⟩ := frozen hH h1 hz1
          have hE := kill_evo η id w
          have hK := kill_keeps η id
          obtain ⟨η', a1, a2, a3, a4, a5, a6⟩ := frzL_ok vs (kill η id) (H.set id .dead) w xs' (relH_kill hH id hid) (fun k hk => by
            simp at hk
            rw [kill_eq, if_neg (by omega)]
            exact hf k hk) (RVs.mono hE hK _ _ h2)
          rw [hz2]
          refine ⟨η', hE.trans a1, hK.trans a2, a3, by rw [a4]; simp, fun k hk => a5 k (by simpa using hk), ?_⟩
          simp only [RVs]
          exact ⟨x, xs', rfl, RV.mono a1 a2 _ _ h5, a6⟩
        | _ => exact same _ (by simp only [frzL, ho]) rfl
    | _ => exact same _ (by simp only [frzL]) rfl

theorem frzL_box {cs0 : List (V T)} {id : Nat} : ∀ (cs : List (V T)) (H : List (Obj T)), H[id]? = some (.box cs0) → (frzL H cs).2[id]? = some (.box cs0)
  | [], H, h => h
  | v :: vs, H, h => by
    have ih := fun H' (h' : H'[id]? = some (Obj.box cs0)) => frzL_box vs H' h'
    cases v with
    | sl k rng =>
      cases ho : H[k]? with
      | none => simp only [frzL, ho]; exact ih H h
      | some o =>
        cases o with
        | arr t ys =>
          have hne : k ≠ id := by
            intro e; subst e
            rw [h] at ho; cases ho
          have := ih (H.set k .dead) (by rw [List.getElem?_set_ne hne]; exact h)
          cases rng with
          | none => simp only [frzL, ho]; exact this
          | some p => obtain ⟨a, b⟩ := p; simp only [frzL, ho]; exact this
        | _ => simp only [frzL, ho]; exact ih H h
    | _ => simp only [frzL]; exact ih H h

theorem frzP_ok {c : Cfg T} : ∀ (ps : List (Nat × V T)) (η : Eta) (H : List (Obj T)) (w : World) (qs : List (Nat × Value)), RelH (rc c) η H w → (∀ id, H.length ≤ id → η id = none) → RPs (rc c) η w ps qs →
    ∃ η', Evo η η' w w ∧ Keeps η η' ∧ RelH (rc c) η' (frzP H ps).2 w ∧ (frzP H ps).2.length = H.length ∧ (∀ id, H.length ≤ id → η' id = none) ∧ RPs (rc c) η' w (frzP H ps).1 qs
  | [], η, H, w, qs, hH, hf, h => ⟨η, Evo.refl η w, Keeps.refl η, hH, rfl, hf, h⟩
  | (i, v) :: ps, η, H, w, qs, hH, hf, h => by
    obtain ⟨hl, hg⟩ := h
    match qs, hl, hg with
    | [], hl, hg => simp at hl
    | (j, x) :: qs, hl, hg =>
      have h0 := hg 0 (i, v) (j, x) rfl rfl
      have htl : RPs (rc c) η w ps qs := ⟨by simpa using hl, fun k p q hp hq => hg (k + 1) p q (by simpa using hp) (by simpa using hq)⟩
      obtain ⟨η1, b1, b2, b3, b4, b5, v', b6, b7⟩ : ∃ η1, Evo η η1 w w ∧ Keeps η η1 ∧ RelH (rc c) η1 (frzV H v).2 w ∧ (frzV H v).2.length = H.length ∧ (∀ id, H.length ≤ id → η1 id = none) ∧ ∃ v', (frzV H v).1 = v' ∧ RV (rc c) η1 w v' x := by
        have same : frzV H v = (v, H) → ∃ η1, Evo η η1 w w ∧ Keeps η η1 ∧ RelH (rc c) η1 (frzV H v).2 w ∧ (frzV H v).2.length = H.length ∧ (∀ id, H.length ≤ id → η1 id = none) ∧ ∃ v', (frzV H v).1 = v' ∧ RV (rc c) η1 w v' x := by
          intro e
          rw [e]
          exact ⟨η, Evo.refl η w, Keeps.refl η, hH, rfl, hf, v, rfl, h0.2⟩
        cases v with
        | agg cs =>
          have hr := h0.2
          simp only [RV] at hr
          obtain ⟨ys, rfl, hr⟩ := hr
          obtain ⟨η', a1, a2, a3, a4, a5, a6⟩ := frzL_ok cs η H w ys hH hf hr
          exact ⟨η', a1, a2, a3, a4, a5, _, rfl, by simp only [frzV, RV]; exact ⟨ys, rfl, a6⟩⟩
        | sl id rng =>
          obtain ⟨η', a1, a2, a3, a4, a5, a6⟩ := frzL_ok [V.sl id rng] η H w [x] hH hf (by simp only [RVs]; exact ⟨x, [], rfl, h0.2, rfl⟩)
          have e : ∃ v', (frzL H [V.sl id rng]).1 = [v'] := by
            unfold frzL
            split
            · split <;> exact ⟨_, rfl⟩
            · exact ⟨_, rfl⟩
          obtain ⟨v', e⟩ := e
          rw [e] at a6
          simp only [RVs] at a6
          obtain ⟨x', _, hxx, a7, rfl⟩ := a6
          cases hxx
          refine ⟨η', a1, a2, a3, a4, a5, v', ?_, a7⟩
          simp only [frzV, e, List.head?_cons, Option.getD_some]
        | _ => exact same rfl
      obtain ⟨η', a1, a2, a3, a4, a5, a6⟩ := frzP_ok ps η1 (frzV H v).2 w qs b3 (by rw [b4]; exact b5) ⟨htl.1, fun k p q hp hq => ⟨(htl.2 k p q hp hq).1, RV.mono b1 b2 _ _ (htl.2 k p q hp hq).2⟩⟩
      refine ⟨η', b1.trans a1, b2.trans a2, a3, by simp only [frzP]; rw [a4, b4], fun k hk => a5 k (by rw [b4]; exact hk), ?_⟩
      simp only [frzP, b6]
      refine ⟨by simpa using a6.1, fun k p q hp hq => ?_⟩
      cases k with
      | zero =>
        simp at hp hq; subst hp; subst hq
        exact ⟨h0.1, RV.mono a1 a2 _ _ b7⟩
      | succ k => exact a6.2 k p q (by simpa using hp) (by simpa using hq)

end Go.Ev
