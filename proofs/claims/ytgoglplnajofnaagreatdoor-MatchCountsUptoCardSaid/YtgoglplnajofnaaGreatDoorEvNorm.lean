/- A part of the evaluator of Go code over small heaps and of its proof: no condition beyond those that each theorem names. -/
import Derived.Test.YtgoglplnajofnaaGreatDoorEvCode
set_option linter.unusedVariables false
set_option linter.unusedSimpArgs false
set_option linter.constructorNameAsVariable false
namespace Go.Ev
variable {T : TypeId → Type}

theorem upd_eq {env : Nat → V T} {t : Nat} {v : V T} (i : Nat) : upd env t v i = if i = t then v else env i := by
  unfold upd
  by_cases h : i = t
  · subst h; simp
  · have : i.beq t = false := by
      cases hb : i.beq t with
      | false => rfl
      | true => exact absurd (Nat.eq_of_beq_eq_true hb) h
    simp [this, h]

theorem Bd.upd {c : Cfg T} {nt : Nat} {η η' : Eta} {s : St T} {a : Act} {w : World} (h : Bd c nt η s a w) {t : Nat} {v : V T} {H' : List (Obj T)} (he : Evo η η' w w) (hk : Keeps η η')
    (hv : RV (rc c) η' w v (a.eval (.tmp t))) (hng : ∀ j p u, v ≠ .gd j p u) (hH : RelH (rc c) η' H' w) (hf : ∀ id, H'.length ≤ id → η' id = none) :
    Bd c nt η' ⟨Ev.upd s.env t v, H'⟩ a w := by
  refine ⟨by rw [he.df]; exact h.def0, h.size, fun i => ?_, fun i j p u => ?_, hH, hf⟩
  · show RV (rc c) η' w (Ev.upd s.env t v i) _
    rw [upd_eq]
    split
    · rename_i hi; subst hi; exact hv
    · exact RV.mono he hk _ _ (h.env i)
  · show Ev.upd s.env t v i ≠ _
    rw [upd_eq]
    split
    · exact hng j p u
    · exact h.ng i j p u

/-- No list, as an empty one of one's own. -/
theorem emptied {c : Cfg T} {η : Eta} {H : List (Obj T)} {w : World} (hH : RelH (rc c) η H w) (hf : ∀ id, H.length ≤ id → η id = none) (ty : TypeId) :
    ∃ η', Evo η η' w w ∧ Keeps η η' ∧ RelH (rc c) η' (H ++ [.arr ty []]) w ∧ (∀ id, (H ++ [Obj.arr ty ([] : List (T ty))]).length ≤ id → η' id = none) ∧ RV (rc c) η' w (.sl H.length none) (.slice none 0 0) := by
  have hN : New (rc c) η (put1 η H.length (RO.arr ty 0 none 0)) H.length [Obj.arr ty ([] : List (T ty))] w w := by
    refine ⟨Nat.le_refl _, fun _ _ => rfl, ?_, ?_, ?_, ?_, rfl, rfl, Rest.refl w⟩
    · intro id hid; rw [put1_eq]; rw [if_neg (by simp at hid; omega)]
    · intro k o r' ho hr'
      cases k with
      | zero => simp at ho; subst ho; simp [put1] at hr'; subst hr'; exact ⟨none, 0, rfl, rfl, rfl⟩
      | succ k => simp at ho
    · intro k r b hk hr hb'
      have : k = 0 := by simpa using hk
      subst this
      simp [put1] at hr; subst hr; exact hb'.elim
    · intro k k' _ _ _ hk1 hk2 _ _ _ _; simp at hk1 hk2; omega
  have hfr : Fresh η H.length [Obj.arr ty ([] : List (T ty))].length := fun id h1 _ => hf id h1
  refine ⟨_, hN.evo, hN.keeps hfr, hN.relH hfr hH, fun id hid => by rw [hN.keep id (by simp at hid ⊢; omega)]; exact hf id (by simp at hid; omega), ?_⟩
  simp only [RV]
  exact ⟨_, none, 0, 0, by simp [put1], rfl, .inr ⟨ty, none, rfl, .inl rfl⟩⟩

/-- A part of a list of one's own, as a list of its own. -/
theorem parted {c : Cfg T} {η : Eta} {H : List (Obj T)} {w : World} (hH : RelH (rc c) η H w) (hf : ∀ id, H.length ≤ id → η id = none) {ty : TypeId} {id : Nat} {rng : Option (Nat × Nat)} {v : Value} {xs : List (T ty)}
    (hs : RV (rc c) η w (.sl id rng) v) (h : asL H ty (.sl id rng) = some xs) :
    ∃ η', Evo η η' w w ∧ Keeps η η' ∧ RelH (rc c) η' (H.set id .dead ++ [.arr ty xs]) w ∧ (∀ k, (H.set id Obj.dead ++ [Obj.arr ty xs]).length ≤ k → η' k = none) ∧ RV (rc c) η' w (.sl H.length none) v := by
  obtain ⟨r0, base, cap, hr0, hid, rfl, hcap, hpl⟩ := slPlace hH hs h
  rcases hpl with rfl | ⟨b, o, ce, el, fr, rfl, hhas, hbl, hsz, hfr, harr⟩
  · have h0 : xs = [] := List.eq_nil_of_length_eq_zero (by omega)
    exact appended (c := c) (η := η) (H := H) (w := w) (w' := w) (e := ty) (zs := xs) (root := none) (cap := 0) (base := base) (.inr rfl) hH hf hid hr0 (Rest.refl _) (Nat.le_refl _) (fun _ _ _ => rfl) (fun _ h => h.elim)
      (fun _ _ => ⟨none, 0, rfl, h0, rfl⟩)
  · exact appended (c := c) (η := η) (H := H) (w := w) (w' := w) (e := ty) (zs := xs) (root := some (b, o)) (cap := cap) (base := some (at_ b o)) (.inl rfl) hH hf hid hr0 (Rest.refl _) (Nat.le_refl _) (fun _ _ _ => rfl)
      (fun b' hb' => by
        have : b' = b := hb'
        subst this
        exact ⟨.inl hhas, hH.lt id r0 b' hr0 hhas⟩)
      (fun he hk => ⟨some (b, o), cap, rfl, ce, el, fr, hbl, hsz, hcap, hfr, harr.mono he.size he.ok rfl⟩)

theorem step1_ok {c : Cfg T} (hc : Fine c) {nt : Nat} {η : Eta} {s s' : St T} {a : Act} {w : World} {p : Sp} (hB : Bd c nt η s a w) (h : step1 c s p = some s') :
    ∃ η', Bd c nt η' s' a w ∧ Evo η η' w w ∧ Keeps η η' := by
  cases p with
  | own t ty =>
    have ht := hB.env t
    simp only [step1] at h
    split at h
    · rename_i hv
      simp only [Option.some.injEq] at h; subst h
      obtain ⟨η', h1, h2, h3, h4, h5⟩ := emptied (c := c) hB.heap hB.fresh ty
      rw [hv] at ht
      simp only [RV] at ht
      refine ⟨η', hB.upd h1 h2 ?_ (by simp) h3 h4, h1, h2⟩
      generalize a.eval (.tmp t) = x at ht
      cases ht; exact h5
    · rename_i id hv
      split at h
      · rename_i ty' xs hxs
        cases hb : ty'.beq ty with
        | false => simp [hb] at h
        | true => simp [hb] at h; subst h; exact ⟨η, hB, Evo.refl η w, Keeps.refl η⟩
      · cases h
    · rename_i id r hv
      split at h
      · rename_i xs hxs
        simp only [Option.some.injEq] at h; subst h
        rw [hv] at ht
        obtain ⟨η', h1, h2, h3, h4, h5⟩ := parted hB.heap hB.fresh ht hxs
        exact ⟨η', hB.upd h1 h2 h5 (by simp) h3 h4, h1, h2⟩
      · cases h
    · cases h
  | frz t ty =>
    have ht := hB.env t
    simp only [step1] at h
    split at h
    · rename_i t' xs hv
      cases hb : t'.beq ty with
      | false => simp [hb] at h
      | true => simp [hb] at h; subst h; exact ⟨η, hB, Evo.refl η w, Keeps.refl η⟩
    · rename_i hv
      simp only [Option.some.injEq] at h; subst h
      rw [hv] at ht
      refine ⟨η, hB.upd (Evo.refl η w) (Keeps.refl η) ?_ (by simp) hB.heap hB.fresh, Evo.refl η w, Keeps.refl η⟩
      simp only [RV] at ht ⊢
      generalize a.eval (.tmp t) = x at ht
      cases ht; exact .nil _ _ _
    · rename_i id rng hv
      split at h
      · rename_i xs hxs
        simp only [Option.some.injEq] at h; subst h
        rw [hv] at ht
        obtain ⟨hid, h5⟩ := frozen hB.heap ht hxs
        refine ⟨kill η id, hB.upd (kill_evo η id w) (kill_keeps η id) h5 (by simp) (relH_kill hB.heap id hid) ?_, kill_evo η id w, kill_keeps η id⟩
        intro k hk
        simp at hk
        rw [kill_eq, if_neg (by omega)]
        exact hB.fresh k hk
      · cases h
    · cases h
  | box t ty =>
    have ht := hB.env t
    simp only [step1] at h
    split at h
    · rename_i id hv
      split at h
      · rename_i cs hcs
        split at h
        · rename_i ds hds
          split at h
          · rename_i x hx
            simp only [Option.some.injEq] at h; subst h
            rw [hv] at ht
            simp only [RV] at ht
            obtain ⟨r, ad, hr, _, _⟩ := ht
            obtain ⟨b, ce, e, rfl, h1, h2⟩ := hB.heap.obj id r _ hr hcs
            have hH := hB.heap.upd (o := .box (ofDs (c.cod.enc ty x))) hr (Evo.refl η w) (fun _ _ _ => rfl) ⟨b, ce, e, rfl, h1, (hc.cod.dec ty ds x hx).rvs (toDs_ok hds h2).1⟩
            exact ⟨η, ⟨hB.def0, hB.size, hB.env, hB.ng, hH, fun k hk => hB.fresh k (by simpa using hk)⟩, Evo.refl η w, Keeps.refl η⟩
          · cases h
        · split at h
          · rename_i ds hds
            split at h
            · rename_i x hx
              simp only [Option.some.injEq] at h; subst h
              rw [hv] at ht
              simp only [RV] at ht
              obtain ⟨r, ad, hr, _, _⟩ := ht
              obtain ⟨b, ce, e, rfl, h1, h2⟩ := hB.heap.obj id r _ hr hcs
              obtain ⟨η', a1, a2, a3, a4, a5, a6⟩ := frzL_ok cs η s.heap w ce.toList hB.heap hB.fresh h2
              have hcs' := frzL_box cs s.heap hcs
              obtain ⟨r', hr'⟩ : ∃ r', η' id = some r' := by
                rcases a2 id _ hr with h3 | h3 | ⟨_, _, _, _, h3⟩ <;> exact ⟨_, h3⟩
              obtain ⟨b', ce', e', rfl, h1', h2'⟩ := a3.obj id r' _ hr' hcs'
              have hbb : (RO.box b').has b' := rfl
              have hb2 : b' = b := by
                rcases a2 id _ hr with h3 | h3 | ⟨_, _, _, h4, _⟩
                · rw [hr'] at h3; cases h3; rfl
                · rw [hr'] at h3; cases h3
                · cases h4
              subst hb2
              rw [h1] at h1'; cases h1'
              have hH := a3.upd (o := .box (ofDs (c.cod.enc ty x))) hr' (Evo.refl η' w) (fun _ _ _ => rfl) ⟨b', ce, e, rfl, h1, (hc.cod.dec ty ds x hx).rvs (toDs_ok hds a6).1⟩
              exact ⟨η', ⟨by rw [a1.df]; exact hB.def0, hB.size, fun t => RV.mono a1 a2 _ _ (hB.env t), hB.ng, hH, fun k hk => a5 k (by rw [← a4]; simpa using hk)⟩, a1, a2⟩
            · cases h
          · cases h
      · cases h
    · cases h
  | agg t ty =>
    have ht := hB.env t
    simp only [step1] at h
    split at h
    · rename_i cs hv
      split at h
      · rename_i ds hds
        split at h
        · rename_i x hx
          simp only [Option.some.injEq] at h; subst h
          rw [hv] at ht
          simp only [RV] at ht
          obtain ⟨xs, h1, h2⟩ := ht
          refine ⟨η, hB.upd (Evo.refl η w) (Keeps.refl η) ?_ (by simp) hB.heap hB.fresh, Evo.refl η w, Keeps.refl η⟩
          simp only [RV]
          exact ⟨xs, h1, (hc.cod.dec ty ds x hx).rvs (toDs_ok hds h2).1⟩
        · cases h
      · split at h
        · rename_i ds hds
          split at h
          · rename_i x hx
            simp only [Option.some.injEq] at h; subst h
            rw [hv] at ht
            simp only [RV] at ht
            obtain ⟨xs, h1, h2⟩ := ht
            obtain ⟨η', a1, a2, a3, a4, a5, a6⟩ := frzL_ok cs η s.heap w xs hB.heap hB.fresh h2
            refine ⟨η', hB.upd a1 a2 ?_ (by simp) a3 (fun k hk => a5 k (by rw [← a4]; exact hk)), a1, a2⟩
            simp only [RV]
            exact ⟨xs, h1, (hc.cod.dec ty ds x hx).rvs (toDs_ok hds a6).1⟩
          · cases h
        · cases h
    · cases h

  | cell t i ty =>
    have ht := hB.env t
    simp only [step1] at h
    split at h
    · rename_i id hv
      split at h
      · rename_i cs hcs
        split at h
        · rename_i hci
          simp only [Option.some.injEq] at h; subst h
          rw [hv] at ht
          simp only [RV] at ht
          obtain ⟨r, ad, hr, _, _⟩ := ht
          obtain ⟨b, ce, e, rfl, h1, h2⟩ := hB.heap.obj id r _ hr hcs
          obtain ⟨η', a1, a2, a3, a4, a5⟩ := emptied (c := c) hB.heap hB.fresh ty
          have hidl : id < s.heap.length := by
            rcases Nat.lt_or_ge id s.heap.length with h3 | h3
            · exact h3
            · rw [List.getElem?_eq_none h3] at hcs; cases hcs
          have hcs' : (s.heap ++ [Obj.arr ty []])[id]? = some (.box cs) := by rw [List.getElem?_append_left hidl]; exact hcs
          obtain ⟨r', hr'⟩ : ∃ r', η' id = some r' := by
            rcases a2 id _ hr with h3 | h3 | ⟨_, _, _, _, h3⟩ <;> exact ⟨_, h3⟩
          obtain ⟨b', ce', e', rfl, h1', h2'⟩ := a3.obj id r' _ hr' hcs'
          obtain ⟨x, hx, hxv⟩ := RVs.get i h2' hci
          simp only [RV] at hxv
          have hx0 : x = .slice none 0 0 := by cases hxv; rfl
          subst hx0
          have hset := RVs.set i h2' a5
          have hxx : ce'.toList.set i (.slice none 0 0) = ce'.toList := by
            apply List.ext_getElem?
            intro j
            rw [List.getElem?_set]
            split
            · rename_i hij; subst hij
              split
              · exact hx.symm
              · rename_i hlt; exact (List.getElem?_eq_none (by omega)).symm
            · rfl
          rw [hxx] at hset
          have hH := a3.upd (o := .box (cs.set i (.sl s.heap.length none))) hr' (Evo.refl η' w) (fun _ _ _ => rfl) ⟨b', ce', e', rfl, h1', hset⟩
          exact ⟨η', ⟨by rw [a1.df]; exact hB.def0, hB.size, fun t => RV.mono a1 a2 _ _ (hB.env t), hB.ng, hH, fun k hk => a4 k (by simpa using hk)⟩, a1, a2⟩
        · simp only [Option.some.injEq] at h; subst h
          exact ⟨η, hB, Evo.refl η w, Keeps.refl η⟩
        · cases h
      · cases h
    · cases h
  | rng t ty =>
    have ht := hB.env t
    simp only [step1] at h
    split at h
    · rename_i id r hv
      split at h
      · rename_i xs hxs
        simp only [Option.some.injEq] at h; subst h
        rw [hv] at ht
        obtain ⟨η', h1, h2, h3, h4, h5⟩ := parted hB.heap hB.fresh ht hxs
        exact ⟨η', hB.upd h1 h2 h5 (by simp) h3 h4, h1, h2⟩
      · cases h
    · cases h

theorem steps_ok {c : Cfg T} (hc : Fine c) {nt : Nat} {a : Act} {w : World} : ∀ (ps : List Sp) {η : Eta} {s s' : St T}, Bd c nt η s a w → steps c ps s = some s' →
    ∃ η', Bd c nt η' s' a w ∧ Evo η η' w w ∧ Keeps η η'
  | [], η, s, s', hB, h => by simp [steps] at h; subst h; exact ⟨η, hB, Evo.refl η w, Keeps.refl η⟩
  | p :: ps, η, s, s', hB, h => by
    simp only [steps] at h
    split at h
    · rename_i s1 h1
      obtain ⟨η1, hB1, he1, hk1⟩ := step1_ok hc hB h1
      obtain ⟨η2, hB2, he2, hk2⟩ := steps_ok hc ps hB1 h
      exact ⟨η2, hB2, he1.trans he2, hk1.trans hk2⟩
    · cases h

theorem once_prefix : ∀ (l acc : List Nat), ∃ r, once l acc = acc ++ r
  | [], acc => ⟨[], by simp [once]⟩
  | x :: xs, acc => by
    unfold once
    cases hb : acc.any (·.beq x) with
    | true => simp only [cond_true]; exact once_prefix xs acc
    | false =>
      simp only [cond_false]
      obtain ⟨r, hr⟩ := once_prefix xs (acc ++ [x])
      exact ⟨x :: r, by rw [hr]; simp⟩

theorem reach_prefix (H : List (Obj T)) : ∀ (n : Nat) (l : List Nat), ∃ r, reach H n l = l ++ r
  | 0, l => ⟨[], by simp [reach]⟩
  | n + 1, l => by
    unfold reach
    obtain ⟨r1, h1⟩ := once_prefix (List.map (fun id => objIds (H.getD id .dead)) l).flatten l
    obtain ⟨r2, h2⟩ := reach_prefix H n (once (List.map (fun id => objIds (H.getD id .dead)) l).flatten l)
    exact ⟨r1 ++ r2, by rw [h2, h1]; simp⟩

theorem once_cons (x : Nat) (xs acc : List Nat) : once (x :: xs) acc = once xs (bif acc.any (·.beq x) then acc else acc ++ [x]) := rfl

theorem once_range : ∀ (m k : Nat) (rest : List Nat), once (List.range' k m ++ rest) (List.range k) = once rest (List.range (k + m))
  | 0, k, rest => by simp
  | m + 1, k, rest => by
    rw [List.range'_succ, List.cons_append, once_cons]
    have : (List.range k).any (·.beq k) = false := by
      rw [List.any_eq_false]
      intro x hx
      simp at hx
      intro hb
      have := Nat.eq_of_beq_eq_true hb
      omega
    simp only [this, cond_false]
    rw [← List.range_succ, once_range m (k + 1) rest, show k + 1 + m = k + (m + 1) by omega]

theorem reach_range (H : List (Obj T)) (m n : Nat) (rest : List Nat) (j : Nat) (hj : j < m) : (reach H n (once (List.range m ++ rest) []))[j]? = some j := by
  have h0 : once (List.range m ++ rest) [] = once rest (List.range m) := by
    have := once_range m 0 rest
    simpa [List.range_eq_range'] using this
  obtain ⟨r1, h1⟩ := once_prefix rest (List.range m)
  obtain ⟨r2, h2⟩ := reach_prefix H n (once (List.range m ++ rest) [])
  rw [h2, h0, h1, List.append_assoc, List.getElem?_append_left (by simpa using hj)]
  simp [hj]

theorem envOf_rv {R : Rc T} {η : Eta} {w : World} {a : Act} {f : Nat → V T} (hf : ∀ t, RV R η w (f t) (a.eval (.tmp t))) : ∀ (live : List Nat) (t : Nat), RV R η w (envOf live (live.map f) t) (a.eval (.tmp t))
  | [], t => by simp only [List.map_nil, envOf, RV]
  | x :: xs, t => by
    simp only [List.map_cons, envOf]
    cases hb : t.beq x with
    | true =>
      have := Nat.eq_of_beq_eq_true hb
      subst this
      simp only [cond_true]; exact strip_rv (hf t)
    | false => simp only [cond_false]; exact envOf_rv hf xs t

theorem envOf_ng : ∀ (live : List Nat) (vs : List (V T)) (t : Nat) (j : Nat) (p : Bool) (u : V T), envOf live vs t ≠ .gd j p u
  | [], vs, t, j, p, u => by simp [envOf]
  | x :: xs, [], t, j, p, u => by simp [envOf]
  | x :: xs, v :: vs, t, j, p, u => by
    simp only [envOf]
    cases t.beq x with
    | true => simp only [cond_true]; exact strip_ng
    | false => simp only [cond_false]; exact envOf_ng xs vs t j p u

theorem renL_map (m : Nat → Option Nat) (f : Nat → V T) : ∀ (live : List Nat), renL m (live.map f) = live.map (fun t => Ev.ren m (f t))
  | [] => rfl
  | x :: xs => by simp only [List.map_cons, renL, renL_map m f xs]

theorem gc_ok {c : Cfg T} (hc : Fine c) {nt m : Nat} {live : List Nat} {η : Eta} {s : St T} {a : Act} {w : World} {nf : List (V T) × List (Obj T)} (hB : Bd c nt η s a w) (h : gc m live s = some nf) :
    ∃ η', Bd c nt η' (mkSt live nf) a w ∧ Evo η η' w w ∧ KeepsTo m η η' := by
  unfold gc at h
  simp only at h
  have hrange := reach_range s.heap m 3 (idsL (live.map s.env))
  have hn : (reach s.heap 3 (once (List.range m ++ idsL (live.map s.env)) [])).Nodup := reach_nodup s.heap 3 _ (once_nodup _ _ List.nodup_nil)
  generalize reach s.heap 3 (once (List.range m ++ idsL (live.map s.env)) []) = l at h hrange hn
  cases hb : l.all (·.blt s.heap.length) with
  | false => simp [hb] at h
  | true =>
    simp only [hb, cond_true, Option.some.injEq] at h
    subst h
    have hlt : ∀ id ∈ l, id < s.heap.length := fun id hid => by
      have := List.all_eq_true.1 hb id hid
      simpa [Nat.blt_eq] using this
    have hfar : (calleeEta η l (List.range s.heap.length)).far = η.far := by
      funext b
      apply propext
      constructor
      · rintro (h | ⟨id, r, h1, h2, h3, h4⟩)
        · exact h
        · exfalso
          rcases Nat.lt_or_ge id s.heap.length with h5 | h5
          · exact h4 (by simpa using h5)
          · rw [hB.fresh id h5] at h1; cases h1
      · exact .inl
    have hE : Evo η (calleeEta η l (List.range s.heap.length)) w w := ⟨Nat.le_refl _, fun _ _ _ => rfl, fun b _ ho => by
      obtain ⟨j, id, r, _, h1, h2⟩ := callee_owns ho
      exact ⟨id, r, h1, h2⟩, hfar, rfl, Rest.refl w⟩
    refine ⟨calleeEta η l (List.range s.heap.length), ⟨hB.def0, hB.size, ?_, ?_, callee_relH hc.flat hB.heap hn hlt, ?_⟩, hE, ?_⟩
    · intro t
      show RV (rc c) _ w (envOf live (renL (placeOf l) (live.map s.env)) t) _
      rw [renL_map]
      refine envOf_rv (fun t => ?_) live t
      exact RV.ren (fun id' k r' hk hr' => callee_m hk hr') _ _ (.inl fun b hb _ => callee_ok (R := rc c) (H := s.heap) (w := w) b hb) (hB.env t)
    · intro t j p u
      exact envOf_ng _ _ t j p u
    · intro j hj
      simp only [mkSt, List.length_map] at hj
      simp only [calleeEta, List.getElem?_eq_none hj]
    · intro id hid r hr
      left
      simp only [calleeEta, hrange id hid, hr]

theorem norm_ok {c : Cfg T} (hc : Fine c) {nt m : Nat} {live : List Nat} {ps : List Sp} {η : Eta} {s : St T} {a : Act} {w : World} {nf : List (V T) × List (Obj T)} (hB : Bd c nt η s a w)
    (h : norm c m live ps s = some nf) : ∃ η', Bd c nt η' (mkSt live nf) a w ∧ Evo η η' w w ∧ KeepsTo m η η' := by
  unfold norm at h
  split at h
  · rename_i s1 h1
    obtain ⟨η1, hB1, he1, hk1⟩ := steps_ok hc ps hB h1
    obtain ⟨η2, hB2, he2, hk2⟩ := gc_ok hc hB1 h
    exact ⟨η2, hB2, he1.trans he2, (hk1.to m).trans hk2⟩
  · cases h

end Go.Ev
