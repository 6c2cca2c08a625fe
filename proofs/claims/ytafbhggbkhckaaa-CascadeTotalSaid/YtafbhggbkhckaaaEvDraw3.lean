/- A part of the evaluator of Go code over small heaps and of its proof: no condition beyond those that each theorem names. -/
import Derived.Test.YtafbhggbkhckaaaEvDraw2
set_option linter.unusedVariables false
set_option linter.unusedSimpArgs false
set_option linter.constructorNameAsVariable false
namespace Go.Ev
variable {T : TypeId → Type}

/-- An operation that may run now. -/
structure Ready (ops : Array Oper) (L : List Nat) (dn : Nat → Prop) (n j : Nat) (o : Oper) : Prop where
  op : ops[j]? = some o
  lt : j < n
  nd : ¬ dn j
  pre : ∀ k, (L.getD j 0).testBit k = true → dn k

section
variable {c : Cfg T} {nt n : Nat} {ops : Array Oper} {S : Nat → St T} {L : List Nat} {dn : Nat → Prop} {η : Eta} {a : Act} {w : World} {j : Nat} {o : Oper}

theorem clash_l {x y : Oper} {t : Nat} (h1 : x.dst = some t) (h2 : y.dst = some t ∨ readsT y t = true) : clash x y = true := by
  simp only [clash, h1, Option.any_some, Bool.or_eq_true]
  left
  rcases h2 with h2 | h2
  · left; simp [h2]
  · right; exact h2

theorem clash_r {x y : Oper} {t : Nat} (h1 : y.dst = some t) (h2 : readsT x t = true) : clash x y = true := by
  simp only [clash, h1, Option.any_some, Bool.or_eq_true]
  right; exact h2

/-- Nothing done behind it writes what it reads or writes. -/
theorem Ready.behind (hF : Facts ops n L) (hI : DrawInv c nt ops S n L dn η a w) (hr : Ready ops L dn n j o) {k : Nat} {o' : Oper} (hk : dn k) (hjk : j ≤ k) (ho' : ops[k]? = some o') {t : Nat}
    (ht : o.dst = some t ∨ readsT o t = true) : o'.dst ≠ some t := by
  intro hd
  rcases Nat.lt_or_ge j k with h | h
  · have hc : clash o o' = true := by
      rcases ht with ht | ht
      · exact clash_l ht (.inl hd)
      · exact clash_r hd ht
    exact hr.nd (hI.cl k hk j (hF.clash k j o' o (hI.bd k hk) h ho' hr.op hc))
  · have : k = j := by omega
    subst this; exact hr.nd hk

theorem Ready.reads (hF : Facts ops n L) (hT : Trace c ops n S) (hI : DrawInv c nt ops S n L dn η a w) (hr : Ready ops L dn n j o) {t : Nat} (ht : readsT o t = true) :
    ∃ i, i ≤ j ∧ Lw ops dn t i ∧ (S j).env t = (S i).env t :=
  find_lw hT (Nat.le_of_lt hr.lt) (fun k o' hk ho' hd => hr.pre k (hF.clash j k o o' hr.lt hk hr.op ho' (clash_l hd (.inr ht))))
    (fun k o' hk hjk ho' => hr.behind hF hI hk hjk ho' (.inr ht))

theorem Ready.guardT (hreg : Reg nt ops) (hT : Trace c ops n S) (hr : Ready ops L dn n j o) {g : Nat} (hg : dn g) (hG : IsG ops g) (hlt : g < j) {og : Oper} {t : Nat} (hog : ops[g]? = some og) (ht : og.dst = some t) :
    ∃ i, i ≤ j ∧ Lw ops dn t i ∧ (S j).env t = (S i).env t := by
  obtain ⟨og', t', h1, h2, h3⟩ := hreg.has g hG
  rw [hog] at h1; cases h1
  rw [ht] at h2; cases h2
  exact find_lw hT (Nat.le_of_lt hr.lt) (fun k o' hk ho' hd => by rw [h3 k o' ho' hd]; exact hg)
    (fun k o' hk hjk ho' hd => by have := h3 k o' ho' hd; omega)

theorem Ready.rd (hF : Facts ops n L) (hT : Trace c ops n S) (hI : DrawInv c nt ops S n L dn η a w) (hr : Ready ops L dn n j o) : RdInv c ops η (maskS (S j) o) a w := by
  refine ⟨fun t => ?_, fun t g p v hv hy => ?_, ?_⟩
  · rw [maskS_env]
    split
    · rename_i ht
      obtain ⟨i, _, h2, h3⟩ := hr.reads hF hT hI ht
      rw [h3]; exact hI.env t i h2
    · simp only [RV]
  · rw [maskS_env] at hv
    split at hv
    · rename_i ht
      obtain ⟨i, _, h2, h3⟩ := hr.reads hF hT hI ht
      rw [h3] at hv
      exact (hI.gd t i g p v h2 hv).2.2 hy
    · cases hv
  · obtain ⟨tl, htl⟩ := trace_heap hT j (n - j) (by have := hr.lt; omega)
    rw [show j + (n - j) = n by have := hr.lt; omega] at htl
    exact ⟨fun id r o hr ho => hI.heap.obj id r o hr (by
      have hlt : id < (S j).heap.length := (List.getElem?_eq_some_iff.1 ho).1
      rw [htl, List.getElem?_append_left hlt]; exact ho), hI.heap.lt, hI.heap.inj, hI.heap.nf, hI.heap.fl⟩

theorem chain_done (hF : Facts ops n L) (hreg : Reg nt ops) (hI : DrawInv c nt ops S n L dn η a w) : ∀ (m : Nat) (g : Nat × Bool), dn g.1 → IsG ops g.1 → g.1 < j → Passed ops a g →
    ∀ h ∈ chain ops m g, Passed ops a h ∧ dn h.1 ∧ IsG ops h.1 ∧ h.1 < j
  | 0, g, _, _, _, _, h, hm => by simp [chain] at hm
  | m + 1, g, hd, hG, hlt, hp, h, hm => by
    simp only [chain, List.mem_cons] at hm
    rcases hm with rfl | hm
    · exact ⟨hp, hd, hG, hlt⟩
    · cases ho : ops[g.1]? with
      | none => simp [ho] at hm
      | some og =>
        simp only [ho, Option.bind_some] at hm
        cases hg : og.guard with
        | none => simp [hg] at hm
        | some h' =>
          simp only [hg] at hm
          have h1 := hI.ch g.1 og h' hd hG ho hg (by rw [hp]; rfl)
          have h2 := hreg.lt g.1 og h'.1 h'.2 ho hg
          have h3 := hI.cl g.1 hd h'.1 (hF.guard g.1 og h'.1 h'.2 (hI.bd g.1 hd) ho hg)
          exact chain_done hF hreg hI m h' h3 ⟨g.1, og, h'.2, ho, hg⟩ (by omega) h1 h hm

theorem yieldD_ok (hreg : Reg nt ops) (hT : Trace c ops n S) (hI : DrawInv c nt ops S n L dn η a w) (hr : Ready ops L dn n j o) {g : Nat} {p q : Bool}
    (hd : dn g) (hG : IsG ops g) (hlt : g < j) (h : yieldV ops (S j) g = some p) (hy : yielded ops a.tmps g = some q) : p = q := by
  obtain ⟨og, t, ho, ht, huniq⟩ := hreg.has g hG
  obtain ⟨i, _, hlw, hse⟩ := hr.guardT hreg hT hd hG hlt ho ht
  unfold yieldV at h
  simp only [ho, Option.bind_some, ht] at h
  have hev : a.eval (.tmp t) = .bool q := by
    unfold yielded at hy
    simp only [ho, Option.bind_some, ht] at hy
    simp only [Act.eval, Array.getD_eq_getD_getElem?]
    split at hy
    · rename_i b hb; cases hy; rw [hb]; rfl
    · cases hy
  have henv := hI.env t i hlw
  rw [← hse] at henv
  split at h
  · rename_i p' hp
    simp at h; subst h
    rw [hp, hev] at henv
    simp only [RV] at henv; cases henv; rfl
  · rename_i k wv p' hp
    split at h
    · rename_i k' w' hg
      cases hb : k'.beq k && (w' == wv) with
      | false => simp [hb] at h
      | true =>
        simp only [hb, cond_true, Option.some.injEq] at h; subst h
        simp only [Bool.and_eq_true, beq_iff_eq] at hb
        have hk := Nat.eq_of_beq_eq_true hb.1
        obtain ⟨h1, h2, h3⟩ := hI.gd t i k wv _ hlw (by rw [← hse]; exact hp)
        have h4 := hI.ch g og (k', w') hd hG ho hg (by rw [hy]; rfl)
        simp only at h4
        rw [hk, hb.2] at h4
        have := h3 h4
        rw [hev] at this
        simp only [RV] at this; cases this; rfl
    · cases h
  · cases h

theorem letsD_ok (hreg : Reg nt ops) (hT : Trace c ops n S) (hI : DrawInv c nt ops S n L dn η a w) (hr : Ready ops L dn n j o) :
    ∀ (G : List (Nat × Bool)) (q : Bool), (∀ h ∈ G, Passed ops a h ∧ dn h.1 ∧ IsG ops h.1 ∧ h.1 < j) → lets ops (S j) G = some q → q = true
  | [], q, _, h => by simp [lets] at h
  | [(g, wv)], q, hp, h => by
    obtain ⟨h1, h2, h3, h4⟩ := hp (g, wv) (by simp)
    simp only [lets] at h
    cases hy : yieldV ops (S j) g with
    | none => rw [hy] at h; simp at h
    | some p =>
      rw [hy] at h; simp at h; subst h
      have := yieldD_ok hreg hT hI hr h2 h3 h4 hy h1
      simp only at this
      subst this
      cases p <;> rfl
  | (g, wv) :: g' :: G, q, hp, h => by
    obtain ⟨h1, h2, h3, h4⟩ := hp (g, wv) (by simp)
    simp only [lets] at h
    split at h
    · rename_i p q' hy hq
      simp at h; subst h
      have := yieldD_ok hreg hT hI hr h2 h3 h4 hy h1
      simp only at this
      subst this
      have := letsD_ok hreg hT hI hr (g' :: G) q' (fun h hh => hp h (List.mem_cons_of_mem _ hh)) hq
      subst this
      cases p <;> rfl
    · cases h

/-- One operation more is done. -/
theorem DrawInv.next (hF : Facts ops n L) (hreg : Reg nt ops) (hT : Trace c ops n S) (hI : DrawInv c nt ops S n L dn η a w) (hr : Ready ops L dn n j o) {η' : Eta} {w' : World} {os : List (Obj T)} {v : V T} {x : Value}
    (hheap : (S (j + 1)).heap = (S j).heap ++ os) (henv : ∀ t, (S (j + 1)).env t = if o.dst = some t then v else (S j).env t) (hN : New (rc c) η η' (S j).heap.length os w w')
    (hv : ∀ g p u, v = .gd g p u → o.guard = some (g, p) ∧ (yielded ops a.tmps g = some p → RV (rc c) η' w' u x)) (hx : RV (rc c) η' w' v x)
    (hch : ∀ h, o.guard = some h → (∃ b, x = .bool b) → yielded ops a.tmps h.1 = some h.2) :
    DrawInv c nt ops S n L (fun k => dn k ∨ k = j) η' (a.put o.dst x) w' ∧ Evo η η' w w' ∧ Keeps η η' := by
  have hfr : Fresh η (S j).heap.length os.length := fun id h1 h2 => hI.low j hr.lt hr.nd id h1 (by rw [hheap]; simpa using h2)
  have he := hN.evo
  have hk := hN.keeps hfr
  refine ⟨?_, he, hk⟩
  obtain ⟨tl, htl⟩ := trace_heap hT (j + 1) (n - (j + 1)) (by have := hr.lt; omega)
  rw [show j + 1 + (n - (j + 1)) = n by have := hr.lt; omega, hheap] at htl
  have hyst : ∀ g, IsG ops g → g ≠ j → yielded ops (a.put o.dst x).tmps g = yielded ops a.tmps g := by
    intro g hG hne
    obtain ⟨og, t, h1, h2, h3⟩ := hreg.has g hG
    exact yielded_put h1 h2 (fun h => hne (h3 j o hr.op h).symm)
  have heval : ∀ t, (a.put o.dst x).eval (.tmp t) = if o.dst = some t then x else a.eval (.tmp t) := by
    intro t
    cases hd : o.dst with
    | none => simp [eval_put_none]
    | some d =>
      rw [eval_put (Nat.lt_of_lt_of_le (hreg.dst j o d hr.op hd) hI.size)]
      simp only [Option.some.injEq]
      by_cases h : t = d
      · subst h; simp
      · simp [h, Ne.symm h]
  have hlw1 : ∀ t i, Lw ops (fun k => dn k ∨ k = j) t i → o.dst = some t → i = j + 1 := by
    intro t i ⟨h1, h2⟩ hd
    rcases Nat.lt_or_ge j i with h | h
    · rcases h1 with h1 | ⟨k, ok, rfl, h4, h5, h6⟩
      · omega
      · rcases h4 with h4 | h4
        · exact (hr.behind hF hI h4 (by omega) h5 (.inl hd) h6).elim
        · rw [h4]
    · exact (h2 j o (.inr rfl) h hr.op hd).elim
  have hlw2 : ∀ t i, Lw ops (fun k => dn k ∨ k = j) t i → o.dst ≠ some t → Lw ops dn t i := by
    intro t i ⟨h1, h2⟩ hd
    refine ⟨?_, fun k ok hdk => h2 k ok (.inl hdk)⟩
    rcases h1 with h1 | ⟨k, ok, rfl, h4, h5, h6⟩
    · exact .inl h1
    · rcases h4 with h4 | h4
      · exact .inr ⟨k, ok, rfl, h4, h5, h6⟩
      · subst h4
        rw [hr.op] at h5; cases h5
        exact (hd h6).elim
  refine ⟨by rw [put_defers]; exact hI.def0, by rw [put_size]; exact hI.size, hN.relHx hfr hI.heap htl, ?_, ?_, ?_, ?_, ?_, ?_, ?_⟩
  · intro id hid
    rw [hN.keep id (by rw [htl] at hid; simp at hid; omega)]
    exact hI.fresh id hid
  · intro i hi hnd id h1 h2
    have hne : i ≠ j := fun h => hnd (.inr h)
    rw [hN.keep id ?_]
    · exact hI.low i hi (fun h => hnd (.inl h)) id h1 h2
    · rintro ⟨h3, h4⟩
      rcases Nat.lt_or_ge i j with h | h
      · obtain ⟨tl', h5⟩ := trace_heap hT (i + 1) (j - (i + 1)) (by have := hr.lt; omega)
        rw [show i + 1 + (j - (i + 1)) = j by omega] at h5
        rw [h5] at h3; simp at h3; omega
      · obtain ⟨tl', h5⟩ := trace_heap hT (j + 1) (i - (j + 1)) (by omega)
        rw [show j + 1 + (i - (j + 1)) = i by omega] at h5
        rw [h5, hheap] at h1; simp at h1; omega
  · intro t i hlw
    rw [heval]
    by_cases hd : o.dst = some t
    · rw [if_pos hd, hlw1 t i hlw hd, henv, if_pos hd]; exact hx
    · rw [if_neg hd]; exact RV.mono he hk _ _ (hI.env t i (hlw2 t i hlw hd))
  · intro t i g p u hlw hu
    rw [heval]
    by_cases hd : o.dst = some t
    · rw [hlw1 t i hlw hd, henv, if_pos hd] at hu
      obtain ⟨h1, h2⟩ := hv g p u hu
      have hG : IsG ops g := ⟨j, o, p, hr.op, h1⟩
      have hlt := hreg.lt j o g p hr.op h1
      refine ⟨hG, .inl (hr.pre g (hF.guard j o g p hr.lt hr.op h1)), fun hy => ?_⟩
      rw [if_pos hd]
      rw [hyst g hG (by omega)] at hy
      exact h2 hy
    · obtain ⟨h1, h2, h3⟩ := hI.gd t i g p u (hlw2 t i hlw hd) hu
      refine ⟨h1, .inl h2, fun hy => ?_⟩
      rw [if_neg hd]
      rw [hyst g h1 (fun h => hr.nd (h ▸ h2))] at hy
      exact RV.mono he hk _ _ (h3 hy)
  · intro g og h hdg hG hog hg hy
    have hGh : IsG ops h.1 := ⟨g, og, h.2, hog, hg⟩
    by_cases hgj : g = j
    · subst hgj
      rw [hr.op] at hog; cases hog
      have hhlt := hreg.lt g o h.1 h.2 hr.op hg
      rw [hyst h.1 hGh (by omega)]
      refine hch h hg ?_
      obtain ⟨og', t, h1, h2, h3⟩ := hreg.has g hG
      rw [hr.op] at h1; cases h1
      unfold yielded at hy
      simp only [hr.op, Option.bind_some, h2, Act.put] at hy
      have hlt2 := Nat.lt_of_lt_of_le (hreg.dst g o t hr.op h2) hI.size
      rw [Array.getElem?_setIfInBounds_self_of_lt hlt2] at hy
      cases x <;> simp at hy
      exact ⟨_, rfl⟩
    · have hdg' : dn g := hdg.resolve_right hgj
      have hdh : dn h.1 := hI.cl g hdg' h.1 (hF.guard g og h.1 h.2 (hI.bd g hdg') hog hg)
      rw [hyst g hG hgj] at hy
      rw [hyst h.1 hGh (fun h' => hr.nd (h' ▸ hdh))]
      exact hI.ch g og h hdg' hG hog hg hy
  · intro i hi k hb
    rcases hi with hi | rfl
    · exact .inl (hI.cl i hi k hb)
    · exact .inl (hr.pre k hb)
  · intro i hi
    rcases hi with hi | rfl
    · exact hI.bd i hi
    · exact hr.lt
end

end Go.Ev
