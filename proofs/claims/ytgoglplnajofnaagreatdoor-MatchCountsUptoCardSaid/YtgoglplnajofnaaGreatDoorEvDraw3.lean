/- A part of the evaluator of Go code over small heaps and of its proof: no condition beyond those that each theorem names. -/
import Derived.Test.YtgoglplnajofnaaGreatDoorEvDraw2
set_option linter.unusedVariables false
set_option linter.unusedSimpArgs false
set_option linter.constructorNameAsVariable false
namespace Go.Ev
variable {T : TypeId → Type}

/-- An operation that may run now. -/
structure Ready (ops : Array Oper) (L : List Nat) (dn : Nat → Prop) (j : Nat) (o : Oper) : Prop where
  op : ops[j]? = some o
  nd : ¬ dn j
  pre : ∀ k, (L.getD j 0).testBit k = true → dn k

theorem Ready.lt {ops : Array Oper} {L : List Nat} {dn : Nat → Prop} {j : Nat} {o : Oper} (h : Ready ops L dn j o) : j < ops.size := (Array.getElem?_eq_some_iff.1 h.op).1

section
variable {N : Nat} {c : Cfg T} {nt : Nat} {ops : Array Oper} {S : Nat → St T} {P : Nat → List Nat × List Nat} {L : List Nat} {dn : Nat → Prop} {η : Eta} {a : Act} {w : World} {j : Nat} {o : Oper}

theorem clash_l {x y : Oper} {t : Nat} (h1 : x.dst = some t) (h2 : y.dst = some t ∨ readsT y t = true) : clash x y = true := by
  simp only [clash, h1, Option.any_some, Bool.or_eq_true]
  left
  rcases h2 with h2 | h2
  · left; simp [h2]
  · right; exact h2

theorem clash_r {x y : Oper} {t : Nat} (h1 : y.dst = some t) (h2 : readsT x t = true) : clash x y = true := by
  simp only [clash, h1, Option.any_some, Bool.or_eq_true]
  right; exact h2

/-- Nothing done behind it writes what it reads or writes. -/
theorem Ready.behind (hF : Facts ops L) (hI : DrawInv c nt ops S P L dn η a w) (hr : Ready ops L dn j o) {k : Nat} {o' : Oper} (hk : dn k) (hjk : j ≤ k) (ho' : ops[k]? = some o') {t : Nat}
    (ht : o.dst = some t ∨ readsT o t = true) : o'.dst ≠ some t := by
  intro hd
  rcases Nat.lt_or_ge j k with h | h
  · have hc : clash o o' = true := by
      rcases ht with ht | ht
      · exact clash_l ht (.inl hd)
      · exact clash_r hd ht
    exact hr.nd (hI.cl k hk j (hF.clash k j o' o h ho' hr.op hc))
  · have : k = j := by omega
    subst this; exact hr.nd hk

theorem Ready.reads (hF : Facts ops L) (hT : Trace c ops N L S P) (hI : DrawInv c nt ops S P L dn η a w) (hr : Ready ops L dn j o) {t : Nat} (ht : readsT o t = true) :
    ∃ i, i ≤ j ∧ Lw ops dn t i ∧ (S j).env t = (S i).env t :=
  find_lw hT (Nat.le_of_lt hr.lt) (fun k o' hk ho' hd => hr.pre k (hF.clash j k o o' hk hr.op ho' (clash_l hd (.inr ht))))
    (fun k o' hk hjk ho' => hr.behind hF hI hk hjk ho' (.inr ht))

theorem Ready.guardT (hreg : Reg nt ops) (hT : Trace c ops N L S P) (hr : Ready ops L dn j o) {g : Nat} (hg : dn g) (hG : IsG ops g) (hlt : g < j) {og : Oper} {t : Nat} (hog : ops[g]? = some og) (ht : og.dst = some t) :
    ∃ i, i ≤ j ∧ Lw ops dn t i ∧ (S j).env t = (S i).env t := by
  obtain ⟨og', t', h1, h2, h3⟩ := hreg.has g hG
  rw [hog] at h1; cases h1
  rw [ht] at h2; cases h2
  exact find_lw hT (Nat.le_of_lt hr.lt) (fun k o' hk ho' hd => by rw [h3 k o' ho' hd]; exact hg)
    (fun k o' hk hjk ho' hd => by have := h3 k o' ho' hd; omega)

/-- At an object that an operation looks at those alone have turned that stand ahead of it. -/
theorem Ready.cut (hT : Trace c ops N L S P) (hI : DrawInv c nt ops S P L dn η a w) (hr : Ready ops L dn j o) {id : Nat} (hid : id ∈ (P j).1) : Cut P dn id j := by
  refine ⟨fun k hk hw => ?_, fun k hk hd hw => ?_⟩
  · rcases hT.apart j k hk hr.lt with h | ⟨h1, _⟩
    · exact hr.pre k h
    · exact (h1 id hw hid).elim
  · rcases Nat.lt_or_ge j k with h | h
    · rcases hT.apart k j h (hI.bd k hd) with h1 | ⟨_, h2⟩
      · exact hr.nd (hI.cl k hd j h1)
      · exact h2 id hw hid
    · have : k = j := by omega
      subst this; exact hr.nd hd

theorem Ready.rel (hT : Trace c ops N L S P) (hI : DrawInv c nt ops S P L dn η a w) (hr : Ready ops L dn j o) {id : Nat} {r : RO} {ob : Obj T} (hid : id ∈ (P j).1) (h : η id = some r) (ho : (S j).heap[id]? = some ob) :
    relObj (rc c) η w ob r := hI.rel id r j ob (Nat.le_of_lt hr.lt) h (hr.cut hT hI hid) ho

theorem maskD_env {s : St T} {o : Oper} {F : List Nat} (t : Nat) : (maskD s o F).env t = if readsT o t = true then s.env t else .u := by
  simp only [maskD]
  cases readsT o t <;> simp

theorem Ready.rd (hF : Facts ops L) (hT : Trace c ops N L S P) (hI : DrawInv c nt ops S P L dn η a w) (hr : Ready ops L dn j o) : RdInv c ops η (maskD (S j) o (P j).1) a w := by
  refine ⟨fun t => ?_, fun t g p v hv hy => ?_, ?_⟩
  · rw [maskD_env]
    split
    · rename_i ht
      obtain ⟨i, _, h2, h3⟩ := hr.reads hF hT hI ht
      rw [h3]; exact hI.env t i h2
    · simp only [RV]
  · rw [maskD_env] at hv
    split at hv
    · rename_i ht
      obtain ⟨i, _, h2, h3⟩ := hr.reads hF hT hI ht
      rw [h3] at hv
      exact (hI.gd t i g p v h2 hv).2.2 hy
    · cases hv
  · refine ⟨fun id r ob hη ho => ?_, hI.own.lt, hI.own.inj, hI.own.nf, hI.own.fl, hI.own.old⟩
    simp only [maskD, maskH_get, Nat.zero_add] at ho
    cases hx : (S j).heap[id]? with
    | none => rw [hx] at ho; simp at ho
    | some x =>
      rw [hx] at ho
      simp only [Option.map_some, Option.some.injEq] at ho
      cases hi : inN (P j).1 id with
      | true =>
        simp only [hi, cond_true] at ho; subst ho
        exact hr.rel hT hI (inN_iff.1 hi) hη hx
      | false => simp only [hi, cond_false] at ho; subst ho; trivial

theorem readsT_mem {o : Oper} {t : Nat} (h : readsT o t = true) : Operand.tmp t ∈ o.op.operands.toList := by
  unfold readsT at h
  obtain ⟨x, hx, hb⟩ := List.any_eq_true.1 h
  unfold isTmp at hb
  split at hb
  · rw [← Nat.eq_of_beq_eq_true hb]; exact hx
  · cases hb

/-- The same, of those objects alone that are looked at. -/
theorem Ready.rdF (hfl : FlatOk c) (hF : Facts ops L) (hT : Trace c ops N L S P) (hI : DrawInv c nt ops S P L dn η a w) (hr : Ready ops L dn j o) (hcl : closedS (S j) o (P j).1 = true) :
    RdInv c ops (etaF η (P j).1) (maskD (S j) o (P j).1) a w := by
  have hcl0 := hcl
  unfold closedS at hcl
  simp only [Bool.and_eq_true] at hcl
  have hop : ∀ t, readsT o t = true → (∀ g p v, (S j).env t ≠ .gd g p v) ∧ (ids ((S j).env t)).all (inN (P j).1) = true := fun t ht => by
    have := List.all_eq_true.1 hcl.2 _ (readsT_mem ht)
    simp only [ev] at this
    cases hv : (S j).env t with
    | gd g p v => rw [hv] at this; cases this
    | _ => rw [hv] at this; exact ⟨fun _ _ _ h => by (first | cases h | nomatch h), this⟩
  have hrd := hr.rd hF hT hI
  refine ⟨fun t => ?_, fun t g p v hv hy => ?_, ?_⟩
  · have h1 := hrd.env t
    rw [maskD_env] at h1 ⊢
    split
    · rename_i ht
      rw [if_pos ht] at h1
      have h2 := hop t ht
      exact RV.over (F := (P j).1) (fun id r h3 h4 => by rw [etaF_m, if_pos h3]; exact h4) (fun b hb _ => etaF_ok hb) h2.2 h1
    · simp only [RV]
  · rw [maskD_env] at hv
    split at hv
    · rename_i ht
      exact ((hop t ht).1 g p v hv).elim
    · cases hv
  · exact etaF_relH hfl hI.own (fun id r ob hid h1 h2 => hr.rel hT hI hid h1 h2) hcl.1.2

theorem chain_done (hF : Facts ops L) (hreg : Reg nt ops) (hI : DrawInv c nt ops S P L dn η a w) : ∀ (m : Nat) (g : Nat × Bool), dn g.1 → IsG ops g.1 → g.1 < j → Passed ops a g →
    ∀ h ∈ chain ops m g, Passed ops a h ∧ dn h.1 ∧ IsG ops h.1 ∧ h.1 < j
  | 0, g, _, _, _, _, h, hm => by simp [chain] at hm
  | m + 1, g, hd, hG, hlt, hp, h, hm => by
    simp only [chain, List.mem_cons] at hm
    rcases hm with rfl | hm
    · exact ⟨hp, hd, hG, hlt⟩
    · cases ho : ops[g.1]? with
      | none => simp [ho] at hm
      | some og =>
        simp only [ho, Option.bind_some] at hm
        cases hg : og.guard with
        | none => simp [hg] at hm
        | some h' =>
          simp only [hg] at hm
          have h1 := hI.ch g.1 og h' hd hG ho hg (by rw [hp]; rfl)
          have h2 := hreg.lt g.1 og h'.1 h'.2 ho hg
          have h3 := hI.cl g.1 hd h'.1 (hF.guard g.1 og h'.1 h'.2 ho hg)
          exact chain_done hF hreg hI m h' h3 ⟨g.1, og, h'.2, ho, hg⟩ (by omega) h1 h hm

theorem yieldD_ok (hreg : Reg nt ops) (hT : Trace c ops N L S P) (hI : DrawInv c nt ops S P L dn η a w) (hr : Ready ops L dn j o) {g : Nat} {p q : Bool}
    (hd : dn g) (hG : IsG ops g) (hlt : g < j) (h : yieldV ops (S j) g = some p) (hy : yielded ops a.tmps g = some q) : p = q := by
  obtain ⟨og, t, ho, ht, huniq⟩ := hreg.has g hG
  obtain ⟨i, _, hlw, hse⟩ := hr.guardT hreg hT hd hG hlt ho ht
  unfold yieldV at h
  simp only [ho, Option.bind_some, ht] at h
  have hev : a.eval (.tmp t) = .bool q := by
    unfold yielded at hy
    simp only [ho, Option.bind_some, ht] at hy
    simp only [Act.eval, Array.getD_eq_getD_getElem?]
    split at hy
    · rename_i b hb; cases hy; rw [hb]; rfl
    · cases hy
  have henv := hI.env t i hlw
  rw [← hse] at henv
  split at h
  · rename_i p' hp
    simp at h; subst h
    rw [hp, hev] at henv
    simp only [RV] at henv; cases henv; rfl
  · rename_i k wv p' hp
    split at h
    · rename_i k' w' hg
      cases hb : k'.beq k && (w' == wv) with
      | false => simp [hb] at h
      | true =>
        simp only [hb, cond_true, Option.some.injEq] at h; subst h
        simp only [Bool.and_eq_true, beq_iff_eq] at hb
        have hk := Nat.eq_of_beq_eq_true hb.1
        obtain ⟨h1, h2, h3⟩ := hI.gd t i k wv _ hlw (by rw [← hse]; exact hp)
        have h4 := hI.ch g og (k', w') hd hG ho hg (by rw [hy]; rfl)
        simp only at h4
        rw [hk, hb.2] at h4
        have := h3 h4
        rw [hev] at this
        simp only [RV] at this; cases this; rfl
    · cases h
  · cases h

theorem letsD_ok (hreg : Reg nt ops) (hT : Trace c ops N L S P) (hI : DrawInv c nt ops S P L dn η a w) (hr : Ready ops L dn j o) :
    ∀ (G : List (Nat × Bool)) (q : Bool), (∀ h ∈ G, Passed ops a h ∧ dn h.1 ∧ IsG ops h.1 ∧ h.1 < j) → lets ops (S j) G = some q → q = true
  | [], q, _, h => by simp [lets] at h
  | [(g, wv)], q, hp, h => by
    obtain ⟨h1, h2, h3, h4⟩ := hp (g, wv) (by simp)
    simp only [lets] at h
    cases hy : yieldV ops (S j) g with
    | none => rw [hy] at h; simp at h
    | some p =>
      rw [hy] at h; simp at h; subst h
      have := yieldD_ok hreg hT hI hr h2 h3 h4 hy h1
      simp only at this
      subst this
      cases p <;> rfl
  | (g, wv) :: g' :: G, q, hp, h => by
    obtain ⟨h1, h2, h3, h4⟩ := hp (g, wv) (by simp)
    simp only [lets] at h
    split at h
    · rename_i p q' hy hq
      simp at h; subst h
      have := yieldD_ok hreg hT hI hr h2 h3 h4 hy h1
      simp only at this
      subst this
      have := letsD_ok hreg hT hI hr (g' :: G) q' (fun h hh => hp h (List.mem_cons_of_mem _ hh)) hq
      subst this
      cases p <;> rfl
    · cases h

/-- What an operation leaves of the objects. -/
structure StepOk (c : Cfg T) (S : Nat → St T) (P : Nat → List Nat × List Nat) (j : Nat) (η η' : Eta) (w w' : World) : Prop where
  evo : Evo η η' w w'
  keeps : Keeps η η'
  own : Own c.w0 η' w'
  other : ∀ id, id ∉ (P j).2 → η' id = η id ∧ ∀ r b, η id = some r → r.has b → w'.heap[b]? = w.heap[b]?
  rel : ∀ id r ob, id ∈ (P j).2 → η' id = some r → (S (j + 1)).heap[id]? = some ob → relObj (rc c) η' w' ob r

/-- One operation more is done. -/
theorem DrawInv.next (hF : Facts ops L) (hreg : Reg nt ops) (hT : Trace c ops N L S P) (hI : DrawInv c nt ops S P L dn η a w) (hr : Ready ops L dn j o) {η' : Eta} {w' : World} {v : V T} {x : Value}
    (hs : StepOk c S P j η η' w w') (henv : ∀ t, (S (j + 1)).env t = if o.dst = some t then v else (S j).env t)
    (hv : ∀ g p u, v = .gd g p u → o.guard = some (g, p) ∧ (yielded ops a.tmps g = some p → RV (rc c) η' w' u x)) (hx : RV (rc c) η' w' v x)
    (hch : ∀ h, o.guard = some h → (∃ b, x = .bool b) → yielded ops a.tmps h.1 = some h.2) :
    DrawInv c nt ops S P L (fun k => dn k ∨ k = j) η' (a.put o.dst x) w' := by
  have hst := (hT.step j o hr.op).heap
  have hlt := hr.lt
  have hyst : ∀ g, IsG ops g → g ≠ j → yielded ops (a.put o.dst x).tmps g = yielded ops a.tmps g := by
    intro g hG hne
    obtain ⟨og, t, h1, h2, h3⟩ := hreg.has g hG
    exact yielded_put h1 h2 (fun h => hne (h3 j o hr.op h).symm)
  have heval : ∀ t, (a.put o.dst x).eval (.tmp t) = if o.dst = some t then x else a.eval (.tmp t) := by
    intro t
    cases hd : o.dst with
    | none => simp [eval_put_none]
    | some d =>
      rw [eval_put (Nat.lt_of_lt_of_le (hreg.dst j o d hr.op hd) hI.size)]
      simp only [Option.some.injEq]
      by_cases h : t = d
      · subst h; simp
      · simp [h, Ne.symm h]
  have hlw1 : ∀ t i, Lw ops (fun k => dn k ∨ k = j) t i → o.dst = some t → i = j + 1 := by
    intro t i ⟨h1, h2⟩ hd
    rcases Nat.lt_or_ge j i with h | h
    · rcases h1 with h1 | ⟨k, ok, rfl, h4, h5, h6⟩
      · omega
      · rcases h4 with h4 | h4
        · exact (hr.behind hF hI h4 (by omega) h5 (.inl hd) h6).elim
        · rw [h4]
    · exact (h2 j o (.inr rfl) h hr.op hd).elim
  have hlw2 : ∀ t i, Lw ops (fun k => dn k ∨ k = j) t i → o.dst ≠ some t → Lw ops dn t i := by
    intro t i ⟨h1, h2⟩ hd
    refine ⟨?_, fun k ok hdk => h2 k ok (.inl hdk)⟩
    rcases h1 with h1 | ⟨k, ok, rfl, h4, h5, h6⟩
    · exact .inl h1
    · rcases h4 with h4 | h4
      · exact .inr ⟨k, ok, rfl, h4, h5, h6⟩
      · subst h4
        rw [hr.op] at h5; cases h5
        exact (hd h6).elim
  refine ⟨by rw [put_defers, hs.evo.df]; exact hI.def0, by rw [put_size]; exact hI.size, hs.own, ?_, ?_, ?_, ?_, ?_, ?_, ?_, ?_⟩
  · intro id r i ob hi hη hc ho
    by_cases hid : id ∈ (P j).2
    · have hij : j < i := by
        rcases Nat.lt_or_ge j i with h | h
        · exact h
        · exact (hc.2 j h (.inr rfl) hid).elim
      have hb := hst.2.2.2 id hid
      have hno : ∀ k, j + 1 ≤ k → k < i → id ∉ (P k).2 := by
        intro k hk1 hk2 hw
        have hdk : dn k := (hc.1 k hk2 hw).resolve_right (by omega)
        have hks := hI.bd k hdk
        have hsk := (hT.step k _ (Array.getElem?_eq_getElem hks)).heap.2.2.2 id hw
        rcases hT.apart k j (by omega) hks with h1 | ⟨h1, h2⟩
        · exact hr.nd (hI.cl k hdk j h1)
        · rcases hsk.2 with h3 | h3
          · exact h1 id hid h3
          · have := trace_len hT (i := j + 1) (j := k) hk1 (by omega)
            omega
      have := trace_same hT (i := j + 1) (id := id) (i - (j + 1)) (by omega) hb.1 (fun k h1 h2 => hno k h1 (by omega))
      rw [show j + 1 + (i - (j + 1)) = i by omega] at this
      exact hs.rel id r ob hid hη (by rw [← this]; exact ho)
    · obtain ⟨h1, h2⟩ := hs.other id hid
      rw [h1] at hη
      refine (hI.rel id r i ob hi hη ⟨fun k hk hw => (hc.1 k hk hw).resolve_right (fun h => hid (h ▸ hw)), fun k hk hd => hc.2 k hk (.inl hd)⟩ ho).mono hs.evo hs.keeps fun b hb => h2 r b hη hb
  · intro id hid
    have : id ∉ (P j).2 := fun h => by
      have h1 := (hst.2.2.2 id h).1
      have := trace_len hT (i := j + 1) (j := ops.size) (by omega) (Nat.le_refl _)
      omega
    rw [(hs.other id this).1]
    exact hI.fresh id hid
  · intro i hi hnd id h1 h2
    have hne : i ≠ j := fun h => hnd (.inr h)
    have hw : id ∈ (P i).2 := (hT.step i _ (Array.getElem?_eq_getElem hi)).heap.2.2.1 id h1 h2
    have : id ∉ (P j).2 := fun h => by
      have hb := hst.2.2.2 id h
      rcases Nat.lt_or_ge i j with h3 | h3
      · have h5 := trace_len hT (i := i + 1) (j := j) h3 (by omega)
        rcases hb.2 with h4 | h4
        · rcases hT.apart j i h3 hlt with h6 | ⟨h6, _⟩
          · exact hnd (.inl (hr.pre i h6))
          · exact h6 id hw h4
        · omega
      · have h5 := trace_len hT (i := j + 1) (j := i) (by omega) (by omega)
        omega
    rw [(hs.other id this).1]
    exact hI.low i hi (fun h => hnd (.inl h)) id h1 h2
  · intro t i hlw
    rw [heval]
    by_cases hd : o.dst = some t
    · rw [if_pos hd, hlw1 t i hlw hd, henv, if_pos hd]; exact hx
    · rw [if_neg hd]; exact RV.mono hs.evo hs.keeps _ _ (hI.env t i (hlw2 t i hlw hd))
  · intro t i g p u hlw hu
    rw [heval]
    by_cases hd : o.dst = some t
    · rw [hlw1 t i hlw hd, henv, if_pos hd] at hu
      obtain ⟨h1, h2⟩ := hv g p u hu
      have hG : IsG ops g := ⟨j, o, p, hr.op, h1⟩
      have hlt := hreg.lt j o g p hr.op h1
      refine ⟨hG, .inl (hr.pre g (hF.guard j o g p hr.op h1)), fun hy => ?_⟩
      rw [if_pos hd]
      rw [hyst g hG (by omega)] at hy
      exact h2 hy
    · obtain ⟨h1, h2, h3⟩ := hI.gd t i g p u (hlw2 t i hlw hd) hu
      refine ⟨h1, .inl h2, fun hy => ?_⟩
      rw [if_neg hd]
      rw [hyst g h1 (fun h => hr.nd (h ▸ h2))] at hy
      exact RV.mono hs.evo hs.keeps _ _ (h3 hy)
  · intro g og h hdg hG hog hg hy
    have hGh : IsG ops h.1 := ⟨g, og, h.2, hog, hg⟩
    by_cases hgj : g = j
    · subst hgj
      rw [hr.op] at hog; cases hog
      have hhlt := hreg.lt g o h.1 h.2 hr.op hg
      rw [hyst h.1 hGh (by omega)]
      refine hch h hg ?_
      obtain ⟨og', t, h1, h2, h3⟩ := hreg.has g hG
      rw [hr.op] at h1; cases h1
      unfold yielded at hy
      simp only [hr.op, Option.bind_some, h2, Act.put] at hy
      have hlt2 := Nat.lt_of_lt_of_le (hreg.dst g o t hr.op h2) hI.size
      rw [Array.getElem?_setIfInBounds_self_of_lt hlt2] at hy
      cases x <;> simp at hy
      exact ⟨_, rfl⟩
    · have hdg' : dn g := hdg.resolve_right hgj
      have hdh : dn h.1 := hI.cl g hdg' h.1 (hF.guard g og h.1 h.2 hog hg)
      rw [hyst g hG hgj] at hy
      rw [hyst h.1 hGh (fun h' => hr.nd (h' ▸ hdh))]
      exact hI.ch g og h hdg' hG hog hg hy
  · intro i hi k hb
    rcases hi with hi | rfl
    · exact .inl (hI.cl i hi k hb)
    · exact .inl (hr.pre k hb)
  · intro i hi
    rcases hi with hi | rfl
    · exact hI.bd i hi
    · exact hr.lt
end

end Go.Ev
