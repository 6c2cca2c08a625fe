/- A part of the evaluator of Go code over small heaps and of its proof: no condition beyond those that each theorem names. -/
import Derived.Test.YtgoglplnajofnaaGreatDoorEvOp
set_option linter.unusedVariables false
set_option linter.unusedSimpArgs false
set_option linter.constructorNameAsVariable false
namespace Go.Ev
variable {T : TypeId → Type}

/-- Is an operation asked by a guard? -/
def IsG (ops : Array Oper) (j : Nat) : Prop := ∃ (k : Nat) (o : Oper) (w : Bool), ops[k]? = some o ∧ o.guard = some (j, w)

structure Reg (nt : Nat) (ops : Array Oper) : Prop where
  dst : ∀ (i : Nat) (o : Oper) (t : Nat), ops[i]? = some o → o.dst = some t → t < nt
  lt : ∀ (i : Nat) (o : Oper) (j : Nat) (w : Bool), ops[i]? = some o → o.guard = some (j, w) → j < i
  has : ∀ j, IsG ops j → ∃ (o : Oper) (t : Nat), ops[j]? = some o ∧ o.dst = some t ∧ ∀ (k : Nat) (o' : Oper), ops[k]? = some o' → o'.dst = some t → k = j

theorem regOk_ok {nt : Nat} {ops : Array Oper} (h : regOk nt ops = true) : Reg nt ops := by
  unfold regOk at h
  rw [List.all_eq_true] at h
  have hget : ∀ (i : Nat) (o : Oper), ops[i]? = some o → (o, i) ∈ ops.toList.zipIdx := fun i o hi => by
    rw [List.mem_zipIdx_iff_getElem?]
    simpa using hi
  refine ⟨?_, ?_, ?_⟩
  · intro i o t hi ht
    have := h _ (hget i o hi)
    simp only [Bool.and_eq_true] at this
    have := this.1
    rw [ht] at this
    simpa [Nat.blt_eq] using this
  · intro i o j w hi hg
    have := h _ (hget i o hi)
    simp only [Bool.and_eq_true, hg] at this
    have := this.2
    simpa [Nat.blt_eq] using this.1
  · rintro j ⟨i, o, w, hi, hg⟩
    have := h _ (hget i o hi)
    simp only [Bool.and_eq_true, hg] at this
    have := this.2.2
    split at this
    · rename_i t ht
      cases ho : ops[j]? with
      | none => rw [ho] at ht; cases ht
      | some oj =>
        rw [ho] at ht
        refine ⟨oj, t, rfl, by simpa using ht, fun k o' hk hd => ?_⟩
        rw [List.all_eq_true] at this
        have := this _ (hget k o' hk)
        simp only [hd, Bool.or_eq_true] at this
        rcases this with h1 | h1
        · exact Nat.eq_of_beq_eq_true h1
        · simp at h1
    · cases this

theorem eval_put {a : Act} {d t : Nat} {x : Value} (hd : d < a.tmps.size) : (a.put (some d) x).eval (.tmp t) = if t = d then x else a.eval (.tmp t) := by
  simp only [Act.eval, Act.put, Array.getD_eq_getD_getElem?, Array.getElem?_setIfInBounds]
  by_cases h : d = t
  · subst h; simp [hd]
  · simp [h, Ne.symm h]

theorem eval_put_none {a : Act} {x : Value} : a.put none x = a := rfl

theorem put_size {a : Act} {d : Option Nat} {x : Value} : (a.put d x).tmps.size = a.tmps.size := by
  cases d <;> simp [Act.put]

theorem put_defers {a : Act} {d : Option Nat} {x : Value} : (a.put d x).defers = a.defers := by
  cases d <;> rfl

theorem yielded_put {ops : Array Oper} {a : Act} {j : Nat} {o : Oper} {t : Nat} {d : Option Nat} {x : Value} (ho : ops[j]? = some o) (ht : o.dst = some t) (hd : d ≠ some t) :
    yielded ops (a.put d x).tmps j = yielded ops a.tmps j := by
  unfold yielded
  simp only [ho, Option.bind_some, ht]
  cases d with
  | none => rfl
  | some d =>
    have : d ≠ t := fun h => hd (by rw [h])
    simp [Act.put, Array.getElem?_setIfInBounds_ne this]

theorem set_env {s : St T} {d : Option Nat} {v : V T} (t : Nat) : (s.set d v).env t = if d = some t then v else s.env t := by
  cases d with
  | none => simp [St.set]
  | some d =>
    simp only [St.set, Option.some.injEq]
    by_cases h : t = d
    · subst h; simp
    · have : t.beq d = false := by
        cases hb : t.beq d with
        | false => rfl
        | true => exact absurd (Nat.eq_of_beq_eq_true hb) h
      simp [this, Ne.symm h]

theorem set_heap {s : St T} {d : Option Nat} {v : V T} : (s.set d v).heap = s.heap := by cases d <;> rfl

/-- What holds while a region runs, ahead of its i-th operation. -/
structure RunInv (c : Cfg T) (nt : Nat) (ops : Array Oper) (i : Nat) (η : Eta) (s : St T) (a : Act) (w : World) : Prop where
  def0 : a.defers = η.df
  size : nt ≤ a.tmps.size
  env : ∀ t, RV (rc c) η w (s.env t) (a.eval (.tmp t))
  gd : ∀ t j p v, s.env t = .gd j p v → IsG ops j ∧ j < i ∧ (yielded ops a.tmps j = some p → RV (rc c) η w v (a.eval (.tmp t)))
  ch : ∀ (j : Nat) (o : Oper) (h : Nat × Bool), j < i → IsG ops j → ops[j]? = some o → o.guard = some h → (yielded ops a.tmps j).isSome = true → yielded ops a.tmps h.1 = some h.2
  heap : RelH (rc c) η s.heap w
  fresh : ∀ id, s.heap.length ≤ id → η id = none

/-- What is asked of a state where an operation is read. -/
structure RdInv (c : Cfg T) (ops : Array Oper) (η : Eta) (s : St T) (a : Act) (w : World) : Prop where
  env : ∀ t, RV (rc c) η w (s.env t) (a.eval (.tmp t))
  gd : ∀ t j p v, s.env t = .gd j p v → yielded ops a.tmps j = some p → RV (rc c) η w v (a.eval (.tmp t))
  heap : RelH (rc c) η s.heap w

theorem RunInv.rd {c : Cfg T} {nt i : Nat} {ops : Array Oper} {η : Eta} {s : St T} {a : Act} {w : World} (h : RunInv c nt ops i η s a w) : RdInv c ops η s a w :=
  ⟨h.env, fun t j p v hv => (h.gd t j p v hv).2.2, h.heap⟩

theorem maskS_env {s : St T} {o : Oper} (t : Nat) : (maskS s o).env t = if readsT o t = true then s.env t else .u := by
  simp only [maskS]
  cases readsT o t <;> simp

theorem RdInv.mask {c : Cfg T} {ops : Array Oper} {η : Eta} {s : St T} {a : Act} {w : World} (h : RdInv c ops η s a w) (o : Oper) : RdInv c ops η (maskS s o) a w := by
  refine ⟨fun t => ?_, fun t j p v hv hy => ?_, h.heap⟩
  · rw [maskS_env]
    split
    · exact h.env t
    · simp only [RV]
  · rw [maskS_env] at hv
    split at hv
    · exact h.gd t j p v hv hy
    · cases hv

def Passed (ops : Array Oper) (a : Act) (g : Nat × Bool) : Prop := yielded ops a.tmps g.1 = some g.2

theorem chain_passed {c : Cfg T} {nt i : Nat} {ops : Array Oper} (hreg : Reg nt ops) {η : Eta} {s : St T} {a : Act} {w : World} (hI : RunInv c nt ops i η s a w) :
    ∀ (n : Nat) (g : Nat × Bool), g.1 < i → IsG ops g.1 → Passed ops a g → ∀ h ∈ chain ops n g, Passed ops a h
  | 0, g, _, _, _, h, hm => by simp [chain] at hm
  | n + 1, g, hlt, hG, hp, h, hm => by
    simp only [chain, List.mem_cons] at hm
    rcases hm with rfl | hm
    · exact hp
    · cases ho : ops[g.1]? with
      | none => simp [ho] at hm
      | some o =>
        simp only [ho, Option.bind_some] at hm
        cases hg : o.guard with
        | none => simp [hg] at hm
        | some h' =>
          simp only [hg] at hm
          have h1 := hI.ch g.1 o h' hlt hG ho hg (by rw [hp]; rfl)
          have h2 := hreg.lt g.1 o h'.1 h'.2 ho hg
          exact chain_passed hreg hI n h' (by omega) ⟨g.1, o, h'.2, ho, hg⟩ h1 h hm

theorem yieldV_ok {c : Cfg T} {nt i : Nat} {ops : Array Oper} (hreg : Reg nt ops) {η : Eta} {s : St T} {a : Act} {w : World} (hI : RunInv c nt ops i η s a w) {j : Nat} {p q : Bool}
    (hlt : j < i) (hG : IsG ops j) (h : yieldV ops s j = some p) (hy : yielded ops a.tmps j = some q) : p = q := by
  obtain ⟨o, t, ho, ht, huniq⟩ := hreg.has j hG
  unfold yieldV at h
  simp only [ho, Option.bind_some, ht] at h
  have hev : a.eval (.tmp t) = .bool q := by
    unfold yielded at hy
    simp only [ho, Option.bind_some, ht] at hy
    simp only [Act.eval, Array.getD_eq_getD_getElem?]
    split at hy
    · rename_i b hb; cases hy; rw [hb]; rfl
    · cases hy
  have henv := hI.env t
  split at h
  · rename_i p' hp
    simp at h; subst h
    rw [hp, hev] at henv
    simp only [RV] at henv; cases henv; rfl
  · rename_i k wv p' hp
    split at h
    · rename_i k' w' hg
      cases hb : k'.beq k && (w' == wv) with
      | false => simp [hb] at h
      | true =>
        simp only [hb, cond_true, Option.some.injEq] at h; subst h
        simp only [Bool.and_eq_true, beq_iff_eq] at hb
        have hk := Nat.eq_of_beq_eq_true hb.1
        obtain ⟨h1, h2, h3⟩ := hI.gd t k wv _ hp
        have h4 := hI.ch j o (k', w') hlt hG ho hg (by rw [hy]; rfl)
        simp only at h4
        rw [hk, hb.2] at h4
        have := h3 h4
        rw [hev] at this
        simp only [RV] at this; cases this; rfl
    · cases h
  · cases h

theorem lets_ok {c : Cfg T} {nt i : Nat} {ops : Array Oper} (hreg : Reg nt ops) {η : Eta} {s : St T} {a : Act} {w : World} (hI : RunInv c nt ops i η s a w) :
    ∀ (G : List (Nat × Bool)) (q : Bool), (∀ h ∈ G, Passed ops a h ∧ h.1 < i ∧ IsG ops h.1) → lets ops s G = some q → q = true
  | [], q, _, h => by simp [lets] at h
  | [(j, wv)], q, hp, h => by
    obtain ⟨h1, h2, h3⟩ := hp (j, wv) (by simp)
    simp only [lets] at h
    cases hy : yieldV ops s j with
    | none => rw [hy] at h; simp at h
    | some p =>
      rw [hy] at h; simp at h; subst h
      have := yieldV_ok hreg hI h2 h3 hy h1
      simp only at this
      subst this
      cases p <;> rfl
  | (j, wv) :: g :: G, q, hp, h => by
    obtain ⟨h1, h2, h3⟩ := hp (j, wv) (by simp)
    simp only [lets] at h
    split at h
    · rename_i p q' hy hq
      simp at h; subst h
      have := yieldV_ok hreg hI h2 h3 hy h1
      simp only at this
      subst this
      have := lets_ok hreg hI (g :: G) q' (fun h hh => hp h (List.mem_cons_of_mem _ hh)) hq
      subst this
      cases p <;> rfl
    · cases h

/-- What lets an operation by has been passed: of chains that are not cut off. -/
theorem lets_conv {c : Cfg T} {nt i : Nat} {ops : Array Oper} (hreg : Reg nt ops) {η : Eta} {s : St T} {a : Act} {w : World} (hI : RunInv c nt ops i η s a w) :
    ∀ (n : Nat) (g : Nat × Bool), g.1 < i → IsG ops g.1 → (chain ops n g).length < n → lets ops s (chain ops n g) = some true → Passed ops a g
  | 0, g, _, _, h, _ => by simp at h
  | n + 1, g, hlt, hG, hlen, h => by
    obtain ⟨o, t, ho, ht, huniq⟩ := hreg.has g.1 hG
    have key : ∀ p, yieldV ops s g.1 = some p → (∀ k wv, o.guard = some (k, wv) → Passed ops a (k, wv)) → yielded ops a.tmps g.1 = some p := by
      intro p hy hout
      unfold yieldV at hy
      simp only [ho, Option.bind_some, ht] at hy
      have henv := hI.env t
      have fin : a.eval (.tmp t) = .bool p → yielded ops a.tmps g.1 = some p := fun hev => by
        unfold yielded
        simp only [ho, Option.bind_some, ht]
        simp only [Act.eval, Array.getD_eq_getD_getElem?] at hev
        cases htt : a.tmps[t]? with
        | none => rw [htt] at hev; simp [undef] at hev
        | some u => rw [htt] at hev; simp at hev; subst hev; rfl
      split at hy
      · rename_i p' hp
        simp at hy; subst hy
        rw [hp] at henv
        simp only [RV] at henv
        refine fin ?_
        generalize a.eval (.tmp t) = at' at henv; cases henv; rfl
      · rename_i k wv p' hp
        split at hy
        · rename_i k' w' hg
          cases hb : k'.beq k && (w' == wv) with
          | false => simp [hb] at hy
          | true =>
            simp only [hb, cond_true, Option.some.injEq] at hy; subst hy
            simp only [Bool.and_eq_true, beq_iff_eq] at hb
            have hk := Nat.eq_of_beq_eq_true hb.1
            obtain ⟨h1, h2, h3⟩ := hI.gd t k wv _ hp
            have h4 := hout k' w' hg
            unfold Passed at h4
            simp only at h4
            rw [hk, hb.2] at h4
            have := h3 h4
            simp only [RV] at this
            refine fin ?_
            generalize a.eval (.tmp t) = at' at this; cases this; rfl
        · cases hy
      · cases hy
    have pol : ∀ p, polar g.2 p = true → p = g.2 := fun p hp => by
      cases hw : g.2 <;> cases p <;> rw [hw] at hp <;> first | rfl | cases hp
    simp only [chain] at h hlen
    simp only [ho, Option.bind_some] at h hlen
    cases hgd : o.guard with
    | none =>
      rw [hgd] at h
      simp only [lets] at h
      cases hy : yieldV ops s g.1 with
      | none => rw [hy] at h; cases h
      | some p =>
        rw [hy] at h
        simp only [Option.map_some, Option.some.injEq] at h
        have := key p hy (fun k wv hk => by rw [hgd] at hk; cases hk)
        unfold Passed
        rw [this, pol p h]
    | some g' =>
      rw [hgd] at h hlen
      simp only [List.length_cons] at hlen
      have hne : chain ops n g' ≠ [] := by
        intro he
        cases n with
        | zero => simp at hlen
        | succ n => simp [chain] at he
      obtain ⟨x, l, hxl⟩ := List.exists_cons_of_ne_nil hne
      have hlt' := hreg.lt g.1 o g'.1 g'.2 ho hgd
      have hG' : IsG ops g'.1 := ⟨g.1, o, g'.2, ho, hgd⟩
      simp only [hxl] at h
      simp only [lets] at h
      cases hy : yieldV ops s g.1 with
      | none => rw [hy] at h; simp at h
      | some p =>
        rw [hy] at h
        cases hq : lets ops s (x :: l) with
        | none => rw [hq] at h; simp at h
        | some q =>
          rw [hq] at h
          simp only [Option.some.injEq, Bool.and_eq_true] at h
          obtain ⟨rfl, h2⟩ := h
          have hp' := lets_conv hreg hI n g' (by omega) hG' (by omega) (by rw [hxl]; exact hq)
          have := key p hy (fun k wv hk => by rw [hgd] at hk; cases hk; exact hp')
          unfold Passed
          rw [this, pol p h2]

theorem rd_ok {c : Cfg T} {ops : Array Oper} {η : Eta} {s : St T} {a : Act} {w : World} (hI : RdInv c ops η s a w) {G : List (Nat × Bool)} (hG : ∀ h ∈ G, Passed ops a h) (x : Operand) :
    RV (rc c) η w (rd s G x) (a.eval x) := by
  have hev : RV (rc c) η w (ev s x) (a.eval x) := by
    cases x with
    | tmp t => exact hI.env t
    | const v => exact cV_ok v
    | global g => simp only [ev, RV, Act.eval]; rfl
    | func f => simp only [ev, RV, Act.eval]; exact ⟨[], rfl, by simp only [RVs]⟩
  unfold rd
  split
  · rename_i j wv v hv
    cases hb : G.any (fun p => p.1.beq j && (p.2 == wv)) with
    | false => simp only [cond_false, RV]
    | true =>
      simp only [cond_true]
      rw [List.any_eq_true] at hb
      obtain ⟨⟨j', w'⟩, hm, hb⟩ := hb
      simp only [Bool.and_eq_true, beq_iff_eq] at hb
      have h1 := Nat.eq_of_beq_eq_true hb.1
      have h2 := hb.2
      subst h1; subst h2
      cases x with
      | tmp t => exact hI.gd t _ _ v hv (hG _ hm)
      | const u =>
        exfalso
        simp only [ev, cV] at hv
        split at hv
        · cases hv
        · unfold cV1 at hv
          split at hv
          · cases hv
          · split at hv <;> cases hv
      | global g => simp [ev] at hv
      | func f => simp [ev] at hv
  · exact hev

theorem cV_not_gd {v : Value} {j : Nat} {p : Bool} {u : V T} (h : (cV v : V T) = .gd j p u) : False := by
  simp only [cV] at h
  split at h
  · cases h
  · unfold cV1 at h
    split at h
    · cases h
    · split at h <;> cases h

theorem half_ok {c : Cfg T} {ops : Array Oper} {η : Eta} {s : St T} {a : Act} {w : World} (hI : RdInv c ops η s a w) {G : List (Nat × Bool)} (hG : ∀ h ∈ G, Passed ops a h)
    (k x : Operand) (p : Bool) (hk : a.eval k = .bool p) : RV (rc c) η w (half ops G s k x p) (a.eval x) := by
  have hrd := rd_ok hI hG x
  unfold rd at hrd
  cases hv : ev s x with
  | gd j w' v =>
    simp only [hv] at hrd
    have base : RV (rc c) η w (bif G.any (fun q => q.1.beq j && (q.2 == w')) then v else .u) (a.eval x) := hrd
    cases k with
    | tmp t =>
      simp only [half, hv]
      cases hb : G.any (fun q => q.1.beq j && (q.2 == w')) with
      | true => simp only [hb, cond_true] at base ⊢; exact base
      | false =>
        simp only [cond_false]
        cases hb2 : (w' == p) && ((ops[j]?).bind (·.dst)).any (·.beq t) with
        | false => simp only [cond_false, RV]
        | true =>
          simp only [cond_true]
          simp only [Bool.and_eq_true, beq_iff_eq] at hb2
          obtain ⟨rfl, hd⟩ := hb2
          cases x with
          | tmp t' =>
            refine hI.gd t' j w' v hv ?_
            cases hjd : (ops[j]?).bind (·.dst) with
            | none => simp [hjd] at hd
            | some t2 =>
              simp [hjd] at hd
              subst hd
              unfold yielded
              simp only [hjd, Option.bind_some]
              simp only [Act.eval, Array.getD_eq_getD_getElem?] at hk
              cases ht : a.tmps[t2]? with
              | none => rw [ht] at hk; simp [undef] at hk
              | some u => rw [ht] at hk; simp at hk; subst hk; rfl
          | const u => exact (cV_not_gd hv).elim
          | global g => simp [ev] at hv
          | func f => simp [ev] at hv
    | _ => simp only [half, hv]; exact base
  | _ => simp only [half, hv]; simp only [hv] at hrd; exact hrd

theorem pickV_cases {ops : Array Oper} {G : List (Nat × Bool)} {s : St T} {k x y : Operand} {r : Bool × V T} (h : pickV ops G s k x y = some r) :
    (∃ p u v, rd s G k = .d (.b p) ∧ half ops G s k x true = .d (.b u) ∧ half ops G s k y false = .d (.b v) ∧ r = (true, .d (.b (cond p u v)))) ∨
    (∃ p u, rd s G k = .d (.b p) ∧ half ops G s k x true = .d (.b u) ∧ r = (p, .d (.b u))) ∨
    (∃ p v, rd s G k = .d (.b p) ∧ half ops G s k y false = .d (.b v) ∧ r = (!p, .d (.b v))) := by
  unfold pickV at h
  split at h
  · cases h; exact .inl ⟨_, _, _, by assumption, by assumption, by assumption, rfl⟩
  · cases h; exact .inr (.inl ⟨_, _, by assumption, by assumption, rfl⟩)
  · cases h; exact .inr (.inr ⟨_, _, by assumption, by assumption, rfl⟩)
  · cases h

theorem effE_ok {c : Cfg T} (hc : Fine c) {ops : Array Oper} {η : Eta} {s : St T} {a : Act} {w : World} (hI : RdInv c ops η s a w) {G : List (Nat × Bool)} (hG : ∀ h ∈ G, Passed ops a h)
    {o : Oper} {eff : Eff T} (hfr : ∀ ok os v, eff = .val ok os v → Fresh η s.heap.length os.length) (h : effE c ops s G o = some eff) : EffOk c η s.heap w ((execOp a.eval o).run c.P w) eff := by
  unfold effE at h
  split at h
  · rename_i k x y hop
    have keyp : ∀ p, rd s G k = .d (.b p) → a.eval k = .bool p := fun p h1 => by
      have hk := rd_ok hI hG k
      rw [h1] at hk
      simp only [RV] at hk
      generalize a.eval k = ak at hk; cases hk; rfl
    have hx1 : ∀ u, half ops G s k x true = .d (.b u) → a.eval k = .bool true → (execOp a.eval o).run c.P w = .ok (.value (.bool u)) w := fun u h2 hk' => by
      have hx := half_ok hI hG k x true hk'
      rw [h2] at hx
      simp only [RV] at hx
      generalize hax : a.eval x = ax at hx
      cases hx
      simp only [execOp, hop, hk', asBool, Sem.run_bind, Sem.run_pure, Result.andThen_ok, if_true, hax]
    have hy1 : ∀ u, half ops G s k y false = .d (.b u) → a.eval k = .bool false → (execOp a.eval o).run c.P w = .ok (.value (.bool u)) w := fun u h3 hk' => by
      have hy := half_ok hI hG k y false hk'
      rw [h3] at hy
      simp only [RV] at hy
      generalize hay : a.eval y = ay at hy
      cases hy
      simp only [execOp, hop, hk', asBool, Sem.run_bind, Sem.run_pure, Result.andThen_ok, Bool.false_eq_true, if_false, hay]
    cases hp : pickV ops G s k x y with
    | none => rw [hp] at h; cases h
    | some v =>
      rw [hp] at h; simp only [Option.map_some, Option.some.injEq] at h; subst h; intro hpt
      rcases pickV_cases hp with ⟨p, u, v', h1, h2, h3, rfl⟩ | ⟨p, u, h1, h2, rfl⟩ | ⟨p, u, h1, h2, rfl⟩
      · have hk' := keyp p h1
        refine .pure (x := .bool (cond p u v')) ?_ (by simp only [RV]; exact .b _)
        cases p with
        | true => exact hx1 u h2 hk'
        | false => exact hy1 v' h3 hk'
      · simp only at hpt; subst hpt
        exact .pure (hx1 u h2 (keyp true h1)) (by simp only [RV]; exact .b _)
      · simp only [Bool.not_eq_true'] at hpt; subst hpt
        exact .pure (hy1 u h2 (keyp false h1)) (by simp only [RV]; exact .b _)
  · exact opR_ok hc (rd_ok hI hG) hI.heap hfr h

theorem strip_rv {R : Rc T} {η : Eta} {w : World} {v : V T} {x : Value} (h : RV R η w v x) : RV R η w (strip v) x := by
  cases v <;> first | exact h | (simp only [strip, RV])

theorem strip_ng {v : V T} {j : Nat} {p : Bool} {u : V T} : strip v ≠ .gd j p u := by
  cases v <;> simp [strip]

/-- One operation done: the state behind it. -/
theorem RunInv.next {c : Cfg T} {nt i : Nat} {ops : Array Oper} (hreg : Reg nt ops) {η η' : Eta} {s : St T} {a : Act} {w w' : World} (hI : RunInv c nt ops i η s a w) {o : Oper} (ho : ops[i]? = some o)
    {H' : List (Obj T)} {v : V T} {x : Value} (he : Evo η η' w w') (hk : Keeps η η') (hH : RelH (rc c) η' H' w') (hf : ∀ id, H'.length ≤ id → η' id = none)
    (hv : ∀ j p u, v = .gd j p u → o.guard = some (j, p) ∧ (yielded ops a.tmps j = some p → RV (rc c) η' w' u x)) (hx : RV (rc c) η' w' v x)
    (hch : ∀ h, o.guard = some h → (∃ b, x = .bool b) → yielded ops a.tmps h.1 = some h.2) :
    RunInv c nt ops (i + 1) η' (St.set ⟨s.env, H'⟩ o.dst v) (a.put o.dst x) w' := by
  have hyst : ∀ j, IsG ops j → j ≠ i → yielded ops (a.put o.dst x).tmps j = yielded ops a.tmps j := by
    intro j hG hne
    obtain ⟨oj, t, h1, h2, h3⟩ := hreg.has j hG
    exact yielded_put h1 h2 (fun h => hne (h3 i o ho h).symm)
  have heval : ∀ t, (a.put o.dst x).eval (.tmp t) = if o.dst = some t then x else a.eval (.tmp t) := by
    intro t
    cases hd : o.dst with
    | none => simp [eval_put_none]
    | some d =>
      rw [eval_put (Nat.lt_of_lt_of_le (hreg.dst i o d ho hd) hI.size)]
      simp only [Option.some.injEq]
      by_cases h : t = d
      · subst h; simp
      · simp [h, Ne.symm h]
  refine ⟨by rw [put_defers, he.df]; exact hI.def0, by rw [put_size]; exact hI.size, ?_, ?_, ?_, by rw [set_heap]; exact hH, by rw [set_heap]; exact hf⟩
  · intro t
    rw [set_env, heval]
    split
    · exact hx
    · exact RV.mono he hk _ _ (hI.env t)
  · intro t j p u hu
    rw [set_env] at hu
    rw [heval]
    split at hu
    · rename_i hd
      obtain ⟨h1, h2⟩ := hv j p u hu
      have hG : IsG ops j := ⟨i, o, p, ho, h1⟩
      have hlt := hreg.lt i o j p ho h1
      refine ⟨hG, by omega, fun hy => ?_⟩
      rw [if_pos hd]
      rw [hyst j hG (by omega)] at hy
      exact h2 hy
    · rename_i hd
      obtain ⟨h1, h2, h3⟩ := hI.gd t j p u hu
      refine ⟨h1, by omega, fun hy => ?_⟩
      rw [if_neg hd]
      rw [hyst j h1 (by omega)] at hy
      exact RV.mono he hk _ _ (h3 hy)
  · intro j oj h hlt hG hoj hg hy
    have hGh : IsG ops h.1 := ⟨j, oj, h.2, hoj, hg⟩
    have hhlt := hreg.lt j oj h.1 h.2 hoj hg
    by_cases hji : j = i
    · subst hji
      rw [ho] at hoj; cases hoj
      rw [hyst h.1 hGh (by omega)]
      refine hch h hg ?_
      obtain ⟨oj', t, h1, h2, h3⟩ := hreg.has j hG
      rw [ho] at h1; cases h1
      unfold yielded at hy
      simp only [ho, Option.bind_some, h2, Act.put] at hy
      have hlt2 := Nat.lt_of_lt_of_le (hreg.dst j o t ho h2) hI.size
      rw [Array.getElem?_setIfInBounds_self_of_lt hlt2] at hy
      cases x <;> simp at hy
      exact ⟨_, rfl⟩
    · rw [hyst j hG hji] at hy
      rw [hyst h.1 hGh (by omega)]
      exact hI.ch j oj h (by omega) hG hoj hg hy

end Go.Ev
