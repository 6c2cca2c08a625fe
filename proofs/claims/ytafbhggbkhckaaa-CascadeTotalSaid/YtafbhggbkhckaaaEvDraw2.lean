/- A part of the evaluator of Go code over small heaps and of its proof: no condition beyond those that each theorem names. -/
import Derived.Test.YtafbhggbkhckaaaEvDraw
set_option linter.unusedVariables false
set_option linter.unusedSimpArgs false
set_option linter.constructorNameAsVariable false
namespace Go.Ev
variable {T : TypeId → Type}

structure Facts (ops : Array Oper) (n : Nat) (L : List Nat) : Prop where
  pre : ∀ i o, ops[i]? = some o → (∀ e ∈ o.after.toList, e.on < i ∧ Region.binds .any e = true) ∧ L.getD i 0 = preOf L o.after.toList
  clash : ∀ i k o o', i < n → k < i → ops[i]? = some o → ops[k]? = some o' → clash o' o = true → (L.getD i 0).testBit k = true
  guard : ∀ i o j w, i < n → ops[i]? = some o → o.guard = some (j, w) → (L.getD i 0).testBit j = true
  tail : ∀ i o k, n ≤ i → k < i → ops[i]? = some o → (L.getD i 0).testBit k = true

theorem bitsAll_ok {m : Nat} : ∀ (n k : Nat), bitsAll m n = true → k < n → m.testBit k = true
  | 0, k, _, h => by omega
  | n + 1, k, h, hk => by
    simp only [bitsAll, Bool.and_eq_true] at h
    by_cases hkn : k = n
    · subst hkn; exact h.1
    · exact bitsAll_ok n k h.2 (by omega)

theorem drawOk_facts {ops : Array Oper} {n : Nat} (h : drawOk ops n = true) : Facts ops n (pres ops.toList []) := by
  unfold drawOk at h
  simp only at h
  rw [List.all_eq_true] at h
  have hget : ∀ (i : Nat) (o : Oper), ops[i]? = some o → (o, i) ∈ ops.toList.zipIdx := fun i o hi => by
    rw [List.mem_zipIdx_iff_getElem?]
    simpa using hi
  generalize pres ops.toList [] = L at h
  refine ⟨?_, ?_, ?_, ?_⟩
  · intro i o hi
    have := h _ (hget i o hi)
    simp only [Bool.and_eq_true] at this
    obtain ⟨⟨h1, h2⟩, _⟩ := this
    refine ⟨fun e he => ?_, Nat.eq_of_beq_eq_true h2⟩
    have := List.all_eq_true.1 h1 e he
    simpa [Nat.blt_eq] using this
  · intro i k o o' hi hk ho ho' hc
    have := h _ (hget i o ho)
    simp only [Bool.and_eq_true] at this
    have h3 := this.2
    have hb : i.blt n = true := by simpa [Nat.blt_eq] using hi
    simp only [hb, cond_true, Bool.and_eq_true] at h3
    have h4 := List.all_eq_true.1 h3.2 (o', k) (by
      rw [List.mem_zipIdx_iff_getElem?]
      simp only
      rw [List.getElem?_take_of_lt hk]
      simpa using ho')
    simpa [hc] using h4
  · intro i o j w hi ho hg
    have := h _ (hget i o ho)
    simp only [Bool.and_eq_true] at this
    have h3 := this.2
    have hb : i.blt n = true := by simpa [Nat.blt_eq] using hi
    simp only [hb, cond_true, Bool.and_eq_true] at h3
    have h4 := h3.1.2
    rw [hg] at h4
    exact h4
  · intro i o k hi hk ho
    have := h _ (hget i o ho)
    simp only [Bool.and_eq_true] at this
    have h3 := this.2
    have hb : i.blt n = false := by
      cases hb : i.blt n with
      | false => rfl
      | true => have : i < n := by simpa [Nat.blt_eq] using hb
                omega
    simp only [hb, cond_false] at h3
    exact bitsAll_ok i k h3 hk

theorem preOf_bit {L : List Nat} {j : Nat} : ∀ (es : List Edge) (s : Nat), (es.foldl (fun s e => s ||| ((1 <<< e.on) ||| L.getD e.on 0)) s).testBit j = true →
    s.testBit j = true ∨ ∃ e ∈ es, e.on = j ∨ (L.getD e.on 0).testBit j = true
  | [], s, h => .inl h
  | e :: es, s, h => by
    simp only [List.foldl_cons] at h
    rcases preOf_bit es _ h with h1 | ⟨e', h1, h2⟩
    · simp only [Nat.testBit_or, Bool.or_eq_true, Nat.one_shiftLeft, Nat.testBit_two_pow, decide_eq_true_eq] at h1
      rcases h1 with h1 | h1 | h1
      · exact .inl h1
      · exact .inr ⟨e, by simp, .inl h1⟩
      · exact .inr ⟨e, by simp, .inr h1⟩
    · exact .inr ⟨e', List.mem_cons_of_mem _ h1, h2⟩

/-- The last of the operations done that writes a temporary. -/
def Lw (ops : Array Oper) (dn : Nat → Prop) (t i : Nat) : Prop :=
  (i = 0 ∨ ∃ k o, i = k + 1 ∧ dn k ∧ ops[k]? = some o ∧ o.dst = some t) ∧ ∀ k o, dn k → i ≤ k → ops[k]? = some o → o.dst ≠ some t

structure DrawInv (c : Cfg T) (nt : Nat) (ops : Array Oper) (S : Nat → St T) (n : Nat) (L : List Nat) (dn : Nat → Prop) (η : Eta) (a : Act) (w : World) : Prop where
  def0 : a.defers = []
  size : nt ≤ a.tmps.size
  heap : RelH (rc c) η (S n).heap w
  fresh : ∀ id, (S n).heap.length ≤ id → η id = none
  low : ∀ i, i < n → ¬ dn i → ∀ id, (S i).heap.length ≤ id → id < (S (i + 1)).heap.length → η id = none
  env : ∀ t i, Lw ops dn t i → RV (rc c) η w ((S i).env t) (a.eval (.tmp t))
  gd : ∀ t i j p v, Lw ops dn t i → (S i).env t = .gd j p v → IsG ops j ∧ dn j ∧ (yielded ops a.tmps j = some p → RV (rc c) η w v (a.eval (.tmp t)))
  ch : ∀ (j : Nat) (o : Oper) (h : Nat × Bool), dn j → IsG ops j → ops[j]? = some o → o.guard = some h → (yielded ops a.tmps j).isSome = true → yielded ops a.tmps h.1 = some h.2
  cl : ∀ i, dn i → ∀ j, (L.getD i 0).testBit j = true → dn j
  bd : ∀ i, dn i → i < n

theorem trace_env {c : Cfg T} {ops : Array Oper} {n : Nat} {S : Nat → St T} (hT : Trace c ops n S) (t i : Nat) : ∀ (d : Nat), i + d ≤ n → (∀ k o, i ≤ k → k < i + d → ops[k]? = some o → o.dst ≠ some t) → (S (i + d)).env t = (S i).env t
  | 0, _, _ => rfl
  | d + 1, hle, h => by
    obtain ⟨o, ho, hs⟩ := hT.step (i + d) (by omega)
    have := hs.env t (h (i + d) o (by omega) (by omega) ho)
    rw [show i + (d + 1) = i + d + 1 by omega, this]
    exact trace_env hT t i d (by omega) fun k o h1 h2 => h k o h1 (by omega)

theorem trace_heap {c : Cfg T} {ops : Array Oper} {n : Nat} {S : Nat → St T} (hT : Trace c ops n S) (i : Nat) : ∀ (d : Nat), i + d ≤ n → ∃ tl, (S (i + d)).heap = (S i).heap ++ tl
  | 0, _ => ⟨[], by simp⟩
  | d + 1, hle => by
    obtain ⟨o, ho, hs⟩ := hT.step (i + d) (by omega)
    obtain ⟨tl, h1⟩ := trace_heap hT i d (by omega)
    obtain ⟨os, h2⟩ := hs.heap
    exact ⟨tl ++ os, by rw [show i + (d + 1) = i + d + 1 by omega, h2, h1]; simp⟩

theorem last_writer (ops : Array Oper) (t : Nat) : ∀ j, ∃ i, i ≤ j ∧ (i = 0 ∨ ∃ k o, i = k + 1 ∧ ops[k]? = some o ∧ o.dst = some t) ∧ ∀ k o, i ≤ k → k < j → ops[k]? = some o → o.dst ≠ some t
  | 0 => ⟨0, Nat.le_refl _, .inl rfl, fun k o h1 h2 => by omega⟩
  | j + 1 => by
    by_cases h : ∃ o, ops[j]? = some o ∧ o.dst = some t
    · obtain ⟨o, h1, h2⟩ := h
      exact ⟨j + 1, Nat.le_refl _, .inr ⟨j, o, rfl, h1, h2⟩, fun k o h1 h2 => by omega⟩
    · obtain ⟨i, h1, h2, h3⟩ := last_writer ops t j
      refine ⟨i, by omega, h2, fun k o g1 g2 g3 g4 => ?_⟩
      by_cases hk : k = j
      · subst hk; exact h ⟨o, g3, g4⟩
      · exact h3 k o g1 (by omega) g3 g4

theorem find_lw {c : Cfg T} {ops : Array Oper} {n : Nat} {S : Nat → St T} (hT : Trace c ops n S) {dn : Nat → Prop} {t j : Nat} (hj : j ≤ n) (h1 : ∀ k o, k < j → ops[k]? = some o → o.dst = some t → dn k)
    (h2 : ∀ k o, dn k → j ≤ k → ops[k]? = some o → o.dst ≠ some t) : ∃ i, i ≤ j ∧ Lw ops dn t i ∧ (S j).env t = (S i).env t := by
  obtain ⟨i, g1, g2, g3⟩ := last_writer ops t j
  refine ⟨i, g1, ⟨?_, ?_⟩, ?_⟩
  · rcases g2 with g2 | ⟨k, o, rfl, g4, g5⟩
    · exact .inl g2
    · exact .inr ⟨k, o, rfl, h1 k o (by omega) g4 g5, g4, g5⟩
  · intro k o hk hik ho hd
    rcases Nat.lt_or_ge k j with h | h
    · exact g3 k o hik h ho hd
    · exact h2 k o hk h ho hd
  · have := trace_env hT t i (j - i) (by omega) (fun k o h1 h2 => g3 k o h1 (by omega))
    rwa [show i + (j - i) = j by omega] at this

theorem New.relHx {R : Rc T} {η η' : Eta} {H os Hn tl : List (Obj T)} {w w' : World} (h : New R η η' H.length os w w') (hf : Fresh η H.length os.length) (hH : RelH R η Hn w) (hp : Hn = H ++ os ++ tl) :
    RelH R η' Hn w' := by
  have hH0 : RelH R η H w := ⟨fun id r o hr ho => hH.obj id r o hr (by
    have hlt := (List.getElem?_eq_some_iff.1 ho).1
    rw [hp, List.append_assoc, List.getElem?_append_left hlt]; exact ho), hH.lt, hH.inj, hH.nf, hH.fl⟩
  have h1 := h.relH hf hH0
  refine ⟨fun id r o hr ho => ?_, h1.lt, h1.inj, h1.nf, h1.fl⟩
  rcases Nat.lt_or_ge id (H ++ os).length with hlt | hge
  · rw [hp, List.getElem?_append_left hlt] at ho
    exact h1.obj id r o hr ho
  · simp only [List.length_append] at hge
    rw [h.keep id (by omega)] at hr
    exact (hH.obj id r o hr ho).mono h.evo (h.keeps hf) fun b hb => h.same b (hH.lt id r b hr hb)

end Go.Ev
