/- A part of the evaluator of Go code over small heaps and of its proof: no condition beyond those that each theorem names. -/
import Derived.Test.YtgoglplnajofnaaGreatDoorEvDraw
set_option linter.unusedVariables false
set_option linter.unusedSimpArgs false
set_option linter.constructorNameAsVariable false
namespace Go.Ev
variable {T : TypeId → Type}

structure Facts (ops : Array Oper) (L : List Nat) : Prop where
  pre : ∀ i o, ops[i]? = some o → (∀ e ∈ o.after.toList, Region.binds .any e = true → e.on < i) ∧ L.getD i 0 = preOf L o.after.toList
  clash : ∀ i k o o', k < i → ops[i]? = some o → ops[k]? = some o' → clash o' o = true → (L.getD i 0).testBit k = true
  guard : ∀ i o j w, ops[i]? = some o → o.guard = some (j, w) → (L.getD i 0).testBit j = true

theorem drawOk_facts {ops : Array Oper} (h : drawOk ops = true) : Facts ops (pres ops.toList []) := by
  unfold drawOk at h
  simp only at h
  rw [List.all_eq_true] at h
  have hget : ∀ (i : Nat) (o : Oper), ops[i]? = some o → (o, i) ∈ ops.toList.zipIdx := fun i o hi => by
    rw [List.mem_zipIdx_iff_getElem?]
    simpa using hi
  generalize pres ops.toList [] = L at h
  refine ⟨?_, ?_, ?_⟩
  · intro i o hi
    have := h _ (hget i o hi)
    simp only [Bool.and_eq_true] at this
    obtain ⟨⟨⟨h1, h2⟩, _⟩, _⟩ := this
    refine ⟨fun e he hb => ?_, Nat.eq_of_beq_eq_true h2⟩
    have := List.all_eq_true.1 h1 e he
    simpa [Nat.blt_eq, hb] using this
  · intro i k o o' hk ho ho' hc
    have := h _ (hget i o ho)
    simp only [Bool.and_eq_true] at this
    have h4 := List.all_eq_true.1 this.2 (o', k) (by
      rw [List.mem_zipIdx_iff_getElem?]
      simp only
      rw [List.getElem?_take_of_lt hk]
      simpa using ho')
    simpa [hc] using h4
  · intro i o j w ho hg
    have := h _ (hget i o ho)
    simp only [Bool.and_eq_true] at this
    have h4 := this.1.2
    rw [hg] at h4
    exact h4

theorem preOf_bit {L : List Nat} {j : Nat} : ∀ (es : List Edge) (s : Nat), (es.foldl (fun s e => bif Region.binds .any e then s ||| ((1 <<< e.on) ||| L.getD e.on 0) else s) s).testBit j = true →
    s.testBit j = true ∨ ∃ e ∈ es, Region.binds .any e = true ∧ (e.on = j ∨ (L.getD e.on 0).testBit j = true)
  | [], s, h => .inl h
  | e :: es, s, h => by
    simp only [List.foldl_cons] at h
    rcases preOf_bit es _ h with h1 | ⟨e', h1, h2⟩
    · cases hb : Region.binds .any e with
      | false => simp only [hb, cond_false] at h1; exact .inl h1
      | true =>
        simp only [hb, cond_true, Nat.testBit_or, Bool.or_eq_true, Nat.one_shiftLeft, Nat.testBit_two_pow, decide_eq_true_eq] at h1
        rcases h1 with h1 | h1 | h1
        · exact .inl h1
        · exact .inr ⟨e, by simp, hb, .inl h1⟩
        · exact .inr ⟨e, by simp, hb, .inr h1⟩
    · exact .inr ⟨e', List.mem_cons_of_mem _ h1, h2⟩

/-- The last of the operations done that writes a temporary. -/
def Lw (ops : Array Oper) (dn : Nat → Prop) (t i : Nat) : Prop :=
  (i = 0 ∨ ∃ k o, i = k + 1 ∧ dn k ∧ ops[k]? = some o ∧ o.dst = some t) ∧ ∀ k o, dn k → i ≤ k → ops[k]? = some o → o.dst ≠ some t

/-- A place in the text: of the operations that turn an object just those ahead of it are done. -/
def Cut (P : Nat → List Nat × List Nat) (dn : Nat → Prop) (id i : Nat) : Prop := (∀ k, k < i → id ∈ (P k).2 → dn k) ∧ ∀ k, i ≤ k → dn k → id ∉ (P k).2

structure Own (z : World) (η : Eta) (w : World) : Prop where
  lt : ∀ id r b, η id = some r → r.has b → b < w.heap.size
  inj : ∀ id id' r r' b, η id = some r → η id' = some r' → r.has b → r'.has b → id = id'
  nf : ∀ id r b, η id = some r → r.has b → ¬ η.far b
  fl : ∀ b, η.far b → b < w.heap.size
  old : ∀ b, b < z.heap.size → ¬ owns η b ∧ ¬ η.far b ∧ b < w.heap.size ∧ w.heap[b]? = z.heap[b]?

theorem Own.oldEvo {z : World} {η η' : Eta} {w w' : World} (h : Own z η w) (he : Evo η η' w w') :
    ∀ b, b < z.heap.size → ¬ owns η' b ∧ ¬ η'.far b ∧ b < w'.heap.size ∧ w'.heap[b]? = z.heap[b]? := fun b hb => by
  obtain ⟨h1, h2, h3, h4⟩ := h.old b hb
  exact ⟨fun ho => h1 (he.own b h3 ho), by rw [he.far]; exact h2, Nat.lt_of_lt_of_le h3 he.size, (he.same b h3 h1).trans h4⟩

structure DrawInv (c : Cfg T) (nt : Nat) (ops : Array Oper) (S : Nat → St T) (P : Nat → List Nat × List Nat) (L : List Nat) (dn : Nat → Prop) (η : Eta) (a : Act) (w : World) : Prop where
  def0 : a.defers = η.df
  size : nt ≤ a.tmps.size
  own : Own c.w0 η w
  rel : ∀ id r i o, i ≤ ops.size → η id = some r → Cut P dn id i → (S i).heap[id]? = some o → relObj (rc c) η w o r
  fresh : ∀ id, (S ops.size).heap.length ≤ id → η id = none
  low : ∀ i, i < ops.size → ¬ dn i → ∀ id, (S i).heap.length ≤ id → id < (S (i + 1)).heap.length → η id = none
  env : ∀ t i, Lw ops dn t i → RV (rc c) η w ((S i).env t) (a.eval (.tmp t))
  gd : ∀ t i j p v, Lw ops dn t i → (S i).env t = .gd j p v → IsG ops j ∧ dn j ∧ (yielded ops a.tmps j = some p → RV (rc c) η w v (a.eval (.tmp t)))
  ch : ∀ (j : Nat) (o : Oper) (h : Nat × Bool), dn j → IsG ops j → ops[j]? = some o → o.guard = some h → (yielded ops a.tmps j).isSome = true → yielded ops a.tmps h.1 = some h.2
  cl : ∀ i, dn i → ∀ j, (L.getD i 0).testBit j = true → dn j
  bd : ∀ i, dn i → i < ops.size

section
variable {N : Nat} {c : Cfg T} {ops : Array Oper} {L : List Nat} {S : Nat → St T} {P : Nat → List Nat × List Nat}

theorem trace_env (hT : Trace c ops N L S P) (t i : Nat) : ∀ (d : Nat), i + d ≤ ops.size → (∀ k o, i ≤ k → k < i + d → ops[k]? = some o → o.dst ≠ some t) → (S (i + d)).env t = (S i).env t
  | 0, _, _ => rfl
  | d + 1, hle, h => by
    have ho : ops[i + d]? = some ops[i + d] := Array.getElem?_eq_getElem (by omega)
    have hs := hT.step (i + d) _ ho
    have := hs.env t (h (i + d) _ (by omega) (by omega) ho)
    rw [show i + (d + 1) = i + d + 1 by omega, this]
    exact trace_env hT t i d (by omega) fun k o h1 h2 => h k o h1 (by omega)

theorem trace_len (hT : Trace c ops N L S P) {i j : Nat} (hij : i ≤ j) (hj : j ≤ ops.size) : (S i).heap.length ≤ (S j).heap.length := by
  obtain ⟨d, rfl⟩ := Nat.exists_eq_add_of_le hij
  induction d with
  | zero => exact Nat.le_refl _
  | succ d ih =>
    have ho : ops[i + d]? = some ops[i + d] := Array.getElem?_eq_getElem (by omega)
    exact Nat.le_trans (ih (by omega) (by omega)) (hT.step (i + d) _ ho).heap.1

/-- What nobody turns on the way is as it was. -/
theorem trace_same (hT : Trace c ops N L S P) {i id : Nat} : ∀ (d : Nat), i + d ≤ ops.size → id < (S i).heap.length → (∀ k, i ≤ k → k < i + d → id ∉ (P k).2) → (S (i + d)).heap[id]? = (S i).heap[id]?
  | 0, _, _, _ => rfl
  | d + 1, hle, hid, h => by
    have ho : ops[i + d]? = some ops[i + d] := Array.getElem?_eq_getElem (by omega)
    have hs := (hT.step (i + d) _ ho).heap
    have hl := trace_len hT (i := i) (j := i + d) (by omega) (by omega)
    rw [show i + (d + 1) = i + d + 1 by omega, hs.2.1 id (by omega) (h (i + d) (by omega) (by omega))]
    exact trace_same hT d (by omega) hid fun k h1 h2 => h k h1 (by omega)

theorem last_writer (ops : Array Oper) (t : Nat) : ∀ j, ∃ i, i ≤ j ∧ (i = 0 ∨ ∃ k o, i = k + 1 ∧ ops[k]? = some o ∧ o.dst = some t) ∧ ∀ k o, i ≤ k → k < j → ops[k]? = some o → o.dst ≠ some t
  | 0 => ⟨0, Nat.le_refl _, .inl rfl, fun k o h1 h2 => by omega⟩
  | j + 1 => by
    by_cases h : ∃ o, ops[j]? = some o ∧ o.dst = some t
    · obtain ⟨o, h1, h2⟩ := h
      exact ⟨j + 1, Nat.le_refl _, .inr ⟨j, o, rfl, h1, h2⟩, fun k o h1 h2 => by omega⟩
    · obtain ⟨i, h1, h2, h3⟩ := last_writer ops t j
      refine ⟨i, by omega, h2, fun k o g1 g2 g3 g4 => ?_⟩
      by_cases hk : k = j
      · subst hk; exact h ⟨o, g3, g4⟩
      · exact h3 k o g1 (by omega) g3 g4

theorem find_lw (hT : Trace c ops N L S P) {dn : Nat → Prop} {t j : Nat} (hj : j ≤ ops.size) (h1 : ∀ k o, k < j → ops[k]? = some o → o.dst = some t → dn k)
    (h2 : ∀ k o, dn k → j ≤ k → ops[k]? = some o → o.dst ≠ some t) : ∃ i, i ≤ j ∧ Lw ops dn t i ∧ (S j).env t = (S i).env t := by
  obtain ⟨i, g1, g2, g3⟩ := last_writer ops t j
  refine ⟨i, g1, ⟨?_, ?_⟩, ?_⟩
  · rcases g2 with g2 | ⟨k, o, rfl, g4, g5⟩
    · exact .inl g2
    · exact .inr ⟨k, o, rfl, h1 k o (by omega) g4 g5, g4, g5⟩
  · intro k o hk hik ho hd
    rcases Nat.lt_or_ge k j with h | h
    · exact g3 k o hik h ho hd
    · exact h2 k o hk h ho hd
  · have := trace_env hT t i (j - i) (by omega) (fun k o h1 h2 => g3 k o h1 (by omega))
    rwa [show i + (j - i) = j by omega] at this
end

/-- Names among some stay, others are lost. -/
def mF (F : List Nat) : Nat → Option Nat := fun i => bif inN F i then some i else none

mutual
theorem RV.unren {R : Rc T} {η : Eta} {w : World} (F : List Nat) : ∀ (v : V T) (x : Value), (ids v).all (inN F) = true → RV R η w (ren (mF F) v) x → RV R η w v x
  | .u, _, _, h => h
  | .gd _ _ _, _, _, _ => by simp only [RV]
  | .d _, _, _, h => h
  | .np, _, _, h => h
  | .pv _ _, _, _, h => h
  | .dptr _ _ _ _, _, _, h => h
  | .ptr id off, x, h, hr => by simp only [ids, List.all_cons, List.all_nil, Bool.and_true] at h; simpa [Ev.ren, mF, h] using hr
  | .aptr id _ _ _ _ _, x, h, hr => by simp only [ids, List.all_cons, List.all_nil, Bool.and_true] at h; simpa [Ev.ren, mF, h] using hr
  | .eptr id _ _, x, h, hr => by simp only [ids, List.all_cons, List.all_nil, Bool.and_true] at h; simpa [Ev.ren, mF, h] using hr
  | .sl id _, x, h, hr => by simp only [ids, List.all_cons, List.all_nil, Bool.and_true] at h; simpa [Ev.ren, mF, h] using hr
  | .mp id, x, h, hr => by simp only [ids, List.all_cons, List.all_nil, Bool.and_true] at h; simpa [Ev.ren, mF, h] using hr
  | .bp id, x, h, hr => by simp only [ids, List.all_cons, List.all_nil, Bool.and_true] at h; simpa [Ev.ren, mF, h] using hr
  | .gp _ _, _, _, h => h
  | .agg cs, x, h, hr => by
    simp only [ids] at h; simp only [Ev.ren, RV] at hr ⊢
    obtain ⟨xs, h1, h2⟩ := hr
    exact ⟨xs, h1, RVs.unren F cs xs h h2⟩
  | .tup cs, x, h, hr => by
    simp only [ids] at h; simp only [Ev.ren, RV] at hr ⊢
    obtain ⟨xs, h1, h2⟩ := hr
    exact ⟨xs, h1, RVs.unren F cs xs h h2⟩
  | .fn f cs, x, h, hr => by
    simp only [ids] at h; simp only [Ev.ren, RV] at hr ⊢
    obtain ⟨xs, h1, h2⟩ := hr
    exact ⟨xs, h1, RVs.unren F cs xs h h2⟩
theorem RVs.unren {R : Rc T} {η : Eta} {w : World} (F : List Nat) : ∀ (vs : List (V T)) (xs : List Value), (idsL vs).all (inN F) = true → RVs R η w (renL (mF F) vs) xs → RVs R η w vs xs
  | [], _, _, h => h
  | v :: vs, xs, h, hr => by
    simp only [idsL, List.all_append, Bool.and_eq_true] at h
    simp only [renL, RVs] at hr ⊢
    obtain ⟨x, xs', h1, h2, h3⟩ := hr
    exact ⟨x, xs', h1, RV.unren F v x h.1 h2, RVs.unren F vs xs' h.2 h3⟩
end

/-- What is known under one naming is known under another that has the same names. -/
theorem RV.over {R : Rc T} {η η' : Eta} {w : World} {F : List Nat} (hm : ∀ id r, id ∈ F → η id = some r → η' id = some r) (hok : ∀ b, isOk η b → b < w.heap.size → isOk η' b) {v : V T} {x : Value}
    (hv : (ids v).all (inN F) = true) (h : RV R η w v x) : RV R η' w v x := by
  refine RV.unren F v x hv (RV.ren (fun id k r hk hr => ?_) v x (.inl hok) h)
  unfold mF at hk
  cases hi : inN F id with
  | false => simp [hi] at hk
  | true => simp [hi] at hk; subst hk; exact hm id r (inN_iff.1 hi) hr

theorem relObj.over {c : Cfg T} (hfl : FlatOk c) {η η' : Eta} {w : World} {F : List Nat} (hm : ∀ id r, id ∈ F → η id = some r → η' id = some r) (hok : ∀ b, isOk η b → b < w.heap.size → isOk η' b) {o : Obj T} {r : RO}
    (hv : (objIds o).all (inN F) = true) (h : relObj (rc c) η w o r) : relObj (rc c) η' w o r := by
  have hr := relObj.ren (m := mF F) (η' := η') (fun id k r hk hr => by
    unfold mF at hk
    cases hi : inN F id with
    | false => simp [hi] at hk
    | true => simp [hi] at hk; subst hk; exact hm id r (inN_iff.1 hi) hr) hfl (.inl hok) h
  cases o with
  | box cs =>
    obtain ⟨b, ce, e, h1, h2, h3⟩ := hr
    exact ⟨b, ce, e, h1, h2, RVs.unren F cs _ hv h3⟩
  | dead => exact hr
  | unk => exact hr
  | arr t xs => exact hr
  | mp kt vt es => exact hr
  | bl s => exact hr

/-- Of all names those alone that are looked at. -/
def etaF (η : Eta) (F : List Nat) : Eta := ⟨fun id => bif inN F id then η id else none, fun b => η.far b ∨ ∃ id r, η id = some r ∧ r.has b ∧ id ∉ F, η.df⟩

theorem etaF_m (η : Eta) (F : List Nat) (id : Nat) : (etaF η F).m id = if id ∈ F then η.m id else none := by
  simp only [etaF]
  by_cases h : id ∈ F
  · rw [inN_iff.2 h, if_pos h]; rfl
  · rw [inN_false.2 h, if_neg h]; rfl

theorem etaF_owns {η : Eta} {F : List Nat} {b : Nat} (h : owns (etaF η F) b) : ∃ id r, id ∈ F ∧ η id = some r ∧ r.has b := by
  obtain ⟨id, r, h1, h2⟩ := h
  rw [etaF_m] at h1
  split at h1
  · rename_i h3; exact ⟨id, r, h3, h1, h2⟩
  · cases h1

theorem etaF_ok {η : Eta} {F : List Nat} {b : Nat} (h : isOk η b) : isOk (etaF η F) b := by
  refine ⟨fun ho => ?_, fun hf => ?_⟩
  · obtain ⟨id, r, _, h1, h2⟩ := etaF_owns ho; exact h.1 ⟨id, r, h1, h2⟩
  · rcases hf with hf | ⟨id, r, h1, h2, _⟩
    · exact h.2 hf
    · exact h.1 ⟨id, r, h1, h2⟩

theorem closedO_mem {F : List Nat} : ∀ {os : List (Obj T)}, closedO F os = true → ∀ o ∈ os, (objIds o).all (inN F) = true
  | [], _, o, h => by simp at h
  | x :: os, h, o, hm => by
    simp only [closedO, Bool.and_eq_true] at h
    rcases List.mem_cons.1 hm with rfl | hm
    · exact h.1
    · exact closedO_mem h.2 o hm

theorem closedO_at {F G : List Nat} {H : List (Obj T)} (h : closedO F (G.map fun id => H.getD id .dead) = true) {id : Nat} (hid : id ∈ G) {o : Obj T} (ho : H[id]? = some o) : (objIds o).all (inN F) = true := by
  refine closedO_mem h o (List.mem_map.2 ⟨id, hid, ?_⟩)
  simp [ho]

/-- A small heap of which some objects alone are looked at. -/
theorem etaF_relH {c : Cfg T} (hfl : FlatOk c) {η : Eta} {H : List (Obj T)} {w : World} {F : List Nat} (hO : Own c.w0 η w) (hrel : ∀ id r o, id ∈ F → η id = some r → H[id]? = some o → relObj (rc c) η w o r)
    (hcl : closedO F (F.map fun id => H.getD id .dead) = true) : RelH (rc c) (etaF η F) (maskH F 0 H) w where
  obj := fun id r o hr ho => by
    rw [etaF_m] at hr
    split at hr
    · rename_i hid
      rw [maskH_get, Nat.zero_add, inN_iff.2 hid] at ho
      simp only [cond_true, Option.map_id'] at ho
      exact relObj.over hfl (fun id' r' h1 h2 => by rw [etaF_m, if_pos h1]; exact h2) (fun b hb _ => etaF_ok hb) (closedO_at hcl hid ho) (hrel id r o hid hr ho)
    · cases hr
  lt := fun id r b hr hb => by
    obtain ⟨id', r', _, h1, h2⟩ := etaF_owns ⟨id, r, hr, hb⟩; exact hO.lt id' r' b h1 h2
  inj := fun id id' r r' b hr hr' hb hb' => by
    rw [etaF_m] at hr hr'
    split at hr <;> split at hr'
    · exact hO.inj id id' r r' b hr hr' hb hb'
    all_goals first | cases hr' | cases hr
  nf := fun id r b hr hb hf => by
    rw [etaF_m] at hr
    split at hr
    · rename_i hid
      rcases hf with hf | ⟨id', r', h1, h2, h3⟩
      · exact hO.nf id r b hr hb hf
      · have := hO.inj id id' r r' b hr h1 hb h2
        subst this; exact h3 hid
    · cases hr
  fl := fun b hf => by
    rcases hf with hf | ⟨id', r', h1, h2, h3⟩
    · exact hO.fl b hf
    · exact hO.lt id' r' b h1 h2
  old := fun b hb => by
    obtain ⟨h1, h2, h3, h4⟩ := hO.old b hb
    obtain ⟨h5, h6⟩ := etaF_ok (F := F) (b := b) ⟨h1, h2⟩
    exact ⟨h5, h6, h3, h4⟩

/-- All names again, behind what was done under those that were looked at; n: how many names there were, m: how many there are. -/
def etaB (η η' : Eta) (F : List Nat) (n m : Nat) : Eta := ⟨fun id => bif inN F id || (n.ble id && id.blt m) then η' id else η id, η.far, η.df⟩

theorem etaB_m (η η' : Eta) (F : List Nat) (n m id : Nat) : (etaB η η' F n m).m id = if id ∈ F ∨ (n ≤ id ∧ id < m) then η'.m id else η.m id := by
  simp only [etaB]
  have : (inN F id || (n.ble id && id.blt m)) = true ↔ (id ∈ F ∨ (n ≤ id ∧ id < m)) := by
    simp [inN_iff, Nat.blt_eq]
  by_cases h : id ∈ F ∨ (n ≤ id ∧ id < m)
  · rw [this.2 h, if_pos h]; rfl
  · rw [if_neg h]
    cases hb : (inN F id || (n.ble id && id.blt m)) with
    | true => exact absurd (this.1 hb) h
    | false => rfl

structure Turned (c : Cfg T) (η η' : Eta) (F : List Nat) (n m : Nat) (H' : List (Obj T)) (w w' : World) : Prop where
  evo : Evo η η' w w'
  keeps : Keeps η η'
  own : Own c.w0 η' w'
  other : ∀ id, id ∉ F → ¬ (n ≤ id ∧ id < m) → η' id = η id ∧ ∀ r b, η id = some r → r.has b → w'.heap[b]? = w.heap[b]?
  rel : ∀ id r o, id ∈ F ∨ (n ≤ id ∧ id < m) → η' id = some r → H'[id]? = some o → relObj (rc c) η' w' o r

theorem turned {c : Cfg T} (hfl : FlatOk c) {η η1 : Eta} {w w' : World} {F : List Nat} {n : Nat} {H' : List (Obj T)} (hO : Own c.w0 η w) (hF : ∀ id ∈ F, id < n) (hfr : ∀ id, n ≤ id → id < H'.length → η id = none)
    (he : Evo (etaF η F) η1 w w') (hk : Keeps (etaF η F) η1) (hH : RelH (rc c) η1 H' w') {G : List Nat} (hG : ∀ id, id ∈ G ↔ id ∈ F ∨ (n ≤ id ∧ id < H'.length))
    (hcl : closedO G (G.map fun id => H'.getD id .dead) = true) :
    Turned c η (etaB η η1 F n H'.length) F n H'.length H' w w' ∧ (∀ b, isOk η1 b → isOk (etaB η η1 F n H'.length) b) := by
  have hfar : η1.far = (etaF η F).far := he.far
  have hnot : ∀ id r b, η id = some r → r.has b → id ∉ F → ¬ owns (etaF η F) b := by
    intro id r b hr hb hid ho
    obtain ⟨id', r', h1, h2, h3⟩ := etaF_owns ho
    have := hO.inj id id' r r' b hr h2 hb h3
    subst this; exact hid h1
  have hok : ∀ b, isOk η1 b → isOk (etaB η η1 F n H'.length) b := by
    intro b hb
    refine ⟨?_, fun hf => hb.2 (by rw [hfar]; exact .inl hf)⟩
    rintro ⟨id, r, hr, hh⟩
    rw [etaB_m] at hr
    split at hr
    · exact hb.1 ⟨id, r, hr, hh⟩
    · rename_i hn
      exact hb.2 (by rw [hfar]; exact .inr ⟨id, r, hr, hh, fun h => hn (.inl h)⟩)
  have hmix : ∀ id r id' r' b, η1 id = some r → r.has b → η id' = some r' → r'.has b → id' ∉ F → False := by
    intro id r id' r' b hr hb hr' hb' hid'
    exact hH.nf id r b hr hb (by rw [hfar]; exact .inr ⟨id', r', hr', hb', hid'⟩)
  have hE : Evo η (etaB η η1 F n H'.length) w w' := by
    refine ⟨he.size, fun b hb hno => he.same b hb fun ho => ?_, fun b hb ho => ?_, rfl, rfl, he.rest⟩
    · obtain ⟨id, r, _, h1, h2⟩ := etaF_owns ho; exact hno ⟨id, r, h1, h2⟩
    · obtain ⟨id, r, hr, hh⟩ := ho
      rw [etaB_m] at hr
      split at hr
      · obtain ⟨id', r', _, h1, h2⟩ := etaF_owns (he.own b hb ⟨id, r, hr, hh⟩); exact ⟨id', r', h1, h2⟩
      · exact ⟨id, r, hr, hh⟩
  refine ⟨⟨hE, ?_, ?_, ?_, ?_⟩, hok⟩
  · intro id r hr
    unfold Now
    rw [etaB_m]
    split
    · rename_i h
      rcases h with h | h
      · exact hk id r (by rw [etaF_m, if_pos h]; exact hr)
      · rw [hfr id h.1 h.2] at hr; cases hr
    · exact .inl hr
  · refine ⟨?_, ?_, ?_, ?_, ?_⟩
    · intro id r b hr hb
      rw [etaB_m] at hr
      split at hr
      · exact hH.lt id r b hr hb
      · exact Nat.lt_of_lt_of_le (hO.lt id r b hr hb) he.size
    · intro id id' r r' b hr hr' hb hb'
      rw [etaB_m] at hr hr'
      split at hr <;> split at hr'
      · exact hH.inj id id' r r' b hr hr' hb hb'
      · rename_i h1 h2; exact (hmix id r id' r' b hr hb hr' hb' fun h => h2 (.inl h)).elim
      · rename_i h1 h2; exact (hmix id' r' id r b hr' hb' hr hb fun h => h1 (.inl h)).elim
      · exact hO.inj id id' r r' b hr hr' hb hb'
    · intro id r b hr hb hf
      rw [etaB_m] at hr
      split at hr
      · exact hH.nf id r b hr hb (by rw [hfar]; exact .inl hf)
      · exact hO.nf id r b hr hb hf
    · intro b hf; exact Nat.lt_of_lt_of_le (hO.fl b hf) he.size
    · exact hO.oldEvo hE
  · intro id h1 h2
    refine ⟨by rw [etaB_m, if_neg (by rintro (h | h); exact h1 h; exact h2 h)], fun r b hr hb => ?_⟩
    exact he.same b (hO.lt id r b hr hb) (hnot id r b hr hb h1)
  · intro id r o hid hr ho
    rw [etaB_m, if_pos hid] at hr
    refine relObj.over hfl (F := G) (fun id' r' h1 h2 => by rw [etaB_m, if_pos ((hG id').1 h1)]; exact h2) (fun b hb _ => hok b hb) (closedO_at hcl ((hG id).2 hid) ho) (hH.obj id r o hr ho)

end Go.Ev
