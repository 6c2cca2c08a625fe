/- A part of the evaluator of Go code over small heaps and of its proof: no condition beyond those that each theorem names. -/
import Derived.Test.YtgoglplnajofnaaGreatDoorEvCode
set_option linter.unusedVariables false
set_option linter.unusedSimpArgs false
set_option linter.constructorNameAsVariable false
namespace Go.Ev
variable {T : TypeId → Type}

theorem inN_iff {l : List Nat} {i : Nat} : inN l i = true ↔ i ∈ l := by
  unfold inN
  rw [List.any_eq_true]
  constructor
  · rintro ⟨x, hx, hb⟩; rw [← Nat.eq_of_beq_eq_true hb]; exact hx
  · intro h; exact ⟨i, h, by simp⟩

theorem inN_false {l : List Nat} {i : Nat} : inN l i = false ↔ i ∉ l := by
  rw [← Bool.not_eq_true, inN_iff]

theorem mem_numsFrom : ∀ {m n i : Nat}, i ∈ numsFrom n m ↔ n ≤ i ∧ i < n + m
  | 0, n, i => by simp [numsFrom]
  | m + 1, n, i => by simp only [numsFrom, List.mem_cons, mem_numsFrom (m := m)]; omega

theorem mem_news {s : St T} {n i : Nat} : i ∈ news s n ↔ s.heap.length ≤ i ∧ i < s.heap.length + n := mem_numsFrom

theorem maskH_get (F : List Nat) : ∀ (H : List (Obj T)) (i k : Nat), (maskH F i H)[k]? = (H[k]?).map fun o => bif inN F (i + k) then o else .unk
  | [], i, k => by simp [maskH]
  | o :: os, i, 0 => by simp [maskH]
  | o :: os, i, k + 1 => by simp only [maskH, List.getElem?_cons_succ, maskH_get F os, show i + 1 + k = i + (k + 1) by omega]

theorem maskH_length (F : List Nat) : ∀ (H : List (Obj T)) (i : Nat), (maskH F i H).length = H.length
  | [], i => rfl
  | o :: os, i => by simp only [maskH, List.length_cons, maskH_length F os]

theorem mergeH_length (F : List Nat) : ∀ (H N : List (Obj T)) (i : Nat), H.length ≤ N.length → (mergeH F i H N).length = N.length
  | [], N, i, _ => rfl
  | o :: os, [], i, h => by simp at h
  | o :: os, n :: ns, i, h => by simp only [mergeH, List.length_cons, mergeH_length F os ns (i + 1) (by simpa using h)]

theorem mergeH_get (F : List Nat) : ∀ (H N : List (Obj T)) (i k : Nat), H.length ≤ N.length → (mergeH F i H N)[k]? = if H.length ≤ k ∨ inN F (i + k) = true then N[k]? else H[k]?
  | [], N, i, k, _ => by simp [mergeH]
  | o :: os, [], i, k, h => by simp at h
  | o :: os, n :: ns, i, 0, h => by
    simp only [mergeH, List.getElem?_cons_zero, List.length_cons, Nat.add_zero]
    cases inN F i <;> simp
  | o :: os, n :: ns, i, k + 1, h => by
    simp only [mergeH, List.getElem?_cons_succ, mergeH_get F os ns (i + 1) k (by simpa using h), List.length_cons, show i + 1 + k = i + (k + 1) by omega, Nat.add_le_add_iff_right]

/-- One operation of a drawn region, as the text has it: what it looks at, what it turns, the state behind it. -/
inductive DStep (c : Cfg T) (ops : Array Oper) (s : St T) (o : Oper) : Bool → List Nat × List Nat → St T → Prop
  | val (F : List Nat) (os : List (Obj T)) (v : V T) (hg : o.guard = none) (he : effE c ops (maskD s o F) [] o = some (.val true os v)) :
      DStep c ops s o false (F, news s os.length) (St.set ⟨s.env, s.heap ++ os⟩ o.dst (strip v))
  | callq (F : List Nat) (e : CallE T) (q : e.τ → Bool) (g : e.τ → Option (V T)) (x : e.τ) (hg : o.guard = none) (he : effE c ops (maskD s o F) [] o = some (.call e q g)) (hx : e.val = some x) (hp : e.pan x = false) (hq : q x = true) :
      DStep c ops s o false (F, news s ((e.enc x).2.length - s.heap.length)) (St.set ⟨s.env, s.heap ++ (e.enc x).2.drop s.heap.length⟩ o.dst (strip (pack (e.enc x).1)))
  | wr (F : List Nat) (H : List (Obj T)) (v : V T) (hg : o.guard = none) (he : effE c ops (maskD s o F) [] o = some (.wr true H v)) (hlen : s.heap.length ≤ H.length) (hcl : closedS s o F = true)
      (hv : (ids v).all (inN (F ++ news s (H.length - s.heap.length))) = true)
      (hH : closedO (F ++ news s (H.length - s.heap.length)) ((F ++ news s (H.length - s.heap.length)).map fun id => H.getD id .dead) = true) :
      DStep c ops s o false (F, F ++ news s (H.length - s.heap.length)) (St.set ⟨s.env, mergeH F 0 s.heap H⟩ o.dst (strip v))
  | callw (F : List Nat) (e : CallE T) (q : e.τ → Bool) (g : e.τ → Option (V T)) (x : e.τ) (hg : o.guard = none) (he : effE c ops (maskD s o F) [] o = some (.call e q g)) (hx : e.val = some x) (hp : e.pan x = false)
      (hlen : s.heap.length ≤ (e.enc x).2.length) (hcl : closedS s o F = true)
      (hv : (ids (pack (e.enc x).1)).all (inN (F ++ news s ((e.enc x).2.length - s.heap.length))) = true)
      (hH : closedO (F ++ news s ((e.enc x).2.length - s.heap.length)) ((F ++ news s ((e.enc x).2.length - s.heap.length)).map fun id => (e.enc x).2.getD id .dead) = true) :
      DStep c ops s o false (F, F ++ news s ((e.enc x).2.length - s.heap.length)) (St.set ⟨s.env, mergeH F 0 s.heap (e.enc x).2⟩ o.dst (strip (pack (e.enc x).1)))
  | gval (F : List Nat) (gd : Nat × Bool) (q ok : Bool) (v : V T) (hg : o.guard = some gd) (hl : lets ops s (chain ops 20 gd) = some q) (he : effE c ops (maskD s o F) (chain ops 20 gd) o = some (.val ok [] v))
      (hok : (ok || !q) = true) : DStep c ops s o false (F, []) (St.set s o.dst (.gd gd.1 gd.2 (strip v)))
  | gcall (F : List Nat) (gd : Nat × Bool) (q : Bool) (e : CallE T) (q' : e.τ → Bool) (g : e.τ → Option (V T)) (x : e.τ) (v : V T) (hg : o.guard = some gd) (hl : lets ops s (chain ops 20 gd) = some q)
      (he : effE c ops (maskD s o F) (chain ops 20 gd) o = some (.call e q' g)) (hx : cond q e.val (some e.dflt) = some x) (hv : g x = some v) : DStep c ops s o false (F, []) (St.set s o.dst (.gd gd.1 gd.2 (strip v)))
  | halt (F : List Nat) : DStep c ops s o true (F, []) s

theorem cond_some {α : Type} {b : Bool} {x : Option α} {r : α} (h : cond b x none = some r) : b = true ∧ x = some r := by
  cases b with
  | true => exact ⟨rfl, h⟩
  | false => cases h

/-- An operation of a drawn region that panics, as the text has it. -/
def Halt (c : Cfg T) (ops : Array Oper) (L : List Nat) {ρ : Type} (kp : V T → St T → Option ρ) (r : ρ) (i : Nat) (fs : List (List Nat × List Nat)) (o : Oper) (s : St T) : Prop :=
  ∃ (F : List Nat) (e : CallE T) (q : e.τ → Bool) (g : e.τ → Option (V T)) (x : e.τ), o.guard = none ∧ effE c ops (maskD s o F) [] o = some (.call e q g) ∧ e.val = some x ∧ e.pan x = true ∧
    fpsOk (L.getD i 0) 0 fs (F, []) = true ∧ laterB L i ops.size = true ∧ kp (e.penc x) ⟨fun _ => .u, e.penh⟩ = some r

theorem runD_step {c : Cfg T} {ops : Array Oper} {L : List Nat} {ρ : Type} {r : ρ} {i : Nat} {fs : List (List Nat × List Nat)} {o : Oper} {rest : List Oper} {s : St T} {K : St T → Option ρ} {kp : V T → St T → Option ρ}
    (h : runD c ops L kp i fs (o :: rest) s K = some r) : (∃ p s', DStep c ops s o false p s' ∧ fpsOk (L.getD i 0) 0 fs p = true ∧ runD c ops L kp (i + 1) (fs ++ [p]) rest s' K = some r) ∨ Halt c ops L kp r i fs o s := by
  unfold runD at h
  split at h
  · rename_i hg
    split at h
    · cases h
    · rename_i ok os v he
      obtain ⟨h1, h⟩ := cond_some h
      obtain ⟨rfl, h⟩ := cond_some h
      exact .inl ⟨_, _, .val _ os v hg he, h1, h⟩
    · rename_i ok H v he
      obtain ⟨h1, h⟩ := cond_some h
      obtain ⟨rfl, h⟩ := cond_some h
      simp only [Bool.and_eq_true] at h1
      obtain ⟨⟨⟨⟨h0, h1⟩, h2⟩, h3⟩, h4⟩ := h1
      exact .inl ⟨_, _, .wr _ H v hg he (Nat.le_of_ble_eq_true h0) h2 h3 h4, h1, h⟩
    · cases h
    · rename_i e q g he
      obtain ⟨x, hx, h⟩ := Option.bind_eq_some_iff.1 h
      cases hp : e.pan x with
      | true =>
        rw [hp, cond_true] at h
        obtain ⟨h1, h⟩ := cond_some h
        simp only [Bool.and_eq_true] at h1
        exact .inr ⟨_, e, q, g, x, hg, he, hx, hp, h1.1, h1.2, h⟩
      | false =>
      rw [hp, cond_false] at h
      cases hq : q x with
      | true =>
        simp only [hq, cond_true] at h
        obtain ⟨h1, h⟩ := cond_some h
        exact .inl ⟨_, _, .callq _ e q g x hg he hx hp hq, h1, h⟩
      | false =>
        simp only [hq, cond_false] at h
        obtain ⟨h1, h⟩ := cond_some h
        simp only [Bool.and_eq_true] at h1
        obtain ⟨⟨⟨⟨h0, h1⟩, h2⟩, h3⟩, h4⟩ := h1
        exact .inl ⟨_, _, .callw _ e q g x hg he hx hp (Nat.le_of_ble_eq_true h0) h2 h3 h4, h1, h⟩
  · rename_i gd hg
    split at h
    · rename_i q ok v hl he
      obtain ⟨h1, h⟩ := cond_some h
      obtain ⟨h2, h⟩ := cond_some h
      exact .inl ⟨_, _, .gval _ gd q ok v hg hl he h2, h1, h⟩
    · rename_i q e q' g hl he
      obtain ⟨x, hx, h⟩ := Option.bind_eq_some_iff.1 h
      split at h
      · rename_i v hv
        obtain ⟨h1, h⟩ := cond_some h
        exact .inl ⟨_, _, .gcall _ gd q e q' g x v hg hl he hx hv, h1, h⟩
      · cases h
    · cases h

theorem fpsOk_get {p : Nat} {g : List Nat × List Nat} : ∀ {fs : List (List Nat × List Nat)} {n : Nat}, fpsOk p n fs g = true → ∀ (k : Nat) (f : List Nat × List Nat), fs[k]? = some f →
    p.testBit (n + k) = true ∨ (apartN f.2 g.1 = true ∧ apartN g.2 f.1 = true)
  | [], n, _, k, f, hk => by simp at hk
  | f0 :: fs, n, h, 0, f, hk => by
    simp at hk; subst hk
    simp only [fpsOk, Bool.and_eq_true, Bool.or_eq_true] at h
    exact h.1
  | f0 :: fs, n, h, k + 1, f, hk => by
    simp only [fpsOk, Bool.and_eq_true] at h
    have := fpsOk_get h.2 k f (by simpa using hk)
    rwa [show n + 1 + k = n + (k + 1) by omega] at this

theorem apartN_iff {a b : List Nat} : apartN a b = true ↔ ∀ i ∈ a, i ∉ b := by
  unfold apartN
  rw [List.all_eq_true]
  constructor
  · intro h i hi hb
    have := h i hi
    rw [inN_iff.2 hb] at this
    cases this
  · intro h i hi
    rw [inN_false.2 (h i hi)]; rfl

theorem fpsOk_nil (p : Nat) : ∀ (n : Nat) (fs : List (List Nat × List Nat)), fpsOk p n fs ([], []) = true
  | _, [] => rfl
  | n, f :: fs => by
    have h1 : apartN f.2 [] = true := by unfold apartN; rw [List.all_eq_true]; intro i _; rfl
    have h2 : apartN [] f.1 = true := rfl
    simp only [fpsOk, h1, h2, fpsOk_nil p (n + 1) fs, Bool.and_self, Bool.or_true]

/-- The states one behind the other, as the text has it; from N on nothing runs. -/
structure Trace (c : Cfg T) (ops : Array Oper) (N : Nat) (L : List Nat) (S : Nat → St T) (P : Nat → List Nat × List Nat) : Prop where
  step : ∀ (i : Nat) (o : Oper), ops[i]? = some o → DStep c ops (S i) o (decide (N ≤ i)) (P i) (S (i + 1))
  apart : ∀ i k, k < i → i < ops.size → (L.getD i 0).testBit k = true ∨ ((∀ x ∈ (P k).2, x ∉ (P i).1) ∧ ∀ x ∈ (P i).2, x ∉ (P k).1)
  ng : ∀ t j p v, (S 0).env t ≠ .gd j p v

/-- How a run as the text has it ends. -/
def EndOf (c : Cfg T) (ops : Array Oper) (N : Nat) (L : List Nat) (S : Nat → St T) (P : Nat → List Nat × List Nat) {ρ : Type} (kp : V T → St T → Option ρ) (K : St T → Option ρ) (r : ρ) : Prop :=
  (N = ops.size ∧ K (S ops.size) = some r) ∨ ∃ (o : Oper) (F : List Nat) (e : CallE T) (q : e.τ → Bool) (g : e.τ → Option (V T)) (x : e.τ), ops[N]? = some o ∧ P N = (F, []) ∧ o.guard = none ∧ effE c ops (maskD (S N) o F) [] o = some (.call e q g) ∧
    e.val = some x ∧ e.pan x = true ∧ laterB L N ops.size = true ∧ kp (e.penc x) ⟨fun _ => .u, e.penh⟩ = some r ∧ S ops.size = S N

theorem runD_trace {c : Cfg T} {ops : Array Oper} {L : List Nat} {ρ : Type} {r : ρ} {K : St T → Option ρ} {kp : V T → St T → Option ρ} : ∀ (l : List Oper) (i : Nat) (fs : List (List Nat × List Nat)) (s : St T), ops.toList.drop i = l → fs.length = i →
    i ≤ ops.size → runD c ops L kp i fs l s K = some r → ∃ (N : Nat) (S : Nat → St T) (P : Nat → List Nat × List Nat), S i = s ∧ (∀ k, k < i → fs[k]? = some (P k)) ∧ i ≤ N ∧
      (∀ k o, i ≤ k → ops[k]? = some o → DStep c ops (S k) o (decide (N ≤ k)) (P k) (S (k + 1)) ∧ fpsOk (L.getD k 0) 0 ((List.range k).map P) (P k) = true) ∧ EndOf c ops N L S P kp K r
  | [], i, fs, s, hl, hf, hi, h => by
    have hi' : i = ops.size := by have := List.drop_eq_nil_iff.1 hl; simp at this; omega
    subst hi'
    refine ⟨ops.size, fun _ => s, fun k => fs.getD k ([], []), rfl, fun k hk => ?_, Nat.le_refl _, fun k o hk ho => ?_, .inl ⟨rfl, by simpa [runD] using h⟩⟩
    · have hk' : k < fs.length := by omega
      simp [hk']
    · have := (Array.getElem?_eq_some_iff.1 ho).1; omega
  | o :: rest, i, fs, s, hl, hf, hi, h => by
    have ho : ops[i]? = some o := by
      have : (ops.toList.drop i)[0]? = some o := by rw [hl]; rfl
      simpa using this
    have hrest : ops.toList.drop (i + 1) = rest := by rw [← List.tail_drop, hl]; rfl
    have hlt := (Array.getElem?_eq_some_iff.1 ho).1
    rcases runD_step h with ⟨p, s', h1, h2, h3⟩ | ⟨F, e, q, g, x, hg, he, hx, hp, hfp, hlat, hkp⟩
    · obtain ⟨N, S, P, g1, g2, gN, g3, g4⟩ := runD_trace rest (i + 1) (fs ++ [p]) s' hrest (by simp [hf]) hlt h3
      have hP : P i = p := by
        have := g2 i (by omega)
        rw [List.getElem?_append_right (by omega), hf] at this
        simpa using this.symm
      have hfs : (List.range i).map P = fs := by
        apply List.ext_getElem? ; intro k
        by_cases hk : k < i
        · have := g2 k (by omega)
          rw [List.getElem?_append_left (by omega)] at this
          rw [this]; simp [hk]
        · rw [List.getElem?_eq_none (by simp; omega), List.getElem?_eq_none (by omega)]
      refine ⟨N, fun k => if k = i then s else S k, P, by simp, fun k hk => ?_, by omega, fun k o' hk ho' => ?_, ?_⟩
      · have := g2 k (by omega)
        rwa [List.getElem?_append_left (by omega)] at this
      · by_cases hki : k = i
        · subst hki
          rw [ho] at ho'; cases ho'
          simp only [if_true]
          rw [if_neg (by omega), g1, hP, hfs, decide_eq_false (by omega)]
          exact ⟨h1, h2⟩
        · simp only
          rw [if_neg hki, if_neg (by omega)]
          exact g3 k o' (by omega) ho'
      · unfold EndOf at g4 ⊢
        simp only
        rw [if_neg (by omega), if_neg (by omega)]
        exact g4
    · let P : Nat → List Nat × List Nat := fun k => if k < i then fs.getD k ([], []) else if k = i then (F, []) else ([], [])
      have hPl : ∀ k, k < i → fs[k]? = some (P k) := fun k hk => by
        have hk' : k < fs.length := by omega
        simp [P, hk, hk']
      have hPi : P i = (F, []) := by simp [P]
      have hfs : (List.range i).map P = fs := by
        apply List.ext_getElem? ; intro k
        by_cases hk : k < i
        · rw [hPl k hk]; simp [hk]
        · rw [List.getElem?_eq_none (by simp; omega), List.getElem?_eq_none (by omega)]
      refine ⟨i, fun _ => s, P, rfl, hPl, Nat.le_refl _, fun k o' hk ho' => ?_, .inr ⟨o, F, e, q, g, x, ho, hPi, hg, he, hx, hp, hlat, hkp, rfl⟩⟩
      rw [decide_eq_true hk]
      by_cases hki : k = i
      · subst hki
        rw [hPi, hfs]
        exact ⟨.halt F, hfp⟩
      · have : P k = ([], []) := by
          show (if k < i then _ else _) = _
          rw [if_neg (by omega), if_neg hki]
        rw [this]
        exact ⟨.halt [], fpsOk_nil _ _ _⟩

theorem runD_tr {c : Cfg T} {ops : Array Oper} {L : List Nat} {ρ : Type} {r : ρ} {K : St T → Option ρ} {kp : V T → St T → Option ρ} {s : St T} (hng : ∀ t j p v, s.env t ≠ .gd j p v) (h : runD c ops L kp 0 [] ops.toList s K = some r) :
    ∃ N S P, S 0 = s ∧ Trace c ops N L S P ∧ EndOf c ops N L S P kp K r := by
  obtain ⟨N, S, P, h1, h2, _, h3, h4⟩ := runD_trace ops.toList 0 [] s rfl rfl (Nat.zero_le _) h
  refine ⟨N, S, P, h1, ⟨fun i o ho => (h3 i o (Nat.zero_le _) ho).1, fun i k hk hi => ?_, by rw [h1]; exact hng⟩, h4⟩
  have hf := (h3 i ops[i] (Nat.zero_le _) (Array.getElem?_eq_getElem hi)).2
  have := fpsOk_get hf k (P k) (by simp [hk])
  rw [Nat.zero_add] at this
  rcases this with h | ⟨h5, h6⟩
  · exact .inl h
  · exact .inr ⟨apartN_iff.1 h5, apartN_iff.1 h6⟩

theorem builtin_call {c : Cfg T} {H : List (Obj T)} {b : Builtin} {ts : Array TypeId} {args : List (V T)} {e : CallE T} {q : e.τ → Bool} {g : e.τ → Option (V T)} (h : builtinV c H b ts args = some (.call e q g)) : False := by
  unfold builtinV at h
  repeat' split at h
  all_goals first | cases h | simp at h

theorem bif_some.{u} {α : Type u} {b : Bool} {y : Option α} {x : α} (h : (bif b then y else none) = some x) : y = some x := by
  cases b with
  | true => exact h
  | false => cases h

theorem bif_or.{u} {α : Type u} {b : Bool} {x y z : α} (h : (bif b then x else y) = z) : x = z ∨ y = z := by
  cases b with
  | true => exact .inl h
  | false => exact .inr h

theorem convV_call {c : Cfg T} {H : List (Obj T)} {s d : TypeDesc} {x : V T} {e : CallE T} {q : e.τ → Bool} {g : e.τ → Option (V T)} (h : convV c H s d x = some (.call e q g)) : False := by
  unfold convV at h
  repeat' first
    | (simp at h; done)
    | (replace h := bif_some h)
    | (split at h)

theorem opR_call {c : Cfg T} {H : List (Obj T)} {ρ : Operand → V T} {o : Oper} {e : CallE T} {q : e.τ → Bool} {g : e.τ → Option (V T)} (h : opR c H ρ o = some (.call e q g)) :
    ∃ f args, callV c H f args = some (.call e q g) := by
  unfold opR at h
  split at h
  case h_25 =>
    split at h
    · exact (builtin_call h).elim
    · split at h
      · exact ⟨_, _, h⟩
      · cases h
    · cases h
  all_goals
    repeat' first
      | (simp at h; done)
      | exact (convV_call h).elim
      | (replace h := bif_some h)
      | (split at h)
      | (rcases bif_or h with h | h)

theorem callV_q {c : Cfg T} {H : List (Obj T)} {f : FuncId} {args : List (V T)} {e : CallE T} {q : e.τ → Bool} {g : e.τ → Option (V T)} (h : callV c H f args = some (.call e q g)) {x : e.τ}
    (hq : q x = true) : ∃ os, (e.enc x).2 = H ++ os := by
  unfold callV at h
  simp only at h
  generalize reach H 3 (once (idsL (handV c H f args)) []) = l at h
  cases hb : l.all (·.blt H.length) && (lentV c f args).all (fun i => !l.any (·.beq i)) with
  | false => simp [hb] at h
  | true =>
  simp only [hb, cond_true] at h
  split at h
  · cases h
  · rename_i e0 he
    simp only [Option.some.injEq, Eff.call.injEq] at h
    obtain ⟨rfl, h2, h3⟩ := h
    have h2 := eq_of_heq h2
    subst h2
    simp only [Bool.and_eq_true, List.isEmpty_iff] at hq
    obtain ⟨h4, h5⟩ := hq
    subst h4
    refine ⟨((e0.enc x).2).map (renO (backOf [] H.length)), ?_⟩
    simp only [h5, cond_true]
    simp [putBack]

theorem effE_q {c : Cfg T} {ops : Array Oper} {s : St T} {G : List (Nat × Bool)} {o : Oper} {e : CallE T} {q : e.τ → Bool} {g : e.τ → Option (V T)} (h : effE c ops s G o = some (.call e q g)) {x : e.τ}
    (hq : q x = true) : ∃ os, (e.enc x).2 = s.heap ++ os := by
  unfold effE at h
  split at h
  · rename_i k a b hop
    cases hp : pickV ops G s k a b with
    | none => rw [hp] at h; simp at h
    | some v => rw [hp] at h; simp at h
  · obtain ⟨f, args, h1⟩ := opR_call h
    exact callV_q h1 hq

theorem closedS_lt {s : St T} {o : Oper} {F : List Nat} (h : closedS s o F = true) : ∀ id ∈ F, id < s.heap.length := by
  unfold closedS at h
  simp only [Bool.and_eq_true] at h
  intro id hid
  have := List.all_eq_true.1 h.1.1 id hid
  simpa [Nat.blt_eq] using this

/-- Behind a step: there is what was there, but for what is turned. -/
theorem DStep.heap {c : Cfg T} {ops : Array Oper} {s s' : St T} {o : Oper} {b : Bool} {p : List Nat × List Nat} (h : DStep c ops s o b p s') :
    s.heap.length ≤ s'.heap.length ∧ (∀ id, id < s.heap.length → id ∉ p.2 → s'.heap[id]? = s.heap[id]?) ∧ (∀ id, s.heap.length ≤ id → id < s'.heap.length → id ∈ p.2) ∧
    (∀ id, id ∈ p.2 → id < s'.heap.length ∧ (id ∈ p.1 ∨ s.heap.length ≤ id)) := by
  have hm : ∀ (F : List Nat) (N : List (Obj T)), s.heap.length ≤ N.length → (∀ id, id < s.heap.length → id ∉ F ++ news s (N.length - s.heap.length) → (mergeH F 0 s.heap N)[id]? = s.heap[id]?) := by
    intro F N hle id hid hn
    rw [mergeH_get F s.heap N 0 id hle, if_neg]
    simp only [Nat.zero_add, inN_iff]
    rintro (h1 | h1)
    · omega
    · exact hn (List.mem_append.2 (.inl h1))
  cases h with
  | val F os v hg he =>
    rw [set_heap]
    refine ⟨by simp, fun id hid _ => List.getElem?_append_left hid, fun id h1 h2 => mem_news.2 ⟨h1, by simpa using h2⟩, fun id hid => ?_⟩
    have := mem_news.1 hid
    exact ⟨by simpa using this.2, .inr this.1⟩
  | callq F e q g x hg he hx hp hq =>
    obtain ⟨os, hos⟩ := effE_q he hq
    have hml : (maskD s o F).heap.length = s.heap.length := maskH_length F s.heap 0
    rw [set_heap]
    refine ⟨by simp, fun id hid _ => List.getElem?_append_left hid, fun id h1 h2 => mem_news.2 ⟨h1, ?_⟩, fun id hid => ?_⟩
    · simp at h2; omega
    · have := mem_news.1 hid
      exact ⟨by simp; omega, .inr this.1⟩
  | wr F H v hg he hlen hcl hv hH =>
    rw [set_heap]
    have hl := mergeH_length F s.heap H 0 hlen
    refine ⟨by rw [hl]; exact hlen, hm F H hlen, fun id h1 h2 => List.mem_append.2 (.inr (mem_news.2 ⟨h1, by rw [hl] at h2; omega⟩)), fun id hid => ?_⟩
    rcases List.mem_append.1 hid with h1 | h1
    · exact ⟨by rw [hl]; exact Nat.lt_of_lt_of_le (closedS_lt hcl id h1) hlen, .inl h1⟩
    · have := mem_news.1 h1
      exact ⟨by rw [hl]; omega, .inr this.1⟩
  | callw F e q g x hg he hx hp hlen hcl hv hH =>
    rw [set_heap]
    have hl := mergeH_length F s.heap (e.enc x).2 0 hlen
    refine ⟨by rw [hl]; exact hlen, hm F (e.enc x).2 hlen, fun id h1 h2 => List.mem_append.2 (.inr (mem_news.2 ⟨h1, by rw [hl] at h2; omega⟩)), fun id hid => ?_⟩
    rcases List.mem_append.1 hid with h1 | h1
    · exact ⟨by rw [hl]; exact Nat.lt_of_lt_of_le (closedS_lt hcl id h1) hlen, .inl h1⟩
    · have := mem_news.1 h1
      exact ⟨by rw [hl]; omega, .inr this.1⟩
  | gval F gd q ok v hg hl he hok => rw [set_heap]; exact ⟨Nat.le_refl _, fun _ _ _ => rfl, fun id h1 h2 => by omega, fun id hid => by simp at hid⟩
  | gcall F gd q e q' g x v hg hl he hx hv => rw [set_heap]; exact ⟨Nat.le_refl _, fun _ _ _ => rfl, fun id h1 h2 => by omega, fun id hid => by simp at hid⟩
  | halt F => exact ⟨Nat.le_refl _, fun _ _ _ => rfl, fun id h1 h2 => by omega, fun id hid => by simp at hid⟩

theorem DStep.env {c : Cfg T} {ops : Array Oper} {s s' : St T} {o : Oper} {b : Bool} {p : List Nat × List Nat} (h : DStep c ops s o b p s') (t : Nat) (ht : o.dst ≠ some t) : s'.env t = s.env t := by
  cases h <;> first | rfl | rw [set_env, if_neg ht]

end Go.Ev
