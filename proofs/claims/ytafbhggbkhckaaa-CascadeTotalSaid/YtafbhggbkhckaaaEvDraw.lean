/- A part of the evaluator of Go code over small heaps and of its proof: no condition beyond those that each theorem names. -/
import Derived.Test.YtafbhggbkhckaaaEvCode
set_option linter.unusedVariables false
set_option linter.unusedSimpArgs false
set_option linter.constructorNameAsVariable false
namespace Go.Ev
variable {T : TypeId → Type}

/-- One step of the part that may run in any order, as the text has it. -/
inductive QStep (c : Cfg T) (ops : Array Oper) (s : St T) (o : Oper) : St T → Prop
  | val (os : List (Obj T)) (v : V T) (hg : o.guard = none) (he : effE c ops (maskS s o) [] o = some (.val true os v)) : QStep c ops s o (St.set ⟨s.env, s.heap ++ os⟩ o.dst (strip v))
  | call (e : CallE T) (q : e.τ → Bool) (g : e.τ → Option (V T)) (x : e.τ) (hg : o.guard = none) (he : effE c ops (maskS s o) [] o = some (.call e q g)) (hx : e.val = some x) (hq : q x = true) :
      QStep c ops s o (St.set ⟨s.env, (e.enc x).2⟩ o.dst (strip (pack (e.enc x).1)))
  | gval (gd : Nat × Bool) (q ok : Bool) (v : V T) (hg : o.guard = some gd) (hl : lets ops s (chain ops 20 gd) = some q) (he : effE c ops (maskS s o) (chain ops 20 gd) o = some (.val ok [] v))
      (hok : (ok || !q) = true) : QStep c ops s o (St.set s o.dst (.gd gd.1 gd.2 (strip v)))
  | gcall (gd : Nat × Bool) (q : Bool) (e : CallE T) (q' : e.τ → Bool) (g : e.τ → Option (V T)) (x : e.τ) (v : V T) (hg : o.guard = some gd) (hl : lets ops s (chain ops 20 gd) = some q)
      (he : effE c ops (maskS s o) (chain ops 20 gd) o = some (.call e q' g)) (hx : cond q e.val (some e.dflt) = some x) (hv : g x = some v) : QStep c ops s o (St.set s o.dst (.gd gd.1 gd.2 (strip v)))

theorem runOps_qstep {c : Cfg T} {ops : Array Oper} {ρ : Type} {r : ρ} {n : Nat} {o : Oper} {rest : List Oper} {s : St T} {K : St T → Option ρ} (hn : n ≠ 0)
    (h : runOps c ops n (o :: rest) s K = some r) : ∃ s', QStep c ops s o s' ∧ runOps c ops (n - 1) rest s' K = some r := by
  have hb : n.beq 0 = false := by
    cases hb : n.beq 0 with
    | false => rfl
    | true => exact absurd (Nat.eq_of_beq_eq_true hb) hn
  unfold runOps at h
  simp only [hb, cond_false, Bool.false_and, Bool.false_or] at h
  split at h
  · rename_i hg
    split at h
    · cases h
    · rename_i ok os v he
      cases ok with
      | false => simp at h
      | true => exact ⟨_, .val os v hg he, by simpa using h⟩
    · simp at h
    · rename_i e q g he
      cases hval : e.val with
      | none => rw [hval] at h; simp at h
      | some x =>
        rw [hval] at h
        simp only [Option.bind_some] at h
        cases hq : q x with
        | false => rw [hq] at h; simp at h
        | true => rw [hq] at h; exact ⟨_, .call e q g x hg he hval hq, by simpa using h⟩
  · rename_i gd hg
    split at h
    · rename_i q ok v hl he
      cases hok : ok || !q with
      | false => rw [hok] at h; simp at h
      | true => rw [hok] at h; exact ⟨_, .gval gd q ok v hg hl he hok, by simpa using h⟩
    · rename_i q e q' g hl he
      cases hval : cond q e.val (some e.dflt) with
      | none => rw [hval] at h; simp at h
      | some x =>
        rw [hval] at h
        simp only [Option.bind_some] at h
        split at h
        · rename_i v hv
          exact ⟨_, .gcall gd q e q' g x v hg hl he hval hv, h⟩
        · cases h
    · cases h

/-- The states of the quiet part, one behind the other. -/
structure Trace (c : Cfg T) (ops : Array Oper) (n : Nat) (S : Nat → St T) : Prop where
  step : ∀ i, i < n → ∃ o, ops[i]? = some o ∧ QStep c ops (S i) o (S (i + 1))
  ng : ∀ t j p v, (S 0).env t ≠ .gd j p v

theorem runOps_trace {c : Cfg T} {ops : Array Oper} {ρ : Type} {r : ρ} {K : St T → Option ρ} : ∀ (n i : Nat) (s : St T), i + n ≤ ops.size → runOps c ops n (ops.toList.drop i) s K = some r →
    ∃ S : Nat → St T, S i = s ∧ (∀ k, i ≤ k → k < i + n → ∃ o, ops[k]? = some o ∧ QStep c ops (S k) o (S (k + 1))) ∧ runOps c ops 0 (ops.toList.drop (i + n)) (S (i + n)) K = some r
  | 0, i, s, _, h => ⟨fun _ => s, rfl, fun k h1 h2 => by omega, by simpa using h⟩
  | n + 1, i, s, hle, h => by
    have hsz : i < ops.size := by omega
    have hlt : i < ops.toList.length := by simpa using hsz
    rw [List.drop_eq_getElem_cons hlt] at h
    obtain ⟨s', h1, h2⟩ := runOps_qstep (by omega) h
    obtain ⟨S, g1, g2, g3⟩ := runOps_trace (c := c) (ops := ops) (K := K) (r := r) n (i + 1) s' (by omega) (by simpa using h2)
    refine ⟨fun k => if k = i then s else S k, by simp, fun k hk1 hk2 => ?_, ?_⟩
    · by_cases hk : k = i
      · subst hk
        refine ⟨ops.toList[k], by simp [Array.getElem?_eq_getElem hsz], ?_⟩
        simp only [if_true]
        rw [if_neg (by omega), g1]
        exact h1
      · simp only
        rw [if_neg hk, if_neg (by omega)]
        exact g2 k (by omega) (by omega)
    · simp only
      rw [if_neg (by omega), show i + (n + 1) = i + 1 + n by omega]
      exact g3

theorem builtin_call {c : Cfg T} {H : List (Obj T)} {b : Builtin} {ts : Array TypeId} {args : List (V T)} {e : CallE T} {q : e.τ → Bool} {g : e.τ → Option (V T)} (h : builtinV c H b ts args = some (.call e q g)) : False := by
  unfold builtinV at h
  repeat' split at h
  all_goals first | cases h | simp at h

theorem bif_some.{u} {α : Type u} {b : Bool} {y : Option α} {x : α} (h : (bif b then y else none) = some x) : y = some x := by
  cases b with
  | true => exact h
  | false => cases h

theorem opR_call {c : Cfg T} {H : List (Obj T)} {ρ : Operand → V T} {o : Oper} {e : CallE T} {q : e.τ → Bool} {g : e.τ → Option (V T)} (h : opR c H ρ o = some (.call e q g)) :
    ∃ f args, callV c H f args = some (.call e q g) := by
  unfold opR at h
  split at h
  case h_20 =>
    split at h
    · exact (builtin_call h).elim
    · split at h
      · exact ⟨_, _, h⟩
      · cases h
    · cases h
  all_goals
    repeat' first
      | (simp at h; done)
      | (replace h := bif_some h)
      | (split at h)

theorem callV_q {c : Cfg T} {H : List (Obj T)} {f : FuncId} {args : List (V T)} {e : CallE T} {q : e.τ → Bool} {g : e.τ → Option (V T)} (h : callV c H f args = some (.call e q g)) {x : e.τ}
    (hq : q x = true) : ∃ os, (e.enc x).2 = H ++ os := by
  unfold callV at h
  simp only at h
  generalize reach H 3 (once (idsL (args.map (argV H))) []) = l at h
  cases hb : l.all (·.blt H.length) && (lent args).all (fun i => !l.any (·.beq i)) with
  | false => simp [hb] at h
  | true =>
  simp only [hb, cond_true] at h
  split at h
  · cases h
  · rename_i e0 he
    simp only [Option.some.injEq, Eff.call.injEq] at h
    obtain ⟨rfl, h2, h3⟩ := h
    have h2 := eq_of_heq h2
    subst h2
    simp only [Bool.and_eq_true, List.isEmpty_iff] at hq
    obtain ⟨h4, h5⟩ := hq
    subst h4
    refine ⟨((e0.enc x).2).map (renO (backOf [] H.length)), ?_⟩
    simp only [h5, cond_true]
    simp [putBack]

theorem effE_q {c : Cfg T} {ops : Array Oper} {s : St T} {G : List (Nat × Bool)} {o : Oper} {e : CallE T} {q : e.τ → Bool} {g : e.τ → Option (V T)} (h : effE c ops s G o = some (.call e q g)) {x : e.τ}
    (hq : q x = true) : ∃ os, (e.enc x).2 = s.heap ++ os := by
  unfold effE at h
  split at h
  · rename_i k a b hop
    cases hp : pickV ops G s k a b with
    | none => rw [hp] at h; simp at h
    | some v => rw [hp] at h; simp at h
  · obtain ⟨f, args, h1⟩ := opR_call h
    exact callV_q h1 hq

theorem QStep.heap {c : Cfg T} {ops : Array Oper} {s s' : St T} {o : Oper} (h : QStep c ops s o s') : ∃ os, s'.heap = s.heap ++ os := by
  cases h with
  | val os v hg he => exact ⟨os, by rw [set_heap]⟩
  | call e q g x hg he hx hqx => rw [set_heap]; exact effE_q he hqx
  | gval gd q ok v => exact ⟨[], by rw [set_heap]; simp⟩
  | gcall gd q e q' g x v => exact ⟨[], by rw [set_heap]; simp⟩

theorem QStep.env {c : Cfg T} {ops : Array Oper} {s s' : St T} {o : Oper} (h : QStep c ops s o s') (t : Nat) (ht : o.dst ≠ some t) : s'.env t = s.env t := by
  cases h <;> rw [set_env, if_neg ht]

end Go.Ev
