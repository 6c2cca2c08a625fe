/- A part of the evaluator of Go code over small heaps and of its proof: no condition beyond those that each theorem names. -/
import Derived.Test.YtgoglplnajofnaaGreatDoorEvNorm
set_option linter.unusedVariables false
set_option linter.unusedSimpArgs false
set_option linter.constructorNameAsVariable false
namespace Go.Ev
variable {T : TypeId → Type}

/-- Into a place with a function of its own: the state is made alike, its values are read. -/
def entK (c : Cfg T) (m : Nat) (live : List Nat) (ps : List Sp) {σ ρ : Type} (pat : List (V T) × List (Obj T) → Option σ) (L : σ → (Ex → St T → Option ρ) → Option ρ)
    (s : St T) (K : Ex → St T → Option ρ) : Option ρ :=
  match norm c m live ps s with
  | some z => match pat z with
    | some v => L v K
    | none => none
  | none => none

/-- Out of it. -/
def outK (c : Cfg T) (m : Nat) (xn : Ex → Option (List Nat × List Sp)) {ρ : Type} (K : Ex → St T → Option ρ) (ex : Ex) (s : St T) : Option ρ :=
  match xn ex with
  | some p => match norm c m p.1 p.2 s with
    | some z => K ex (mkSt p.1 z)
    | none => none
  | none => none

def loopK (c : Cfg T) (m : Nat) (xn : Ex → Option (List Nat × List Sp)) {ρ : Type} (F : St T → (Ex → St T → Option ρ) → Option ρ) (K : Ex → St T → Option ρ) : Ex → St T → Option ρ
  | .norm, s => F s K
  | .exit i, s => outK c m xn K (.exit i) s

theorem entK_ok {c : Cfg T} (hc : Fine c) {nt m : Nat} {ρ σ : Type} {live : List Nat} {ps : List Sp} {pat : List (V T) × List (Obj T) → Option σ} {nf : σ → List (V T) × List (Obj T)}
    (hpat : ∀ z v, pat z = some v → z = nf v) {L : σ → (Ex → St T → Option ρ) → Option ρ} {s : St T} {K : Ex → St T → Option ρ} {r : ρ} {η0 η : Eta} {w0 w : World} {a : Act}
    (hB : Bd c nt η s a w) (he : Evo η0 η w0 w) (hk : KeepsTo m η0 η) (h : entK c m live ps pat L s K = some r) :
    ∃ v η', Bd c nt η' (mkSt live (nf v)) a w ∧ Evo η0 η' w0 w ∧ KeepsTo m η0 η' ∧ L v K = some r := by
  unfold entK at h
  split at h
  · rename_i z hz
    split at h
    · rename_i v hv
      obtain ⟨η', h1, h2, h3⟩ := norm_ok hc hB hz
      have := hpat z v hv
      subst this
      exact ⟨v, η', h1, he.trans h2, hk.trans h3, h⟩
    · cases h
  · cases h

theorem outK_ok {c : Cfg T} (hc : Fine c) {nt m : Nat} {ρ : Type} {xn : Ex → Option (List Nat × List Sp)} {s : St T} {K : Ex → St T → Option ρ} {ex : Ex} {r : ρ} {η0 η : Eta} {w0 w : World} {a : Act}
    (hB : Bd c nt η s a w) (he : Evo η0 η w0 w) (hk : KeepsTo m η0 η) (h : outK c m xn K ex s = some r) :
    ∃ s' η', Bd c nt η' s' a w ∧ Evo η0 η' w0 w ∧ KeepsTo m η0 η' ∧ K ex s' = some r := by
  unfold outK at h
  split at h
  · rename_i p hp
    split at h
    · rename_i z hz
      obtain ⟨η', h1, h2, h3⟩ := norm_ok hc hB hz
      exact ⟨_, η', h1, he.trans h2, hk.trans h3, h⟩
    · cases h
  · cases h

theorem loop_ok {c : Cfg T} (hc : Fine c) (hd : DrawOk c) {nt m : Nat} {ρ σ : Type} {kr : Kr T ρ} {cuts : Cuts T ρ} {body : Code} (hg : Good c nt m kr (annot cuts body))
    {live : List Nat} {ps : List Sp} {pat : List (V T) × List (Obj T) → Option σ} {nf : σ → List (V T) × List (Obj T)} (hpat : ∀ z v, pat z = some v → z = nf v)
    {xn : Ex → Option (List Nat × List Sp)} {L : Nat → σ → (Ex → St T → Option ρ) → Option ρ} (h0 : ∀ v K, L 0 v K = none)
    (hstep : ∀ n v K, L (n + 1) v K = runK c nt kr (annot cuts body) (mkSt live (nf v)) (loopK c m xn (entK c m live ps pat (L n)) K)) (n : Nat) :
    Sound c nt m kr (.loop body) (entK c m live ps pat (L n)) := by
  intro r Q K η0 w0 hkr hpn hK η s a w hB he hk h
  refine wp_loop_rounds n ?_
  induction n generalizing η s a w with
  | zero =>
    obtain ⟨v, η', h1, h2, h3, h4⟩ := entK_ok hc hpat hB he hk h
    rw [h0] at h4; cases h4
  | succ n ih =>
    obtain ⟨v, η', h1, h2, h3, h4⟩ := entK_ok hc hpat hB he hk h
    rw [hstep] at h4
    rw [rounds_succ]
    have := runK_ok hc hd nt m kr (annot cuts body) hg r (Exit.then (Code.rounds c.P body Q n) Q) _ η0 w0 hkr hpn ?_ η' _ a w h1 h2 h3 h4
    · rw [annot_code] at this; exact this
    · intro ex s' a' w' η'' hB' he' hk' h'
      cases ex with
      | norm => exact ih η'' s' a' w' hB' he' hk' h'
      | exit i =>
        obtain ⟨s'', η3, g1, g2, g3, g4⟩ := outK_ok hc hB' he' hk' h'
        exact hK (.exit i) s'' a' w' η3 g1 g2 g3 g4

theorem join_ok {c : Cfg T} (hc : Fine c) (hd : DrawOk c) {nt m : Nat} {ρ σ : Type} {kr : Kr T ρ} {cuts : Cuts T ρ} {body : Code} (hg : Good c nt m kr (annot cuts body))
    {live : List Nat} {ps : List Sp} {pat : List (V T) × List (Obj T) → Option σ} {nf : σ → List (V T) × List (Obj T)} (hpat : ∀ z v, pat z = some v → z = nf v)
    {xn : Ex → Option (List Nat × List Sp)} {L : σ → (Ex → St T → Option ρ) → Option ρ}
    (hstep : ∀ v K, L v K = runK c nt kr (annot cuts body) (mkSt live (nf v)) (outK c m xn K)) :
    Sound c nt m kr body (entK c m live ps pat L) := by
  intro r Q K η0 w0 hkr hpn hK η s a w hB he hk h
  obtain ⟨v, η', h1, h2, h3, h4⟩ := entK_ok hc hpat hB he hk h
  rw [hstep] at h4
  have := runK_ok hc hd nt m kr (annot cuts body) hg r Q _ η0 w0 hkr hpn ?_ η' _ a w h1 h2 h3 h4
  · rw [annot_code] at this; exact this
  · intro ex s' a' w' η'' hB' he' hk' h'
    obtain ⟨s'', η3, g1, g2, g3, g4⟩ := outK_ok hc hB' he' hk' h'
    exact hK ex s'' a' w' η3 g1 g2 g3 g4

/-- The values that a function hands back. -/
def resVs (c : Cfg T) (s : St T) : List ResultVar → Option (List (V T))
  | [] => some []
  | .tmp t :: rs => match resVs c s rs with
    | some vs => some (s.env t :: vs)
    | none => none
  | .cell a t :: rs => match loadV c s.heap t (s.env a), resVs c s rs with
    | some v, some vs => some (strip v :: vs)
    | _, _ => none

def nthV (vs : List (V T)) (i : Nat) : V T := strip (vs.getD i .u)

def retK (c : Cfg T) (rs : List ResultVar) (m : Nat) (ps : List Sp) {τ : Type} (pat : List (V T) × List (Obj T) → Option τ) (s : St T) : Option τ :=
  match resVs c s rs with
  | some vs => match norm c m (List.range vs.length) ps ⟨nthV vs, s.heap⟩ with
    | some z => pat z
    | none => none
  | none => none

def endK {τ : Type} (kr : Kr T τ) : Ex → St T → Option τ
  | .norm, s => kr.ret s
  | .exit _, _ => none

theorem as_of_sure {P : Program} {t : TypeId} {x y : Value} {w : World} (h : (Instr.loadAt t x).run P w = .ok y w) : (do loadVar t (← asAddr x) : Sem Value).run P w = .ok y w := by
  cases x with
  | pointer a =>
    cases a with
    | some a => simpa [Instr.loadAt, Instr.sureAddr, asAddr] using h
    | none => simp [Instr.loadAt, Instr.sureAddr] at h
  | _ => simp [Instr.loadAt, Instr.sureAddr] at h

theorem resVs_ok {c : Cfg T} (hc : CodOk (rc c)) (hg : GvOk c) {nt : Nat} {η : Eta} {s : St T} {a : Act} {w : World} (hB : Bd c nt η s a w) : ∀ (rs : List ResultVar) (vs : List (V T)), resVs c s rs = some vs →
    ∃ xs : List Value, (rs.mapM fun (r : ResultVar) => (match r with
      | .tmp t => pure (a.tmps.getD t undef)
      | .cell d t => do loadVar t (← asAddr (a.tmps.getD d undef)) : Sem Value)).run c.P w = .ok xs w ∧ RVs (rc c) η w vs xs
  | [], vs, h => by
    simp [resVs] at h; subst h
    exact ⟨[], by simp [List.mapM_nil], by simp only [RVs]⟩
  | .tmp t :: rs, vs, h => by
    simp only [resVs] at h
    split at h
    · rename_i vs' h1
      simp only [Option.some.injEq] at h; subst h
      obtain ⟨xs, h2, h3⟩ := resVs_ok hc hg hB rs vs' h1
      refine ⟨a.tmps.getD t undef :: xs, ?_, ?_⟩
      · simp only [List.mapM_cons, Sem.run_bind, Sem.run_pure, Result.andThen_ok, h2]
      · simp only [RVs]; exact ⟨_, _, rfl, hB.env t, h3⟩
    · cases h
  | .cell d t :: rs, vs, h => by
    simp only [resVs] at h
    split at h
    · rename_i v vs' h0 h1
      simp only [Option.some.injEq] at h; subst h
      obtain ⟨xs, h2, h3⟩ := resVs_ok hc hg hB rs vs' h1
      obtain ⟨y, h4, h5⟩ := loadV_ok hc hg hB.heap (hB.env d) h0
      have h4' : (do loadVar t (← asAddr (a.tmps.getD d undef)) : Sem Value).run c.P w = .ok y w := as_of_sure h4
      refine ⟨y :: xs, ?_, ?_⟩
      · rw [List.mapM_cons, Sem.run_bind]
        rw [show (Sem.run c.P (match ResultVar.cell d t with
      | .tmp t => pure (a.tmps.getD t undef)
      | .cell d t => do loadVar t (← asAddr (a.tmps.getD d undef))) w) = .ok y w from h4']
        simp only [Sem.run_bind, Sem.run_pure, Result.andThen_ok, h2]
      · simp only [RVs]; exact ⟨_, _, rfl, strip_rv h5, h3⟩
    · cases h

theorem results_run {P : Program} {fn : Func} {tmps : Array Value} {w : World} {xs : List Value} (h : (fn.results.toList.mapM fun (r : ResultVar) => (match r with
      | .tmp t => pure (tmps.getD t undef)
      | .cell d t => do loadVar t (← asAddr (tmps.getD d undef)) : Sem Value)).run P w = .ok xs w) :
    ∃ v, (results fn tmps).run P w = .ok v w ∧ v = (if hx : xs.toArray.size = 1 then xs.toArray[0] else .tuple xs.toArray) := by
  refine ⟨_, ?_, rfl⟩
  unfold results
  rw [Array.mapM_eq_mapM_toList]
  simp only [Sem.run_bind, map_eq_pure_bind]
  have h' : ∀ (g : ResultVar → Sem Value), (∀ r, g r = (match r with
      | .tmp t => pure (tmps.getD t undef)
      | .cell d t => do loadVar t (← asAddr (tmps.getD d undef)) : Sem Value)) → (fn.results.toList.mapM g).run P w = .ok xs w := fun g hg => by
    rw [← h]; congr 2; funext r; exact hg r
  rw [h' _ (fun r => by cases r <;> rfl)]
  simp only [Result.andThen_ok, Sem.run_pure]

theorem pack_rv {R : Rc T} {η : Eta} {w : World} {vs : List (V T)} {xs : List Value} (h : RVs R η w vs xs) : RV R η w (pack vs) (if hx : xs.toArray.size = 1 then xs.toArray[0] else .tuple xs.toArray) := by
  have hl := h.length
  match vs, xs, h, hl with
  | [v], [x], h, _ =>
    simp only [RVs] at h
    obtain ⟨x', xs', he, h1, _⟩ := h
    simp at he
    obtain ⟨rfl, rfl⟩ := he
    simpa [pack] using h1
  | [], [], h, _ => simp only [pack, RV]; exact ⟨[], by simp, h⟩
  | v :: v' :: vs, x :: x' :: xs, h, _ => simp only [pack, RV]; exact ⟨_, by simp, h⟩

theorem gc_len {m : Nat} {live : List Nat} {s : St T} {z : List (V T) × List (Obj T)} (h : gc m live s = some z) : z.1.length = live.length ∧ m ≤ z.2.length := by
  unfold gc at h
  simp only at h
  have hrange := reach_range s.heap m 3 (idsL (live.map s.env))
  generalize reach s.heap 3 (once (List.range m ++ idsL (live.map s.env)) []) = l at h hrange
  cases hb : l.all (·.blt s.heap.length) with
  | false => simp [hb] at h
  | true =>
    simp only [hb, cond_true, Option.some.injEq] at h
    subst h
    refine ⟨by simp [renL_map], ?_⟩
    simp only [List.length_map]
    rcases Nat.lt_or_ge l.length m with h1 | h1
    · have := hrange l.length h1
      rw [List.getElem?_eq_none (Nat.le_refl _)] at this; cases this
    · exact h1

theorem ren_ng (m : Nat → Option Nat) (v : V T) (j : Nat) (p : Bool) (u : V T) : Ev.ren m v ≠ .gd j p u := by
  cases v <;> simp only [Ev.ren] <;> first | (split <;> simp) | simp

theorem gc_ng {m : Nat} {live : List Nat} {s : St T} {z : List (V T) × List (Obj T)} (h : gc m live s = some z) (i : Nat) (j : Nat) (p : Bool) (u : V T) : z.1.getD i .u ≠ .gd j p u := by
  unfold gc at h
  simp only at h
  generalize reach s.heap 3 (once (List.range m ++ idsL (live.map s.env)) []) = l at h
  cases hb : l.all (·.blt s.heap.length) with
  | false => simp [hb] at h
  | true =>
    simp only [hb, cond_true, Option.some.injEq] at h
    subst h
    simp only [renL_map, List.getD, List.getElem?_map]
    cases live[i]? with
    | none => simp
    | some t => simpa using ren_ng _ _ j p u

theorem norm_ng {c : Cfg T} {m : Nat} {live : List Nat} {ps : List Sp} {s : St T} {z : List (V T) × List (Obj T)} (h : norm c m live ps s = some z) (i : Nat) (j : Nat) (p : Bool) (u : V T) : z.1.getD i .u ≠ .gd j p u := by
  unfold norm at h
  split at h
  · exact gc_ng h i j p u
  · cases h

theorem norm_len {c : Cfg T} {m : Nat} {live : List Nat} {ps : List Sp} {s : St T} {z : List (V T) × List (Obj T)} (h : norm c m live ps s = some z) : z.1.length = live.length ∧ m ≤ z.2.length := by
  unfold norm at h
  split at h
  · exact gc_len h
  · cases h

theorem envOf_get : ∀ (k n : Nat) (vs : List (V T)), vs.length = n → ∀ i, envOf (List.range' k n) vs (k + i) = strip (vs.getD i .u)
  | k, 0, vs, h, i => by
    have := List.eq_nil_of_length_eq_zero h; subst this
    simp [envOf, strip]
  | k, n + 1, [], h, i => by simp at h
  | k, n + 1, v :: vs, h, i => by
    rw [List.range'_succ]
    simp only [envOf]
    cases i with
    | zero => simp
    | succ i =>
      have : (k + (i + 1)).beq k = false := by
        cases hb : (k + (i + 1)).beq k with
        | false => rfl
        | true => have := Nat.eq_of_beq_eq_true hb; omega
      simp only [this, cond_false]
      rw [show k + (i + 1) = (k + 1) + i by omega, envOf_get (k + 1) n vs (by simpa using h) i]
      simp

theorem rvs_of_get {R : Rc T} {η : Eta} {w : World} : ∀ {vs : List (V T)} {xs : List Value}, xs.length = vs.length → (∀ (i : Nat) (x : Value), xs[i]? = some x → RV R η w (vs.getD i .u) x) → RVs R η w vs xs
  | [], [], _, _ => by simp only [RVs]
  | v :: vs, x :: xs, hl, h => by
    simp only [RVs]
    exact ⟨x, xs, rfl, by simpa using h 0 x rfl, rvs_of_get (by simpa using hl) fun i y hy => by simpa using h (i + 1) y (by simpa using hy)⟩

/-- The state in which a function is entered. -/
def entry (args : List (V T)) (h : List (Obj T)) : St T := ⟨nthV args, h⟩

theorem strip_id : ∀ {v : V T}, (∀ j p u, v ≠ .gd j p u) → strip v = v
  | .gd j p u, h => absurd rfl (h j p u)
  | .pv _ _, _ | .bp _, _ | .gp _ _, _ | .u, _ | .d _, _ | .agg _, _ | .tup _, _ | .ptr _ _, _ | .aptr _ _ _ _ _ _, _ | .eptr _ _ _, _ | .dptr _ _ _ _, _ | .sl _ _, _ | .mp _, _ | .fn _ _, _ | .np, _ => rfl

theorem nthV_rv {R : Rc T} {η : Eta} {w : World} {vs : List (V T)} {xs : List Value} (h : RVs R η w vs xs) (i : Nat) (x : Value) (hx : xs[i]? = some x) : RV R η w (nthV vs i) x := by
  unfold nthV
  refine strip_rv ?_
  cases hv : vs[i]? with
  | none => simp [List.getD, hv, RV]
  | some v =>
    obtain ⟨y, h1, h2⟩ := h.get i hv
    rw [hx] at h1; cases h1
    simpa [List.getD, hv] using h2

theorem retK_ok {c : Cfg T} (hc : Fine c) {fn : Func} {nt m : Nat} {ps : List Sp} {τ : Type} {enc : τ → List (V T) × List (Obj T)} {pat : List (V T) × List (Obj T) → Option τ} (hpat : ∀ z x, pat z = some x → z = enc x)
    {x : τ} {η0 η : Eta} {w0 w : World} {s : St T} {a : Act} (hB : Bd c nt η s a w) (he : Evo η0 η w0 w) (hk : KeepsTo m η0 η) (h : retK c fn.results.toList m ps pat s = some x) :
    ∃ v η', (results fn a.tmps).run c.P w = .ok v w ∧ RV (rc c) η' w (pack (enc x).1) v ∧ Evo η0 η' w0 w ∧ KeepsTo m η0 η' ∧ RelH (rc c) η' (enc x).2 w ∧ (∀ id, (enc x).2.length ≤ id → η' id = none) ∧ m ≤ (enc x).2.length := by
  unfold retK at h
  split at h
  · rename_i vs hvs
    split at h
    · rename_i z hz
      have hze := hpat z x h
      obtain ⟨xs, h1, h2⟩ := resVs_ok hc.cod hc.gv hB _ vs hvs
      obtain ⟨v, h3, h4⟩ := results_run h1
      have hxl := h2.length
      have hB' : Bd c 0 η ⟨nthV vs, s.heap⟩ ⟨xs.toArray, η.df⟩ w := by
        refine ⟨rfl, Nat.zero_le _, fun t => ?_, fun t j p u => strip_ng, hB.heap, hB.fresh⟩
        show RV (rc c) η w (nthV vs t) (Array.getD xs.toArray t undef)
        cases hx : xs[t]? with
        | none =>
          have : vs.length ≤ t := by rw [← hxl]; exact List.getElem?_eq_none_iff.1 hx
          simp [nthV, List.getD, List.getElem?_eq_none this, strip, RV]
        | some y =>
          have := nthV_rv h2 t y hx
          have he : Array.getD xs.toArray t undef = y := by
            obtain ⟨hlt, hy⟩ := List.getElem?_eq_some_iff.1 hx
            simp [Array.getD, hlt, hy]
          rw [he]; exact this
      obtain ⟨η', g1, g2, g3⟩ := norm_ok hc hB' hz
      obtain ⟨l1, l2⟩ := norm_len hz
      subst hze
      have hz1 : RVs (rc c) η' w (enc x).1 xs := by
        refine rvs_of_get (by rw [l1]; simpa using hxl) fun i y hy => ?_
        have := g1.env i
        simp only [mkSt] at this
        have he := envOf_get 0 vs.length (enc x).1 (by simpa using l1) i
        rw [Nat.zero_add, ← List.range_eq_range'] at he
        rw [he] at this
        have he : Act.eval ⟨xs.toArray, η.df⟩ (Operand.tmp i) = y := by
          obtain ⟨hlt, hy⟩ := List.getElem?_eq_some_iff.1 hy
          simp [Act.eval, Array.getD, hlt, hy]
        rw [he] at this
        have hng : ∀ j p u, (enc x).1.getD i .u ≠ V.gd j p u := fun j p u => norm_ng hz i j p u
        rwa [strip_id hng] at this
      refine ⟨v, η', h3, by rw [h4]; exact pack_rv hz1, he.trans g2, hk.trans g3, g1.heap, g1.fresh, l2⟩
    · cases h
  · cases h

/-- A function that returns. -/
def kret {τ : Type} (f : St T → Option τ) : Kr T τ := ⟨f, fun _ _ => none⟩

/-- A function that may panic: if it does, with what, and what it returns. -/
def kpan {τ π : Type} (f : St T → Option τ) (pp : V T → Option π) (dp : π) (dr : τ) : Kr T (Bool × π × τ) :=
  ⟨fun s => (f s).map fun r => (false, dp, r), fun v _ => (pp v).map fun p => (true, p, dr)⟩

theorem entry_bd {c : Cfg T} {nt : Nat} {η : Eta} {w : World} {args : List (V T)} {h : List (Obj T)} {xs : List Value} (hH : RelH (rc c) η h w) (hfr : ∀ id, h.length ≤ id → η id = none) (hargs : RVs (rc c) η w args xs) :
    Bd c nt (η.to []) (entry args h) { tmps := xs.toArray ++ Array.replicate (nt - xs.toArray.size) undef, defers := [] } w := by
  refine ⟨rfl, by simp; omega, fun t => ?_, fun t j p u => strip_ng, hH.dfr [], hfr⟩
  refine RV.dfr [] _ _ ?_
  show RV (rc c) η w (nthV args t) (Array.getD _ t undef)
  cases hx : xs[t]? with
  | none =>
    have : args.length ≤ t := by rw [← hargs.length]; exact List.getElem?_eq_none_iff.1 hx
    simp [nthV, List.getD, List.getElem?_eq_none this, strip, RV]
  | some y =>
    have := nthV_rv hargs t y hx
    obtain ⟨hlt, hy⟩ := List.getElem?_eq_some_iff.1 hx
    have he : Array.getD (xs.toArray ++ Array.replicate (nt - xs.toArray.size) undef) t undef = y := by
      have hlt' : t < (xs.toArray ++ Array.replicate (nt - xs.toArray.size) undef).size := by simp; omega
      simp [Array.getD, hlt', Array.getElem_append, hlt, hy]
      omega
    rw [he]; exact this

/-- Names behind a panic: those that were handed over, and nothing is known of them. -/
theorem unk_relH {c : Cfg T} {η : Eta} {H : List (Obj T)} {w : World} (h : RelH (rc c) η H w) (n : Nat) : RelH (rc c) ⟨fun id => if id < n then η.m id else none, η.far, η.df⟩ (List.replicate n .unk) w := by
  have key : ∀ id r, (⟨fun id => if id < n then η.m id else none, η.far, η.df⟩ : Eta) id = some r → η.m id = some r := by
    intro id r hr
    simp only at hr
    split at hr
    · exact hr
    · cases hr
  refine ⟨?_, fun id r b hr hb => h.lt id r b (key id r hr) hb, fun id id' r r' b hr hr' => h.inj id id' r r' b (key id r hr) (key id' r' hr'), fun id r b hr hb => h.nf id r b (key id r hr) hb, h.fl, ?_⟩
  · intro id r o hr ho
    have : o = .unk := by
      have := List.mem_of_getElem? ho
      exact List.eq_of_mem_replicate this
    subst this
    trivial
  · intro b hb
    obtain ⟨h1, h2, h3, h4⟩ := h.old b hb
    exact ⟨fun ⟨id, r, hr, hh⟩ => h1 ⟨id, r, key id r hr, hh⟩, h2, h3, h4⟩

/-- What is asked behind a function's body. -/
def FnQ (c : Cfg T) (b : Bool) (res : List (V T)) (h' : List (Obj T)) (η : Eta) (w : World) (e : Ending) (w' : World) : Prop :=
  ∃ v η', e = endOf b v ∧ RV (rc c) η' w' (pack res) v ∧ Evo η η' w w' ∧ Keeps η η' ∧ RelH (rc c) η' h' w' ∧ (∀ id, h'.length ≤ id → η' id = none)

theorem fnq_ret {c : Cfg T} (hc : Fine c) {fn : Func} {nt : Nat} {h h' : List (Obj T)} {η η1 : Eta} {w w' : World} {s : St T} {a : Act} {res : List (V T)} (hfr : ∀ id, h.length ≤ id → η id = none)
    (hB : Bd c nt η1 s a w') (he : Evo (η.to []) η1 w w') (hk : KeepsTo h.length (η.to []) η1) {σ : Type} {ps : List Sp} {pat : List (V T) × List (Obj T) → Option σ} {enc : σ → List (V T) × List (Obj T)} {y : σ}
    (hr : retK c fn.results.toList h.length ps pat s = some y) (hpat : ∀ z v, pat z = some v → z = enc v) (hy : enc y = (res, h')) :
    ∃ v, (results fn a.tmps).run c.P w' = .ok v w' ∧ FnQ c false res h' η w (.returned v) w' := by
  obtain ⟨v, η2, g1, g2, g3, g4, g5, g6, _⟩ := retK_ok hc hpat hB he hk hr
  rw [hy] at g2 g5 g6
  refine ⟨v, g1, v, η2.to η.df, rfl, RV.dfr _ _ _ g2, ⟨g3.size, g3.same, g3.own, g3.far, rfl, g3.rest⟩, ?_, g5.dfr _, g6⟩
  intro id r hr
  rcases Nat.lt_or_ge id h.length with h2 | h2
  · exact g4 id h2 r hr
  · rw [hfr id h2] at hr; cases hr

theorem fnq_pan {c : Cfg T} {h : List (Obj T)} {η η1 : Eta} {w w' : World} {v : V T} {y : Value} (hfr : ∀ id, h.length ≤ id → η id = none)
    (hv : RV (rc c) η1 w' v y) (hpv : ∃ t ds, v = .pv t ds) (he : Evo (η.to []) η1 w w') (hk : KeepsTo h.length (η.to []) η1) {H : List (Obj T)} (hH : RelH (rc c) η1 H w') :
    FnQ c true [v] (unks h) η w (.panicked [{ v := y, recovered := false }]) w' := by
  have hu : unks h = List.replicate h.length .unk := by unfold unks; rw [List.map_const']
  refine ⟨y, (⟨fun id => if id < h.length then η1.m id else none, η1.far, η1.df⟩ : Eta).to η.df, rfl, ?_, ⟨he.size, he.same, ?_, he.far, rfl, he.rest⟩, ?_, ?_, ?_⟩
  · obtain ⟨t, ds, rfl⟩ := hpv
    simp only [pack, RV] at hv ⊢
    exact hv
  · rintro b hb ⟨id, r, hr, hh⟩
    refine he.own b hb ⟨id, r, ?_, hh⟩
    have hr' : (if id < h.length then η1.m id else none) = some r := hr
    split at hr'
    · exact hr'
    · cases hr'
  · intro id r hr
    rcases Nat.lt_or_ge id h.length with h2 | h2
    · have := hk id h2 r hr
      refine Now.eq ?_ this
      show (if id < h.length then η1.m id else none) = _
      rw [if_pos h2]
    · rw [hfr id h2] at hr; cases hr
  · rw [hu]; exact (unk_relH hH h.length).dfr _
  · intro id hid
    rw [hu, List.length_replicate] at hid
    show (if id < h.length then η1.m id else none) = none
    rw [if_neg (by omega)]

theorem fn_gen {c : Cfg T} (hc : Fine c) (hd : DrawOk c) {f : FuncId} {fn : Func} {code : Code} (hf : c.P.funcs[f]? = some fn) (hn : (fn.name == "runtime.NumGoroutine") = false) (hb : fn.body = some code)
    {τ : Type} {kr : Kr T τ} {cuts : Cuts T τ} {args : List (V T)} {h : List (Obj T)} {x : τ} {b : Bool} {res : List (V T)} {h' : List (Obj T)}
    (hret : ∀ s, kr.ret s = some x → b = false ∧ ∃ (σ : Type) (ps : List Sp) (pat : List (V T) × List (Obj T) → Option σ) (enc : σ → List (V T) × List (Obj T)) (y : σ),
      retK c fn.results.toList h.length ps pat s = some y ∧ (∀ z v, pat z = some v → z = enc v) ∧ enc y = (res, h'))
    (hpan : ∀ v s, kr.pan v s = some x → b = true ∧ res = [v] ∧ h' = unks h ∧ ∃ t ds, v = .pv t ds)
    (hg : Good c fn.ntmps h.length kr (annot cuts code))
    (hrun : runK c fn.ntmps kr (annot cuts code) (entry args h) (endK kr) = some x) (hlen : h.length ≤ h'.length) : SimB b c f args h res h' := by
  refine ⟨⟨fn, hf, hn, by simp [hb]⟩, hlen, fun η w xs hH hfr hargs => ?_⟩
  refine calls_of_wp hf hb ?_
  have hQ : ∀ s a w' η1, Bd c fn.ntmps η1 s a w' → Evo (η.to []) η1 w w' → KeepsTo h.length (η.to []) η1 → kr.ret s = some x → bodyPost c.P fn (FnQ c b res h' η w) .ret a w' := by
    intro s a w' η1 hB he hk h1
    obtain ⟨rfl, σ, ps, pat, enc, y, g1, g2, g3⟩ := hret s h1
    obtain ⟨v, v1, v2⟩ := fnq_ret hc (fn := fn) hfr hB he hk g1 g2 g3
    exact ⟨by rw [hB.def0, he.df]; rfl, v, v1, v2⟩
  have hS := runK_ok hc hd fn.ntmps h.length kr (annot cuts code) hg x (bodyPost c.P fn (FnQ c b res h' η w)) (endK kr) (η.to []) w hQ ?_ ?_ (η.to []) (entry args h)
    { tmps := xs.toArray ++ Array.replicate (fn.ntmps - xs.toArray.size) undef, defers := [] } w (entry_bd hH hfr hargs) (Evo.refl _ w) ((Keeps.refl _).to _) hrun
  · rw [annot_code] at hS; exact hS
  · intro v y s a w' η1 hB' hv he hk h1
    obtain ⟨rfl, rfl, rfl, hpv⟩ := hpan v s h1
    exact ⟨by rw [hB'.def0, he.df]; rfl, fnq_pan hfr hv hpv he hk hB'.heap⟩
  · intro ex s a w' η1 hB he hk h1
    cases ex with
    | exit i => simp [endK] at h1
    | norm => exact hQ s a w' η1 hB he hk h1

theorem fn_ok {c : Cfg T} (hc : Fine c) (hd : DrawOk c) {f : FuncId} {fn : Func} {code : Code} (hf : c.P.funcs[f]? = some fn) (hn : (fn.name == "runtime.NumGoroutine") = false) (hb : fn.body = some code)
    {τ : Type} {enc : τ → List (V T) × List (Obj T)} {ps : List Sp} {pat : List (V T) × List (Obj T) → Option τ} (hpat : ∀ z x, pat z = some x → z = enc x)
    {cuts : Cuts T τ} {args : List (V T)} {h : List (Obj T)} {x : τ}
    (hg : Good c fn.ntmps h.length (kret (retK c fn.results.toList h.length ps pat)) (annot cuts code))
    (hrun : runK c fn.ntmps (kret (retK c fn.results.toList h.length ps pat)) (annot cuts code) (entry args h) (endK (kret (retK c fn.results.toList h.length ps pat))) = some x) :
    h.length ≤ (enc x).2.length → Sim c f args h (enc x).1 (enc x).2 :=
  fn_gen hc hd hf hn hb (fun s hs => ⟨rfl, _, ps, pat, enc, x, hs, hpat, rfl⟩) (fun v s hv => by cases hv) hg hrun

/-- A function that may panic. -/
theorem fnP_ok {c : Cfg T} (hc : Fine c) (hd : DrawOk c) {f : FuncId} {fn : Func} {code : Code} (hf : c.P.funcs[f]? = some fn) (hn : (fn.name == "runtime.NumGoroutine") = false) (hb : fn.body = some code)
    {τ π : Type} {enc : τ → List (V T) × List (Obj T)} {ps : List Sp} {pat : List (V T) × List (Obj T) → Option τ} (hpat : ∀ z x, pat z = some x → z = enc x)
    {pp : V T → Option π} {pe : π → V T} (hpe : ∀ v p, pp v = some p → v = pe p) (hpv : ∀ p, ∃ t ds, pe p = .pv t ds) {dp : π} {dr : τ}
    {cuts : Cuts T (Bool × π × τ)} {args : List (V T)} {h : List (Obj T)} {x : Bool × π × τ}
    (hg : Good c fn.ntmps h.length (kpan (retK c fn.results.toList h.length ps pat) pp dp dr) (annot cuts code))
    (hrun : runK c fn.ntmps (kpan (retK c fn.results.toList h.length ps pat) pp dp dr) (annot cuts code) (entry args h) (endK (kpan (retK c fn.results.toList h.length ps pat) pp dp dr)) = some x)
    (hlen : h.length ≤ (enc x.2.2).2.length) : (x.1 = false → Sim c f args h (enc x.2.2).1 (enc x.2.2).2) ∧ (x.1 = true → SimP c f args h (pe x.2.1)) := by
  obtain ⟨b, p, r⟩ := x
  have hpx : ∀ v s, (kpan (retK c fn.results.toList h.length ps pat) pp dp dr).pan v s = some (b, p, r) → b = true ∧ v = pe p ∧ ∃ t ds, v = .pv t ds := by
    intro v s hv
    simp only [kpan, Option.map_eq_some_iff, Prod.mk.injEq] at hv
    obtain ⟨p', h1, h2, h3, h4⟩ := hv
    subst h3
    exact ⟨h2.symm, hpe v _ h1, by rw [hpe v _ h1]; exact hpv _⟩
  have hrx : ∀ s, (kpan (retK c fn.results.toList h.length ps pat) pp dp dr).ret s = some (b, p, r) → b = false ∧ retK c fn.results.toList h.length ps pat s = some r := by
    intro s hs
    simp only [kpan, Option.map_eq_some_iff, Prod.mk.injEq] at hs
    obtain ⟨y, h1, h2, h3, h4⟩ := hs
    subst h4
    exact ⟨h2.symm, h1⟩
  constructor
  · intro hb'
    simp only at hb'
    subst hb'
    exact fn_gen hc hd hf hn hb (fun s hs => ⟨rfl, _, ps, pat, enc, r, (hrx s hs).2, hpat, rfl⟩) (fun v s hv => by have := (hpx v s hv).1; cases this) hg hrun hlen
  · intro hb'
    simp only at hb'
    subst hb'
    exact ⟨hpv p, fn_gen hc hd hf hn hb (fun s hs => by have := (hrx s hs).1; cases this) (fun v s hv => ⟨rfl, by rw [(hpx v s hv).2.1], rfl, (hpx v s hv).2.2⟩) hg hrun (by simp [unks])⟩

end Go.Ev
