/- A part of the evaluator of Go code over small heaps and of its proof: no condition beyond those that each theorem names. -/
import Derived.Test.YtgoglplnajofnaaGreatDoorEvDraw4
import Derived.Test.YtgoglplnajofnaaGreatDoorEvCuts
set_option linter.unusedVariables false
set_option linter.unusedSimpArgs false
set_option linter.constructorNameAsVariable false
namespace Go.Ev
variable {T : TypeId → Type}

/-- Bytes as numbers, and back. -/
def bytesI (l : List UInt8) : List Int := l.map fun b => (b.toNat : Int)
def bytesU (l : List Int) : List UInt8 := l.map fun n => UInt8.ofNat n.toNat

/-- How values of a type of one's own read as a function's arguments or results. -/
structure Io (T : TypeId → Type) (σ : Type) where
  enc : σ → List (V T) × List (Obj T)
  pat : List (V T) × List (Obj T) → Option σ
  ok : ∀ z v, pat z = some v → z = enc v

/-- A function's line in the table. -/
def line {σ τ : Type} (i : Io T σ) (o : Io T τ) (d : τ) (f : σ → Option τ) (args : List (V T)) (h : List (Obj T)) : Option (CallE T) :=
  match i.pat (args, h) with
  | some v => some { τ := τ, val := f v, dflt := d, enc := o.enc }
  | none => none

/-- The line of a function that may panic. -/
def lineP {σ τ π : Type} (i : Io T σ) (o : Io T τ) (pe : π → V T) (dp : π) (d : τ) (f : σ → Option (Bool × π × τ)) (args : List (V T)) (h : List (Obj T)) : Option (CallE T) :=
  match i.pat (args, h) with
  | some v => some { τ := Bool × π × τ, val := f v, dflt := (true, dp, d), enc := fun x => o.enc x.2.2, pan := fun x => x.1, penc := fun x => pe x.2.1 }
  | none => none

abbrev Tab (T : TypeId → Type) := FuncId → List (V T) → List (Obj T) → Option (CallE T)

def noTab : Tab T := fun _ _ _ => none

def addTab (f : FuncId) (e : List (V T) → List (Obj T) → Option (CallE T)) (t : Tab T) : Tab T := fun g args h => bif g.beq f then (match e args h with | some x => some x | none => t g args h) else t g args h

def Cfg.with_ (c : Cfg T) (t : Tab T) : Cfg T := { c with cf := t }

theorem noTab_ok {c : Cfg T} (h : ∀ f a b, c.cf f a b = none) : CfOk c := fun f args hp e x he => by rw [h] at he; cases he

theorem addTab_gen {P : Program} {cod : Cod T} {eqk : TypeId → Bool} {w0 : World} {gv : Nat → Option (List (D T))} {bt ut : TypeId} {hd : FuncId → Bool} {fb : TypeId → Bool} {t : Tab T} (h : CfOk ⟨P, cod, t, eqk, w0, gv, bt, ut, hd, fb⟩) {f : FuncId} {e0 : List (V T) → List (Obj T) → Option (CallE T)}
    (hs : ∀ args hp e x, e0 args hp = some e → e.val = some x → (e.pan x = false → Sim (⟨P, cod, t, eqk, w0, gv, bt, ut, hd, fb⟩ : Cfg T) f args hp (e.enc x).1 (e.enc x).2) ∧ (e.pan x = true → SimP (⟨P, cod, t, eqk, w0, gv, bt, ut, hd, fb⟩ : Cfg T) f args hp (e.penc x))) :
    CfOk (⟨P, cod, addTab f e0 t, eqk, w0, gv, bt, ut, hd, fb⟩ : Cfg T) := by
  intro f' args hp e x he hx
  unfold addTab at he
  cases hb : f'.beq f with
  | false => simp only [hb, cond_false] at he; exact h f' args hp e x he hx
  | true =>
    have := Nat.eq_of_beq_eq_true hb
    subst this
    simp only [hb, cond_true] at he
    split at he
    · rename_i y hy
      cases he
      exact hs args hp e x hy hx
    · exact h f' args hp e x he hx

theorem addTab_ok {P : Program} {cod : Cod T} {eqk : TypeId → Bool} {w0 : World} {gv : Nat → Option (List (D T))} {bt ut : TypeId} {hd : FuncId → Bool} {fb : TypeId → Bool} {t : Tab T} (h : CfOk ⟨P, cod, t, eqk, w0, gv, bt, ut, hd, fb⟩) {σ τ : Type} {i : Io T σ} {o : Io T τ} {d : τ} {f : FuncId} {g : σ → Option τ}
    (hs : ∀ v x, g v = some x → Sim (⟨P, cod, t, eqk, w0, gv, bt, ut, hd, fb⟩ : Cfg T) f (i.enc v).1 (i.enc v).2 (o.enc x).1 (o.enc x).2) : CfOk (⟨P, cod, addTab f (line i o d g) t, eqk, w0, gv, bt, ut, hd, fb⟩ : Cfg T) := by
  refine addTab_gen h ?_
  intro args hp e x hy hx
  unfold line at hy
  split at hy
  · rename_i v hv
    have h1 := i.ok _ _ hv
    simp only [Option.some.injEq] at hy
    subst hy
    have h2 := hs v x hx
    rw [← h1] at h2
    exact ⟨fun _ => h2, fun h => by cases h⟩
  · cases hy

theorem addTabP_ok {P : Program} {cod : Cod T} {eqk : TypeId → Bool} {w0 : World} {gv : Nat → Option (List (D T))} {bt ut : TypeId} {hd : FuncId → Bool} {fb : TypeId → Bool} {t : Tab T} (h : CfOk ⟨P, cod, t, eqk, w0, gv, bt, ut, hd, fb⟩) {σ τ π : Type} {i : Io T σ} {o : Io T τ} {pe : π → V T} {dp : π} {d : τ} {f : FuncId} {g : σ → Option (Bool × π × τ)}
    (hs : ∀ v x, g v = some x → (x.1 = false → Sim (⟨P, cod, t, eqk, w0, gv, bt, ut, hd, fb⟩ : Cfg T) f (i.enc v).1 (i.enc v).2 (o.enc x.2.2).1 (o.enc x.2.2).2) ∧ (x.1 = true → SimP (⟨P, cod, t, eqk, w0, gv, bt, ut, hd, fb⟩ : Cfg T) f (i.enc v).1 (i.enc v).2 (pe x.2.1))) :
    CfOk (⟨P, cod, addTab f (lineP i o pe dp d g) t, eqk, w0, gv, bt, ut, hd, fb⟩ : Cfg T) := by
  refine addTab_gen h ?_
  intro args hp e x hy hx
  unfold lineP at hy
  split at hy
  · rename_i v hv
    have h1 := i.ok _ _ hv
    simp only [Option.some.injEq] at hy
    subst hy
    have h2 := hs v x hx
    rw [← h1] at h2
    exact h2
  · cases hy

/-- A function, from its own equation. -/
theorem sim_of {c : Cfg T} (hc : Fine c) (hd : DrawOk c) {f : FuncId} {fn : Func} {code : Code} (hf : c.P.funcs[f]? = some fn) (hn : (fn.name == "runtime.NumGoroutine") = false) (hb : fn.body = some code)
    {σ τ : Type} {i : Io T σ} {o : Io T τ} {ps : List Sp} {cuts : Nat → Cuts T τ} {m : Nat} {g : σ → Option τ} (hm : ∀ v, (i.enc v).2.length = m) (hm' : ∀ x, m ≤ (o.enc x).2.length)
    (hg : Good c fn.ntmps m (kret (retK c fn.results.toList m ps o.pat)) (annot (cuts m) code))
    (hrun : ∀ v, g v = runK c fn.ntmps (kret (retK c fn.results.toList m ps o.pat)) (annot (cuts m) code) (entry (i.enc v).1 (i.enc v).2) (endK (kret (retK c fn.results.toList m ps o.pat)))) :
    ∀ v x, g v = some x → Sim c f (i.enc v).1 (i.enc v).2 (o.enc x).1 (o.enc x).2 := by
  intro v x hx
  rw [hrun v] at hx
  have := hm v
  subst this
  exact fn_ok hc hd hf hn hb o.ok hg hx (hm' x)

theorem simP_of {c : Cfg T} (hc : Fine c) (hd : DrawOk c) {f : FuncId} {fn : Func} {code : Code} (hf : c.P.funcs[f]? = some fn) (hn : (fn.name == "runtime.NumGoroutine") = false) (hb : fn.body = some code)
    {σ τ π : Type} {i : Io T σ} {o : Io T τ} {pp : V T → Option π} {pe : π → V T} (hpe : ∀ v p, pp v = some p → v = pe p) (hpv : ∀ p, ∃ t ds, pe p = .pv t ds) {dp : π} {dr : τ} {ps : List Sp} {cuts : Nat → Cuts T (Bool × π × τ)} {m : Nat} {g : σ → Option (Bool × π × τ)} (hm : ∀ v, (i.enc v).2.length = m) (hm' : ∀ x, m ≤ (o.enc x).2.length)
    (hg : Good c fn.ntmps m (kpan (retK c fn.results.toList m ps o.pat) pp dp dr) (annot (cuts m) code))
    (hrun : ∀ v, g v = runK c fn.ntmps (kpan (retK c fn.results.toList m ps o.pat) pp dp dr) (annot (cuts m) code) (entry (i.enc v).1 (i.enc v).2) (endK (kpan (retK c fn.results.toList m ps o.pat) pp dp dr))) :
    ∀ v x, g v = some x → (x.1 = false → Sim c f (i.enc v).1 (i.enc v).2 (o.enc x.2.2).1 (o.enc x.2.2).2) ∧ (x.1 = true → SimP c f (i.enc v).1 (i.enc v).2 (pe x.2.1)) := by
  intro v x hx
  rw [hrun v] at hx
  have := hm v
  subst this
  exact fnP_ok hc hd hf hn hb o.ok hpe hpv hg hx (hm' x.2.2)

theorem asT_l {t t' : TypeId} {xs : List (T t')} {ys : List (T t)} (h : asT t t' xs = some ys) : (D.l t' xs : D T) = D.l t ys := by
  unfold asT at h
  split at h
  · rename_i h1; subst h1; simp at h; rw [h]
  · cases h

theorem asT_a {t t' : TypeId} {xs : List (T t')} {ys : List (T t)} (h : asT t t' xs = some ys) : (Obj.arr t' xs : Obj T) = Obj.arr t ys := by
  unfold asT at h
  split at h
  · rename_i h1; subst h1; simp at h; rw [h]
  · cases h

theorem asM_a {kk kk' : Option IntKind} {t t' : TypeId} {es : List (KTy kk' × T t')} {ys : List (KTy kk × T t)} (h : asM kk t kk' t' es = some ys) : (Obj.mp kk' t' es : Obj T) = Obj.mp kk t ys := by
  unfold asM at h
  split at h
  · rename_i h1; obtain ⟨rfl, rfl⟩ := h1; simp at h; rw [h]
  · cases h

theorem good_nil {c : Cfg T} {nt m : Nat} {ρ : Type} {kr : Kr T ρ} (cuts : Cuts T ρ) (h : ∀ k, cuts k = none) : ∀ code : Code, Good c nt m kr (annot cuts code)
  | .skip | .region _ _ _ | .exit _ | .ret | .refuse _ | .rangeFunc _ _ _ _ | .scope _ | .label _ | .goto _ => trivial
  | .seq a b => by
    simp only [annot, h]
    exact ⟨good_nil cuts h a, good_nil cuts h b⟩
  | .cond c a b => ⟨good_nil cuts h a, good_nil cuts h b⟩
  | .block id a => good_nil cuts h a
  | .loop a => by simp only [annot, h]; trivial

/-- The places of a code that are cut. -/
def cutsAt (p : Nat → Bool) : Code → List (Nat × Code)
  | .seq a b => cutsAt p a ++ (bif p (2 * key b) then [(2 * key b, b)] else cutsAt p b)
  | .cond _ a b => cutsAt p a ++ cutsAt p b
  | .block _ a => cutsAt p a
  | .loop a => bif p (2 * key a + 1) then [(2 * key a + 1, .loop a)] else []
  | _ => []

def CutsOk (c : Cfg T) (nt m : Nat) {ρ : Type} (kr : Kr T ρ) (cuts : Cuts T ρ) : List (Nat × Code) → Prop
  | [] => True
  | (n, a) :: r => (∀ f, cuts n = some f → Sound c nt m kr a f) ∧ CutsOk c nt m kr cuts r

theorem CutsOk.mem {c : Cfg T} {nt m : Nat} {ρ : Type} {kr : Kr T ρ} {cuts : Cuts T ρ} : ∀ {l : List (Nat × Code)}, CutsOk c nt m kr cuts l → ∀ n a, (n, a) ∈ l → ∀ f, cuts n = some f → Sound c nt m kr a f
  | [], _, n, a, hm, _, _ => by simp at hm
  | (n', a') :: r, h, n, a, hm, f, hf => by
    simp only [List.mem_cons, Prod.mk.injEq] at hm
    rcases hm with ⟨rfl, rfl⟩ | hm
    · exact h.1 f hf
    · exact CutsOk.mem h.2 n a hm f hf

theorem good_mem {c : Cfg T} {nt m : Nat} {ρ : Type} {kr : Kr T ρ} {cuts : Cuts T ρ} : ∀ (code : Code), (∀ n a, (n, a) ∈ cutsAt (fun n => (cuts n).isSome) code → ∀ f, cuts n = some f → Sound c nt m kr a f) → Good c nt m kr (annot cuts code)
  | .skip, _ | .region _ _ _, _ | .exit _, _ | .ret, _ | .refuse _, _ | .rangeFunc _ _ _ _, _ | .scope _, _ | .label _, _ | .goto _, _ => trivial
  | .seq a b, h => by
    simp only [annot]
    refine ⟨good_mem a fun n x hm => h n x (by simp only [cutsAt, List.mem_append]; exact .inl hm), ?_⟩
    cases hk : cuts (2 * key b) with
    | none => exact good_mem b fun n x hm => h n x (by simp only [cutsAt, List.mem_append, hk, Option.isSome_none, cond_false]; exact .inr hm)
    | some f => exact h (2 * key b) b (by simp [cutsAt, hk]) f hk
  | .cond x a b, h => ⟨good_mem a fun n y hm => h n y (by simp only [cutsAt, List.mem_append]; exact .inl hm), good_mem b fun n y hm => h n y (by simp only [cutsAt, List.mem_append]; exact .inr hm)⟩
  | .block id a, h => good_mem a fun n y hm => h n y (by simp only [cutsAt]; exact hm)
  | .loop a, h => by
    simp only [annot]
    cases hk : cuts (2 * key a + 1) with
    | none => trivial
    | some f => exact h (2 * key a + 1) (.loop a) (by simp [cutsAt, hk]) f hk

theorem good_cuts {c : Cfg T} {nt m : Nat} {ρ : Type} {kr : Kr T ρ} {cuts : Cuts T ρ} {code : Code} {l : List (Nat × Code)} (hl : cutsAt (fun n => (cuts n).isSome) code = l) (h : CutsOk c nt m kr cuts l) :
    Good c nt m kr (annot cuts code) := good_mem code (by rw [hl]; exact h.mem)

def bodyOf (f : Func) : Code := match f.body with
  | some c => c
  | none => .skip

/-- The code at a cut; of a loop its body. -/
def findC (n : Nat) : Code → Option Code
  | .seq a b => match findC n a with
    | some c => some c
    | none => bif (2 * key b).beq n then some b else findC n b
  | .cond _ a b => match findC n a with
    | some c => some c
    | none => findC n b
  | .block _ a => findC n a
  | .loop a => bif (2 * key a + 1).beq n then some a else findC n a
  | _ => none

def findD (n : Nat) (c : Code) : Code := match findC n c with
  | some x => x
  | none => .skip

end Go.Ev
