/- Functions with one deferred closure: where they return, and where a panic is caught. No condition beyond those that each theorem names. -/
import Derived.Test.YtgoglplnajofnaaGreatDoorEvLib
import Derived.Defers
import Derived.Recover
set_option linter.unusedVariables false
set_option linter.unusedSimpArgs false
set_option linter.constructorNameAsVariable false
namespace Go.Ev
variable {T : TypeId → Type}

/-- A deferred closure does nothing that is read where its frame returns. -/
def Idle (c : Cfg T) (fc : FuncId) (n : Nat) : Prop :=
  ∀ (η : Eta) (w : World) (H : List (Obj T)) (vs : List (V T)) (xs : List Value), RelH (rc c) η H w → (∀ id, H.length ≤ id → η id = none) → RVs (rc c) η w vs xs → vs.length = n →
    CallsD c.P fc xs.toArray .returning w fun e u' w' => (∃ z, e = .returned z) ∧ u' = .returning ∧
      ∃ η', Evo η η' w w' ∧ Keeps η η' ∧ RelH (rc c) η' H w' ∧ (∀ id, H.length ≤ id → η' id = none)

/-- Where its frame panics it catches that, and turns some objects. -/
def Catch (c : Cfg T) (fc : FuncId) (F : V T → List (V T) → List (Obj T) → Option (List (Obj T))) : Prop :=
  ∀ (η : Eta) (w : World) (H H' : List (Obj T)) (v : V T) (y : Value) (vs : List (V T)) (xs : List Value), RelH (rc c) η H w → (∀ id, H.length ≤ id → η id = none) → RV (rc c) η w v y → RVs (rc c) η w vs xs → F v vs H = some H' →
    CallsD c.P fc xs.toArray (.panicking [{ v := y, recovered := false }]) w fun e u' w' => (∃ z, e = .returned z) ∧ u' = .panicking [{ v := y, recovered := true }] ∧
      ∃ η', Evo η η' w w' ∧ Keeps η η' ∧ RelH (rc c) η' H' w' ∧ (∀ id, H'.length ≤ id → η' id = none)

/-- What such a closure does behind its asking for the panic: the objects at its end. -/
def runCl (c : Cfg T) (nt : Nat) (t2 t5 : Tmp) (rest : Code) (v : V T) (vs : List (V T)) (H : List (Obj T)) : Option (List (Obj T)) :=
  runK c nt (kret fun s => some s.heap) (annot (fun _ => none) rest) (((entry vs H).set (some t5) v).set (some t2) v) fun ex s => match ex with
    | .norm => some s.heap
    | .exit _ => none

theorem wpS_recover {P : Program} {id : Nat} {t5 t2 : Tmp} {ty1 ty2 : TypeId} {p1 p2 : String} {e1 e2 : Array Edge} {Q : Exit → Act → List Frame → World → Prop} {a : Act} {c₀ : Frame} {cs : List Frame} {w : World} {y : Value} {u u' : FrameMode}
    (ht : t5 < a.tmps.size) (hu : c₀.mode = u) (hrec : ∀ (c₀ : Frame) cs, c₀.mode = u → recoverD (c₀ :: cs) = some (y, { c₀ with mode := u' } :: cs) ∨ (recoverD (c₀ :: cs) = none ∧ y = .nilIface ∧ u' = u))
    (h : Q .normal ((a.put (some t5) y).put (some t2) y) ({ c₀ with mode := u' } :: cs) w) :
    (Code.region id #[⟨some t5, .call { callee := .builtin .recover, args := #[], argTypes := #[] }, ty1, p1, e1, none⟩, ⟨some t2, .assign (.tmp t5), ty2, p2, e2, none⟩] false).wpS P Q a (c₀ :: cs) w := by
  apply wpS_region
  have hev : (a.put (some t5) y).eval (.tmp t5) = y := by rw [eval_put ht]; simp
  have h1 : (execOp a.eval ⟨some t5, .call { callee := .builtin .recover, args := #[], argTypes := #[] }, ty1, p1, e1, none⟩).run P w = .ok .recover w := by simp [execOp, go_sem]
  have h2 : (execOp (a.put (some t5) y).eval ⟨some t2, .assign (.tmp t5), ty2, p2, e2, none⟩).run P w = .ok (.value y) w := by simp [execOp, hev]
  have hr : List.range (#[(⟨some t5, .call { callee := .builtin .recover, args := #[], argTypes := #[] }, ty1, p1, e1, none⟩ : Oper), ⟨some t2, .assign (.tmp t5), ty2, p2, e2, none⟩]).size = [0, 1] := rfl
  rw [hr]
  simp only [wpOpsS, List.getElem?_toArray, List.getElem?_cons_zero, List.getElem?_cons_succ, Region.wanted, if_true, h1]
  rcases hrec c₀ cs hu with h3 | ⟨h3, rfl, rfl⟩
  · rw [h3]
    simp only [h2, Oper.upon_value]
    exact h
  · rw [h3]
    simp only [h2, Oper.upon_value]
    have : ({ c₀ with mode := u' } : Frame) = c₀ := by subst hu; rfl
    rw [this] at h
    exact h

theorem Bd.put {c : Cfg T} {nt : Nat} {η : Eta} {s : St T} {a : Act} {w : World} (h : Bd c nt η s a w) {t : Tmp} (ht : t < nt) {v : V T} {y : Value} (hv : RV (rc c) η w v y) (hg : ∀ j p u, v ≠ .gd j p u) :
    Bd c nt η (s.set (some t) v) (a.put (some t) y) w := by
  refine ⟨h.def0, by rw [put_size]; exact h.size, fun t' => ?_, fun t' j p u => ?_, h.heap, h.fresh⟩
  · rw [set_env, eval_put (Nat.lt_of_lt_of_le ht h.size)]
    by_cases ht' : t' = t
    · subst ht'
      rw [if_pos rfl, if_pos rfl]
      exact hv
    · rw [if_neg (by simpa using Ne.symm ht'), if_neg ht']; exact h.env t'
  · rw [set_env]
    split
    · exact hg j p u
    · exact h.ng t' j p u

/-- What is asked behind it. -/
def ClQ (c : Cfg T) (u' : FrameMode) (H' : List (Obj T)) (η : Eta) (w : World) (e : Ending) (u : FrameMode) (w' : World) : Prop :=
  (∃ z, e = .returned z) ∧ u = u' ∧ ∃ η', Evo η η' w w' ∧ Keeps η η' ∧ RelH (rc c) η' H' w' ∧ (∀ id, H'.length ≤ id → η' id = none)

theorem clos_run {c : Cfg T} (hc : Fine c) (hd : DrawOk c) {fc : FuncId} {fn : Func} {id : Nat} {t5 t2 : Tmp} {ty1 ty2 : TypeId} {p1 p2 : String} {e1 e2 : Array Edge} {rest : Code}
    (hf : c.P.funcs[fc]? = some fn) (hb : fn.body = some (.seq (.region id #[⟨some t5, .call { callee := .builtin .recover, args := #[], argTypes := #[] }, ty1, p1, e1, none⟩, ⟨some t2, .assign (.tmp t5), ty2, p2, e2, none⟩] false) rest))
    (hres : fn.results = #[]) (h5 : t5 < fn.ntmps) (h2 : t2 < fn.ntmps) {u u' : FrameMode} {v : V T} {y : Value} {vs : List (V T)} {xs : List Value} {H H' : List (Obj T)} {η : Eta} {w : World}
    (hrec : ∀ (c₀ : Frame) cs, c₀.mode = u → recoverD (c₀ :: cs) = some (y, { c₀ with mode := u' } :: cs) ∨ (recoverD (c₀ :: cs) = none ∧ y = .nilIface ∧ u' = u))
    (hH : RelH (rc c) η H w) (hfr : ∀ id, H.length ≤ id → η id = none) (hv : RV (rc c) η w v y) (hg : ∀ j p u, v ≠ .gd j p u) (hvs : RVs (rc c) η w vs xs)
    (hrun : runCl c fn.ntmps t2 t5 rest v vs H = some H') : CallsD c.P fc xs.toArray u w (ClQ c u' H' η w) := by
  refine callsD_of_wpS hf hb fun c₀ cs hu => ?_
  apply wpS_seq
  have hB := entry_bd (nt := fn.ntmps) hH hfr hvs
  have hv' : RV (rc c) (η.to []) w v y := RV.dfr _ _ _ hv
  refine wpS_recover (y := y) (u := u) (u' := u') (Nat.lt_of_lt_of_le h5 hB.size) hu hrec ?_
  refine wpS_of_wp ?_
  have hB2 := (hB.put h5 hv' hg).put h2 hv' hg
  have hfin : ∀ s a w' η1, Bd c fn.ntmps η1 s a w' → Evo (η.to []) η1 w w' → KeepsTo H.length (η.to []) η1 → some s.heap = some H' →
      a.defers = [] ∧ ∃ u'', ({ c₀ with mode := u' } :: cs : List Frame) = { c₀ with mode := u'' } :: cs ∧ ∃ v, (results fn a.tmps).run c.P w' = .ok v w' ∧ ClQ c u' H' η w (.returned v) u'' w' := by
    intro s a w' η1 hB1 he hk h1
    simp only [Option.some.injEq] at h1
    subst h1
    refine ⟨by rw [hB1.def0, he.df]; rfl, u', rfl, .tuple #[], by simp [results, hres], ⟨_, rfl⟩, rfl, η1.to η.df, ⟨he.size, he.same, he.own, he.far, rfl, he.rest⟩, ?_, hB1.heap.dfr _, hB1.fresh⟩
    intro id r hr
    rcases Nat.lt_or_ge id H.length with h3 | h3
    · exact hk id h3 r hr
    · rw [hfr id h3] at hr; cases hr
  have hK := runK_ok hc hd fn.ntmps H.length (kret fun s => some s.heap) (annot (fun _ => none) rest) (good_nil _ (fun _ => rfl) rest) H'
    (fun e a' w' => bodyPostS c.P fn c₀ cs (ClQ c u' H' η w) e a' ({ c₀ with mode := u' } :: cs) w')
    (fun ex s => match ex with
      | .norm => some s.heap
      | .exit _ => none) (η.to []) w (fun s a w' η1 hB1 he hk h1 => hfin s a w' η1 hB1 he hk h1) (fun v y s a w' η1 _ _ _ _ h1 => by cases h1)
    (fun ex s a w' η1 hB1 he hk h1 => by
      cases ex with
      | norm => exact hfin s a w' η1 hB1 he hk h1
      | exit i => cases h1)
    (η.to []) _ _ w hB2 (Evo.refl _ w) ((Keeps.refl _).to _) hrun
  rw [annot_code] at hK
  exact hK

def nils {α : Type} : Nat → List α → List α
  | 0, h => h
  | k + 1, h => nils k h ++ []

theorem nils_eq {α : Type} : ∀ (k : Nat) (h : List α), nils k h = h
  | 0, h => rfl
  | k + 1, h => by rw [nils, List.append_nil, nils_eq k h]

theorem idle_ok {c : Cfg T} (hc : Fine c) (hd : DrawOk c) {fc : FuncId} {fn : Func} {id : Nat} {t5 t2 : Tmp} {ty1 ty2 : TypeId} {p1 p2 : String} {e1 e2 : Array Edge} {rest : Code}
    (hf : c.P.funcs[fc]? = some fn) (hb : fn.body = some (.seq (.region id #[⟨some t5, .call { callee := .builtin .recover, args := #[], argTypes := #[] }, ty1, p1, e1, none⟩, ⟨some t2, .assign (.tmp t5), ty2, p2, e2, none⟩] false) rest))
    (hres : fn.results = #[]) (h5 : t5 < fn.ntmps) (h2 : t2 < fn.ntmps) {n : Nat} (k : Nat) (hrun : ∀ (vs : List (V T)) (H : List (Obj T)), runCl c fn.ntmps t2 t5 rest (.d .ni) vs H = some (nils k H)) : Idle c fc n := by
  intro η w H vs xs hH hfr hvs hn
  refine clos_run hc hd hf hb hres h5 h2 (v := .d .ni) (y := .nilIface) (fun c₀ cs hu => .inr ⟨?_, rfl, rfl⟩) hH hfr (by simp only [RV]; exact .ni) (fun j p u h => by cases h) hvs (by rw [hrun vs H, nils_eq])
  simp [recoverD, hu]

theorem catch_ok {c : Cfg T} (hc : Fine c) (hd : DrawOk c) {fc : FuncId} {fn : Func} {id : Nat} {t5 t2 : Tmp} {ty1 ty2 : TypeId} {p1 p2 : String} {e1 e2 : Array Edge} {rest : Code}
    (hf : c.P.funcs[fc]? = some fn) (hb : fn.body = some (.seq (.region id #[⟨some t5, .call { callee := .builtin .recover, args := #[], argTypes := #[] }, ty1, p1, e1, none⟩, ⟨some t2, .assign (.tmp t5), ty2, p2, e2, none⟩] false) rest))
    (hres : fn.results = #[]) (h5 : t5 < fn.ntmps) (h2 : t2 < fn.ntmps) {F : V T → List (V T) → List (Obj T) → Option (List (Obj T))}
    (hF : ∀ v vs H H', F v vs H = some H' → (∃ t ds, v = .pv t ds) ∧ runCl c fn.ntmps t2 t5 rest v vs H = some H') : Catch c fc F := by
  intro η w H H' v y vs xs hH hfr hv hvs h
  obtain ⟨⟨t, ds, rfl⟩, hrun⟩ := hF _ _ _ _ h
  refine clos_run hc hd hf hb hres h5 h2 (y := y) (fun c₀ cs hu => .inl ?_) hH hfr hv (fun j p u h => by cases h) hvs hrun
  simp [recoverD, hu]

/-- What the closure does with a panic's value. -/
def runF (c : Cfg T) (nt : Nat) (t2 t5 : Tmp) (rest : Code) (v : V T) (vs : List (V T)) (H : List (Obj T)) : Option (List (Obj T)) := match v with
  | .pv t ds => runCl c nt t2 t5 rest (.pv t ds) vs H
  | _ => none

theorem runF_ok {c : Cfg T} {nt : Nat} {t2 t5 : Tmp} {rest : Code} : ∀ v vs H H', runF c nt t2 t5 rest v vs H = some H' → (∃ t ds, v = .pv t ds) ∧ runCl c nt t2 t5 rest v vs H = some H' := by
  intro v vs H H' h
  unfold runF at h
  split at h
  · exact ⟨⟨_, _, rfl⟩, h⟩
  · cases h

def seqR : Code → Code
  | .seq _ b => b
  | _ => .skip

theorem Bd.dfr {c : Cfg T} {nt : Nat} {η : Eta} {s : St T} {a : Act} {w : World} (d : List Deferred) (h : Bd c nt η s a w) : Bd c nt (η.to d) s { a with defers := d } w :=
  ⟨rfl, h.size, fun t => RV.dfr d _ _ (h.env t), h.ng, h.heap.dfr d, h.fresh⟩

theorem Evo.dfr {η η' : Eta} {w w' : World} (d : List Deferred) (h : Evo η η' w w') : Evo (η.to d) (η'.to d) w w' := ⟨h.size, h.same, h.own, h.far, rfl, h.rest⟩

/-- Behind what was laid by to be called: the closure catches, or does nothing; the results are read then. -/
def kcat {τ : Type} (ret : St T → Option τ) (F : V T → List (V T) → List (Obj T) → Option (List (Obj T))) (vs : List (V T)) : Kr T τ :=
  ⟨ret, fun v s => (F v vs s.heap).bind fun H => ret ⟨s.env, H⟩⟩

def noCuts {ρ : Type} : Cuts T ρ := fun _ => none

/-- A function that begins with two pieces, then defers a closure. -/
def runDf (c : Cfg T) (nt : Nat) {τ : Type} (ret : St T → Option τ) (F : V T → List (V T) → List (Obj T) → Option (List (Obj T))) (A C B : Code) (tk : Tmp) (fc : FuncId) (caps : List Operand) (s : St T) : Option τ :=
  runK c nt (kret ret) (annot noCuts A) s fun ex s1 => match ex with
    | .norm => runK c nt (kret ret) (annot noCuts C) s1 fun ex s2 => match ex with
      | .norm => runK c nt (kcat ret F (caps.map (ev s2))) (annot noCuts B) (s2.set (some tk) (.fn fc (caps.map (ev s2)))) (endK (kcat ret F (caps.map (ev s2))))
      | .exit _ => none
    | .exit _ => none

/-- The pieces of a function that defers. -/
def seqA : Code → Code
  | .seq a _ => a
  | _ => .skip
def seqC : Code → Code
  | .seq _ (.seq c _) => c
  | _ => .skip
def seqB : Code → Code
  | .seq _ (.seq _ (.seq _ b)) => b
  | _ => .skip

theorem leaves_none {P : Program} {fn : Func} {tmps : Array Value} {R : Ending → World → Prop} {w : World} {v : Value} (h1 : (results fn tmps).run P w = .ok v w) (h2 : R (.returned v) w) : Leaves P fn tmps R [] .returning w := ⟨v, h1, h2⟩

/-- The region that defers. -/
theorem wp_defer {P : Program} {id : Nat} {tk : Tmp} {fc : FuncId} {caps : Array Operand} {ty1 ty2 : TypeId} {p1 p2 : String} {e1 e2 : Array Edge} {Q : Exit → Act → World → Prop} {a : Act} {w : World} (htk : tk < a.tmps.size)
    (h : Q .normal { (a.put (some tk) (.func (.func fc) #[] (caps.map a.eval))) with defers := { target := .fn (.func fc) (caps.map a.eval), args := #[] } :: a.defers } w) :
    (Code.region id #[⟨some tk, .makeFunc (.func fc) #[] caps, ty1, p1, e1, none⟩, ⟨none, .defer ⟨.value (.tmp tk), #[], #[]⟩, ty2, p2, e2, none⟩] false).wp P Q a w := by
  refine wp_region ?_
  have hr : List.range (#[(⟨some tk, .makeFunc (.func fc) #[] caps, ty1, p1, e1, none⟩ : Oper), ⟨none, .defer ⟨.value (.tmp tk), #[], #[]⟩, ty2, p2, e2, none⟩]).size = [0, 1] := rfl
  rw [hr]
  simp only [wpOps]
  simp only [List.getElem?_toArray, List.getElem?_cons_zero, List.getElem?_cons_succ, Region.wanted, if_true]
  left
  unfold Oper.wp
  have h1 : (execOp a.eval ⟨some tk, .makeFunc (.func fc) #[] caps, ty1, p1, e1, none⟩).run P w = .ok (.value (.func (.func fc) #[] (caps.map a.eval))) w := by simp [execOp, Instr.makeFunc]
  rw [h1, Oper.upon_value]
  left
  have hev : (a.put (some tk) (.func (.func fc) #[] (caps.map a.eval))).eval (.tmp tk) = .func (.func fc) #[] (caps.map a.eval) := by rw [eval_put htk]; simp
  have h2 : (execOp (a.put (some tk) (.func (.func fc) #[] (caps.map a.eval))).eval ⟨none, .defer ⟨.value (.tmp tk), #[], #[]⟩, ty2, p2, e2, none⟩).run P w = .ok (.defer { target := .fn (.func fc) (caps.map a.eval), args := #[] }) w := by
    simp only [execOp, resolve, hev]
    simp [Deferred.ofValue]
  rw [h2, Oper.upon_defer]
  exact h

theorem fn_defer {c : Cfg T} (hc : Fine c) (hd : DrawOk c) {f : FuncId} {fn : Func} {A C B : Code} {id : Nat} {tk : Tmp} {fc : FuncId} {caps : Array Operand} {ty1 ty2 : TypeId} {p1 p2 : String} {e1 e2 : Array Edge}
    (hf : c.P.funcs[f]? = some fn) (hn : (fn.name == "runtime.NumGoroutine") = false) (htk : tk < fn.ntmps) (hfc : ∃ g, c.P.funcs[fc]? = some g ∧ (g.name == "runtime.NumGoroutine") = false ∧ g.body.isNone = false)
    (hb : fn.body = some (.seq A (.seq C (.seq (.region id #[⟨some tk, .makeFunc (.func fc) #[] caps, ty1, p1, e1, none⟩, ⟨none, .defer ⟨.value (.tmp tk), #[], #[]⟩, ty2, p2, e2, none⟩] false) B))))
    {τ : Type} {enc : τ → List (V T) × List (Obj T)} {ps : List Sp} {pat : List (V T) × List (Obj T) → Option τ} (hpat : ∀ z x, pat z = some x → z = enc x)
    {F : V T → List (V T) → List (Obj T) → Option (List (Obj T))} (hid : Idle c fc caps.size) (hcat : Catch c fc F)
    {args : List (V T)} {h : List (Obj T)} {x : τ}
    (hrun : runDf c fn.ntmps (retK c fn.results.toList h.length ps pat) F A C B tk fc caps.toList (entry args h) = some x) (hlen : h.length ≤ (enc x).2.length) : Sim c f args h (enc x).1 (enc x).2 := by
  refine ⟨⟨fn, hf, hn, by simp [hb]⟩, hlen, fun η w xs hH hfr hargs => ?_⟩
  refine calls_of_wp_defers hf hb ?_
  have hgood : ∀ (m : Nat) (kr : Kr T τ) (code : Code), Good c fn.ntmps m kr (annot noCuts code) := fun m kr code => good_nil _ (fun _ => rfl) code
  generalize hret : retK c fn.results.toList h.length ps pat = ret at hrun
  -- where it returns with nothing deferred
  have hQ : ∀ s a w' η1, Bd c fn.ntmps η1 s a w' → Evo (η.to []) η1 w w' → KeepsTo h.length (η.to []) η1 → ret s = some x → bodyPostD c.P fn (FnQ c false (enc x).1 (enc x).2 η w) .ret a w' := by
    intro s a w' η1 hB he hk h1
    rw [← hret] at h1
    obtain ⟨v, v1, v2⟩ := fnq_ret hc (fn := fn) hfr hB he hk h1 hpat rfl
    show Leaves c.P fn a.tmps _ a.defers .returning w'
    rw [show a.defers = [] by rw [hB.def0, he.df]; rfl]
    exact leaves_none v1 v2
  unfold runDf at hrun
  refine wp_seq ?_
  have hA := runK_ok hc hd fn.ntmps h.length (kret ret) (annot noCuts A) (hgood _ _ _) x (Exit.then ((Code.seq C (.seq (.region id #[⟨some tk, .makeFunc (.func fc) #[] caps, ty1, p1, e1, none⟩, ⟨none, .defer ⟨.value (.tmp tk), #[], #[]⟩, ty2, p2, e2, none⟩] false) B)).wp c.P
    (bodyPostD c.P fn (FnQ c false (enc x).1 (enc x).2 η w))) (bodyPostD c.P fn (FnQ c false (enc x).1 (enc x).2 η w))) _ (η.to []) w hQ (fun v y s a w' η1 _ _ _ _ h1 => by cases h1) ?_ (η.to []) (entry args h)
    { tmps := xs.toArray ++ Array.replicate (fn.ntmps - xs.toArray.size) undef, defers := [] } w (entry_bd hH hfr hargs) (Evo.refl _ w) ((Keeps.refl _).to _) hrun
  · rw [annot_code] at hA; exact hA
  intro ex1 s1 a1 w1 η1 hB1 he1 hk1 h1
  cases ex1 with
  | exit i => cases h1
  | norm =>
  refine wp_seq ?_
  have hC := runK_ok hc hd fn.ntmps h.length (kret ret) (annot noCuts C) (hgood _ _ _) x (Exit.then ((Code.seq (.region id #[⟨some tk, .makeFunc (.func fc) #[] caps, ty1, p1, e1, none⟩, ⟨none, .defer ⟨.value (.tmp tk), #[], #[]⟩, ty2, p2, e2, none⟩] false) B).wp c.P
    (bodyPostD c.P fn (FnQ c false (enc x).1 (enc x).2 η w))) (bodyPostD c.P fn (FnQ c false (enc x).1 (enc x).2 η w))) _ (η.to []) w hQ (fun v y s a w' η1 _ _ _ _ h1 => by cases h1) ?_ η1 s1 a1 w1 hB1 he1 hk1 h1
  · rw [annot_code] at hC; exact hC
  intro ex2 s2 a2 w2 η2 hB2 he2 hk2 h2
  cases ex2 with
  | exit i => cases h2
  | norm =>
  simp only at h2
  refine wp_seq (wp_defer (Nat.lt_of_lt_of_le htk hB2.size) ?_)
  show B.wp c.P _ _ w2
  have hd0 : a2.defers = [] := by rw [hB2.def0, he2.df]; rfl
  rw [hd0]
  generalize hvals : caps.map a2.eval = vals
  generalize hvs : caps.toList.map (ev s2) = vs at h2
  have hrv : RVs (rc c) η2 w2 vs vals.toList := by
    rw [← hvs, ← hvals, Array.toList_map]
    refine RVs_map (fun o => ?_) _
    have := rd_ok (hB2.run #[]).rd (G := []) (fun _ hm => by simp at hm) o
    unfold rd at this
    cases hv : ev s2 o with
    | gd j p u =>
      exfalso
      cases o with
      | tmp t => exact hB2.ng t j p u hv
      | const k => exact cV_not_gd hv
      | global g => cases hv
      | func g => cases hv
    | _ => rw [hv] at this; exact this
  let d : Deferred := { target := .fn (.func fc) vals, args := #[] }
  have hinv : ∀ w' : World, (invoke (.fn (.func fc) vals) #[]).run c.P w' = .ok (.enter fc vals) w' := by
    intro w'
    obtain ⟨g, g1, g2, g3⟩ := hfc
    have h2' : ¬ (g.name = "runtime.NumGoroutine") := by simpa using g2
    have h3' : ¬ (g.body = none) := by intro h4; rw [h4] at g3; simp at g3
    simp [invoke, callFunc, g1, h2', h3']
  have hB3 : Bd c fn.ntmps (η2.to [d]) (s2.set (some tk) (.fn fc vs)) { (a2.put (some tk) (.func (.func fc) #[] vals)) with defers := [d] } w2 := by
    refine ⟨rfl, by show fn.ntmps ≤ (a2.put (some tk) _).tmps.size; rw [put_size]; exact hB2.size, fun t => ?_, fun t j p u => ?_, hB2.heap.dfr _, hB2.fresh⟩
    · refine RV.dfr _ _ _ ?_
      show RV (rc c) η2 w2 _ ((a2.put (some tk) (.func (.func fc) #[] vals)).eval (.tmp t))
      rw [set_env, eval_put (Nat.lt_of_lt_of_le htk hB2.size)]
      by_cases ht : t = tk
      · subst ht
        rw [if_pos rfl, if_pos rfl]
        simp only [RV]
        exact ⟨vals.toList, by simp, hrv⟩
      · rw [if_neg (by simpa using Ne.symm ht), if_neg ht]; exact hB2.env t
    · rw [set_env]
      split
      · simp
      · exact hB2.ng t j p u
  have hkall : ∀ η4, KeepsTo s2.heap.length (η2.to [d]) η4 → Keeps (η2.to [d]) η4 := by
    intro η4 hk id' r hr
    rcases Nat.lt_or_ge id' s2.heap.length with h3 | h3
    · exact hk id' h3 r hr
    · have := hB2.fresh id' h3
      have hr' : η2.m id' = some r := hr
      rw [this] at hr'; cases hr'
  -- what the results are, where all is done
  have hend : ∀ s a w' η4, Bd c fn.ntmps η4 s a w' → Evo (η2.to [d]) η4 w2 w' → Keeps (η2.to [d]) η4 → ret s = some x → Leaves c.P fn a.tmps (FnQ c false (enc x).1 (enc x).2 η w) [] .returning w' := by
    intro s a w' η4 hB4 he4 hk4 h4
    rw [← hret] at h4
    have hE : Evo (η.to []) (η4.to []) w w' := (he2.dfr []).trans (he4.dfr [])
    have hK : KeepsTo h.length (η.to []) (η4.to []) := by
      intro id' hid r hr
      exact (hk2 id' hid r hr).then fun r' hr' => hk4 id' r' hr'
    obtain ⟨v, v1, v2⟩ := fnq_ret hc (fn := fn) hfr (hB4.dfr []) hE hK h4 hpat rfl
    exact leaves_none v1 v2
  have hBk := runK_ok hc hd fn.ntmps s2.heap.length (kcat ret F vs) (annot noCuts B) (hgood _ _ _) x (bodyPostD c.P fn (FnQ c false (enc x).1 (enc x).2 η w)) (endK (kcat ret F vs)) (η2.to [d]) w2 ?_ ?_ ?_
    (η2.to [d]) (s2.set (some tk) (.fn fc vs)) _ w2 hB3 (Evo.refl _ w2) ((Keeps.refl _).to _) h2
  · rw [annot_code] at hBk; exact hBk
  · -- it returns
    intro s a w' η4 hB4 he4 hk4 h4
    show Leaves c.P fn a.tmps _ a.defers .returning w'
    rw [show a.defers = [d] by rw [hB4.def0, he4.df]; rfl]
    refine leaves_cons (by simp) (hinv w') ?_
    have hvs4 : RVs (rc c) η4 w' vs vals.toList := RVs.mono he4 (hkall η4 hk4) _ _ (RVs.dfr _ _ _ hrv)
    have := hid η4 w' s.heap vs vals.toList hB4.heap hB4.fresh hvs4 (by rw [← hvs]; simp)
    rw [show vals.toList.toArray = vals by simp] at this
    refine this.mono ?_
    rintro e u' w'' ⟨⟨v, rfl⟩, rfl, η5, he5, hk5, hH5, hf5⟩
    have hB5 : Bd c fn.ntmps η5 ⟨s.env, s.heap⟩ a w'' := ⟨by rw [he5.df]; exact hB4.def0, hB4.size, fun t => RV.mono he5 hk5 _ _ (hB4.env t), hB4.ng, hH5, hf5⟩
    exact hend ⟨s.env, s.heap⟩ a w'' η5 hB5 (he4.trans he5) ((hkall η4 hk4).trans hk5) h4
  · -- it panics
    intro v y s a w' η4 hB4 hv he4 hk4 h4
    show Leaves c.P fn a.tmps _ a.defers (.panicking _) w'
    rw [show a.defers = [d] by rw [hB4.def0, he4.df]; rfl]
    simp only [kcat, Option.bind_eq_some_iff] at h4
    obtain ⟨H', hF, h4⟩ := h4
    refine leaves_cons (by simp) (hinv w') ?_
    have hvs4 : RVs (rc c) η4 w' vs vals.toList := RVs.mono he4 (hkall η4 hk4) _ _ (RVs.dfr _ _ _ hrv)
    have := hcat η4 w' s.heap H' v y vs vals.toList hB4.heap hB4.fresh hv hvs4 hF
    rw [show vals.toList.toArray = vals by simp] at this
    refine this.mono ?_
    rintro e u' w'' ⟨⟨z, rfl⟩, rfl, η5, he5, hk5, hH5, hf5⟩
    show Leaves c.P fn a.tmps _ [] (settle _) w''
    have hB5 : Bd c fn.ntmps η5 ⟨s.env, H'⟩ a w'' := ⟨by rw [he5.df]; exact hB4.def0, hB4.size, fun t => RV.mono he5 hk5 _ _ (hB4.env t), hB4.ng, hH5, hf5⟩
    exact hend ⟨s.env, H'⟩ a w'' η5 hB5 (he4.trans he5) ((hkall η4 hk4).trans hk5) h4
  · -- it comes to its end
    intro ex s a w' η4 hB4 he4 hk4 h4
    cases ex with
    | exit i => cases h4
    | norm =>
      show Leaves c.P fn a.tmps _ a.defers .returning w'
      rw [show a.defers = [d] by rw [hB4.def0, he4.df]; rfl]
      refine leaves_cons (by simp) (hinv w') ?_
      have hvs4 : RVs (rc c) η4 w' vs vals.toList := RVs.mono he4 (hkall η4 hk4) _ _ (RVs.dfr _ _ _ hrv)
      have := hid η4 w' s.heap vs vals.toList hB4.heap hB4.fresh hvs4 (by rw [← hvs]; simp)
      rw [show vals.toList.toArray = vals by simp] at this
      refine this.mono ?_
      rintro e u' w'' ⟨⟨v, rfl⟩, rfl, η5, he5, hk5, hH5, hf5⟩
      have hB5 : Bd c fn.ntmps η5 ⟨s.env, s.heap⟩ a w'' := ⟨by rw [he5.df]; exact hB4.def0, hB4.size, fun t => RV.mono he5 hk5 _ _ (hB4.env t), hB4.ng, hH5, hf5⟩
      exact hend ⟨s.env, s.heap⟩ a w'' η5 hB5 (he4.trans he5) ((hkall η4 hk4).trans hk5) h4

end Go.Ev
