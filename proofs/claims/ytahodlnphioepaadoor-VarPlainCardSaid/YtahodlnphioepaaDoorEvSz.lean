/- A law's row where what it reads is no longer than memory: no condition beyond those that each theorem names. -/
import Derived.Test.YtahodlnphioepaaDoorEvRow
set_option linter.unusedVariables false
namespace Go.Ev
open Go.ChangeShapes Go.WideShapes Go.ChangeAt Go.RowKit
variable {T : TypeId → Type}

theorem returns_sized {H : Type} {enc : TypeId × Value → H} {a : Assume} {C : Checked} {os : Os} {f : FuncId} {fn : Func} {s : ChangeSpec} {conds : List PathCond} {apart fresh handsOn again : Bool} {X : World → Array Value → Prop}
    (hX : ∀ (w w' : World) (args : Array Value), w.heap = w'.heap → X w args → X w' args)
    (own : ownKnob C.prog.godebug = none) (started : os.Started) (noInit : C.prog.inits.idxOf? f = none) (hfn : C.prog.funcs[f]? = some fn)
    (witness : ∃ (w : World) (tape : Tape) (i : Input), w.os = os ∧ (w.forCall tape i).Shaped C.prog ∧ i.vars = [] ∧ Input.okWide C.prog (w.forCall tape i) .any w.heap.size f i ∧
      ((s.pre enc C.prog fn conds apart (w.forCall tape i).memory i.args ∧ X (w.forCall tape i).memory i.args) ∧ sizedMet enc C.prog fn (OpenSpec.ofChange s) apart (w.forCall tape i).memory i.args) ∧ a.holds C.prog (lone (Frame.enter C.prog f i.args .normal) [] (w.forCall tape i)))
    (contract : ∀ (W : World) (base : Nat) (args : Array Value) (ds gs : List (DataW H)) (before : List MemPlace),
      (∀ (j : Nat) t v, fn.params[j]? = some t → args[j]? = some v → Value.okWide C.prog W .any base t v) →
      DataW.Whole enc C.prog fn.params.toList s.vars apart W args.toList ds gs before → X W args → W.ShapedOpen C.prog →
      (DataW.weightsEach C.prog (fn.params.toList ++ (OpenSpec.ofChange s).bare.plain.varTypes C.prog) (ds ++ gs)).all (· ≤ reachBytes) = true →
      Calls C.prog f args W fun e W' => ∃ v, e = .returned v ∧ s.post enc C.prog fn apart fresh handsOn again W args v W') :
    ReturnsInHanded a C os f .any (fun w args => (s.pre enc C.prog fn conds apart w args ∧ X w args) ∧ sizedMet enc C.prog fn (OpenSpec.ofChange s) apart w args) (s.post enc C.prog fn apart fresh handsOn again) := by
  refine returnsInHanded_of_calls own started noInit witness ?_
  intro w tape i _ hsh _ hok hpre _
  obtain ⟨_, _, _, fn', hfn', _, _, _, _, hval⟩ := hok
  have e : fn' = fn := Option.some.inj (hfn'.symm.trans hfn)
  subst e
  obtain ⟨⟨_, hx⟩, _, ds, gs, before, hw, hsz⟩ := hpre
  have hw' := DataW.Whole.of_heap (w' := w.forCall tape i) (by rfl) hw
  refine (contract (w.forCall tape i) w.heap.size i.args ds gs before hval hw' (hX _ _ _ (by rfl) hx) hsh hsz).mono fun e W' ⟨v, he, hp⟩ => ?_
  subst he
  exact ChangeSpec.post_blind hp

/-- A text that is handed in is no longer than memory. -/
theorem str_len {H : Type} {enc : TypeId × Value → H} {c : Cfg T} {P : Program} {η : Eta} {W : World} {base : Nat} {spare : Nat → Bool} {held : Bool} {t : TypeId} {v : Value} {d : DataW H} {p : List MemPlace} {l : List UInt8}
    (ht : P.underlying t = some .string) (h : DataW.Trod enc P W base spare held t v d p) (y : RV (rc c) η W (.d (.s l)) v) {r : List Nat} (hs : (d.weights P t ++ r).all (· ≤ reachBytes) = true) : l.length ≤ reachBytes ∧ r.all (· ≤ reachBytes) = true := by
  obtain ⟨m, hm⟩ := h
  obtain ⟨s, h3, h4, _⟩ := DataW.trod_string ht hm
  cases y with
  | s l =>
    have h5 : d = .lit (.string s.data.toList) := by
      have := congrArg Prod.fst h4
      exact this
    have h7 : (Value.string ⟨l.toArray⟩).cells.toList = [Value.string ⟨l.toArray⟩] := rfl
    have h6 : s = ⟨l.toArray⟩ := by
      rw [h7] at h3
      simp only [List.cons.injEq, Value.string.injEq, and_true] at h3
      exact h3.symm
    rw [List.all_append, Bool.and_eq_true] at hs
    refine ⟨?_, hs.2⟩
    have h1 := hs.1
    rw [h5, h6] at h1
    unfold DataW.weights at h1
    simpa using h1

end Go.Ev
