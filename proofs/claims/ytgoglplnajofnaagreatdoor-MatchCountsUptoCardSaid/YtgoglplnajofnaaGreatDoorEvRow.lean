/- A part of the evaluator of Go code over small heaps and of its proof: no condition beyond those that each theorem names. -/
import Derived.Test.YtgoglplnajofnaaGreatDoorEvOpen
import Derived.Test.YtgoglplnajofnaaGreatDoorEvShL
import Derived.ProofKit
import Derived.LaidMore
import Derived.Lay
import Derived.Lib.LaidU8
import Derived.HandedShaped
import Derived.Shelf.Vars
import Derived.SevenTiedAt
set_option linter.unusedVariables false
set_option linter.constructorNameAsVariable false
namespace Go.Ev
open Go.ChangeShapes Go.WideShapes Go.ChangeAt Go.RowKit
variable {T : TypeId → Type}

/-- The wrap of a row that lists variables, the world's shape kept. -/
theorem returns_laid {H : Type} {enc : TypeId × Value → H} {a : Assume} {C : Checked} {os : Os} {f : FuncId} {fn : Func} {s : ChangeSpec} {conds : List PathCond} {apart fresh handsOn again : Bool} {X : World → Array Value → Prop}
    (hX : ∀ (w w' : World) (args : Array Value), w.heap = w'.heap → X w args → X w' args)
    (own : ownKnob C.prog.godebug = none) (started : os.Started) (noInit : C.prog.inits.idxOf? f = none) (hfn : C.prog.funcs[f]? = some fn)
    (witness : ∃ (w : World) (tape : Tape) (i : Input), w.os = os ∧ (w.forCall tape i).Shaped C.prog ∧ i.vars = [] ∧ Input.okWide C.prog (w.forCall tape i) .any w.heap.size f i ∧
      ((s.pre enc C.prog fn conds apart (w.forCall tape i).memory i.args ∧ X (w.forCall tape i).memory i.args) ∧ sizedMet enc C.prog fn (OpenSpec.ofChange s) apart (w.forCall tape i).memory i.args) ∧ a.holds C.prog (lone (Frame.enter C.prog f i.args .normal) [] (w.forCall tape i)))
    (contract : ∀ (W : World) (base : Nat) (args : Array Value) (ds gs : List (DataW H)) (before : List MemPlace),
      (∀ (j : Nat) t v, fn.params[j]? = some t → args[j]? = some v → Value.okWide C.prog W .any base t v) →
      DataW.Whole enc C.prog fn.params.toList s.vars apart W args.toList ds gs before → X W args → W.ShapedOpen C.prog →
      Calls C.prog f args W fun e W' => ∃ v, e = .returned v ∧ s.post enc C.prog fn apart fresh handsOn again W args v W') :
    ReturnsInHanded a C os f .any (fun w args => (s.pre enc C.prog fn conds apart w args ∧ X w args) ∧ sizedMet enc C.prog fn (OpenSpec.ofChange s) apart w args) (s.post enc C.prog fn apart fresh handsOn again) := by
  refine returnsInHanded_of_calls own started noInit witness ?_
  intro w tape i _ hsh _ hok hpre _
  obtain ⟨_, _, _, fn', hfn', _, _, _, _, hval⟩ := hok
  have e : fn' = fn := Option.some.inj (hfn'.symm.trans hfn)
  subst e
  obtain ⟨⟨⟨ds, gs, before, hw, _⟩, hx⟩, _⟩ := hpre
  have hw' := DataW.Whole.of_heap (w' := w.forCall tape i) (by rfl) hw
  refine (contract (w.forCall tape i) w.heap.size i.args ds gs before hval hw' (hX _ _ _ (by rfl) hx) hsh).mono fun e W' ⟨v, he, hp⟩ => ?_
  subst he
  exact ChangeSpec.post_blind hp

/-- A listed slice of texts, in the first world. -/
theorem strs_gv {c : Cfg T} {n : String} {g t e : TypeId} {ls : List (List UInt8)} {xs : List (T e)} (h : Lib.VarReads c.P c.w0 n (.slice (ls.map fun l => .lit (.string l)) [])) (hg : c.P.globalNamed n = some g)
    (ht : (c.P.globals[g]?).map (·.type) = some t) (hu : c.P.underlying t = some (.slice e)) (he : c.P.underlying e = some .string) (hc : c.P.cellsOf e = 1) (hx : xs.map (c.cod.enc e) = ls.map fun l => [.s l]) :
    g < c.w0.heap.size ∧ ∀ i d, ([D.l e xs] : List (D T))[i]? = some d → ∃ v, c.w0.cell? (at_ g i) = some v ∧ VD (rc c) (fun b => b < c.w0.heap.size) c.w0 d v := by
  obtain ⟨g', t', cs, fuel, p, hg', ht', hv, htr⟩ := h
  obtain rfl := Option.some.inj (hg.symm.trans hg')
  obtain rfl := Option.some.inj (ht.symm.trans ht')
  obtain ⟨a, cap, hcs, hcap, hel⟩ := open_row hu hc htr
  have hlen : xs.length = ls.length := by have := congrArg List.length hx; simpa using this
  have hcell : c.w0.cell? (at_ g 0) = some (.slice (some a) (ls.map fun l => (DataW.lit (.string l) : DataW Unit)).length cap) := by
    have := World.var?_cell hg' hv 0
    rw [Array.eq_one_of_toList hcs] at this
    simpa [at_] using this
  refine ⟨cell_lt hcell, ?_⟩
  intro i d hd
  cases i with
  | succ i => simp at hd
  | zero =>
    simp at hd; subst hd
    refine ⟨_, hcell, ?_⟩
    rw [List.length_map, ← hlen]
    rcases Nat.eq_zero_or_pos xs.length with h0 | h0
    · have := List.eq_nil_of_length_eq_zero h0
      subst this
      exact .nil _ _ _
    · have hget : ∀ i (hi : i < ls.length), ∃ v, c.w0.cell? (a.add i) = some v ∧ v = .string ⟨(ls[i]).toArray⟩ := by
        intro i hi
        obtain ⟨v, m, q, h1, h2⟩ := hel i (.lit (.string ls[i])) (by simp [hi])
        obtain ⟨s, h3, h4, _⟩ := DataW.trod_string he h2
        simp at h3; subst h3
        simp at h4
        refine ⟨_, h1, ?_⟩
        rw [h4.1]
      obtain ⟨v0, h0c, _⟩ := hget 0 (by omega)
      obtain ⟨b, o, rfl⟩ : ∃ b o, a = at_ b o := by
        obtain ⟨b, o, sp⟩ := a
        cases sp with
        | none => exact ⟨b, o, rfl⟩
        | some x =>
          exfalso
          simp [Addr.add, World.cell?] at h0c
          split at h0c <;> simp at h0c
      have hlt : b < c.w0.heap.size := by rw [at_add] at h0c; exact cell_lt h0c
      refine VD.of_arr (R := rc c) (o := o) hlt hlt (by rw [hlen]; simpa using hcap) ?_
      intro i j hi d hd
      have hi' : i < ls.length := by omega
      have h2 : c.cod.enc e xs[i] = [D.s ls[i]] := by
        have := congrArg (fun q => q[i]?) hx
        simp only [List.getElem?_map, List.getElem?_eq_getElem hi, List.getElem?_eq_getElem hi', Option.map_some, Option.some.injEq] at this
        exact this
      have h3 : (rc c).cod.enc e xs[i] = c.cod.enc e xs[i] := rfl
      rw [h3, h2] at hd
      cases j with
      | succ j => simp at hd
      | zero =>
        simp at hd; subst hd
        obtain ⟨v, h4, rfl⟩ := hget i hi'
        refine ⟨_, ?_, .s _⟩
        rw [show (rc c).sz e = 1 from hc, Nat.mul_one, Nat.add_zero]
        rwa [at_add] at h4

/-- An array of texts that reads as a list does. -/
theorem cells_of_strs {H : Type} {enc : TypeId × Value → H} {P : Program} {w : World} {base : Nat} {sp : Nat → Bool} {held : Bool} {fuel : Nat} {t e : TypeId} {n : Nat} {cs : List Value} {zs : List (List UInt8)} {p : List MemPlace}
    (ht : P.underlying t = some (.array n e)) (he : P.underlying e = some .string) (hce : P.cellsOf e = 1) (hct : P.cellsOf t = n)
    (h : DataW.trod enc P w base sp held fuel t cs = some (.agg (zs.map fun z => .lit (.string z)), p)) : cs = zs.map fun z => Value.string ⟨z.toArray⟩ := by
  cases fuel with
  | zero => simp [DataW.trod] at h
  | succ fuel =>
    simp only [DataW.trod, ht, hce, hct, Nat.mul_one] at h
    split at h
    · rename_i hl
      obtain ⟨xs, hm, hx⟩ := Option.map_eq_some_iff.1 h
      have hxs : xs.map (·.1) = zs.map fun z => (DataW.lit (.string z) : DataW H) := by
        have := congrArg Prod.fst hx
        simpa using this
      have hxl : xs.length = n := by simpa using Lib.mapM_length hm
      have hzl : zs.length = n := by
        have := congrArg List.length hxs
        simp at this
        omega
      apply List.ext_getElem?
      intro i
      by_cases hi : i < n
      · obtain ⟨b, hb, hf⟩ := Lib.mapM_at hm i i (by simp [hi])
        obtain ⟨z, hc, rfl, _⟩ := DataW.trod_string he hf
        have h1 : cs[i]? = some (.string z) := by
          have := congrArg (·[0]?) hc
          simpa [List.getElem?_take, List.getElem?_drop] using this
        have h2 : zs[i]? = some z.data.toList := by
          have := congrArg (·[i]?) hxs
          simp only [List.getElem?_map, hb, Option.map_some] at this
          cases hz : zs[i]? with
          | none => rw [hz] at this; cases this
          | some y => rw [hz] at this; simp at this; rw [this]
        rw [h1, List.getElem?_map, h2]
        rfl
      · rw [List.getElem?_eq_none (by omega), List.getElem?_eq_none (by simp; omega)]
    · cases h

/-- A listed array of texts, in the first world. -/
theorem arrs_gv {c : Cfg T} {name : String} {g t e : TypeId} {n : Nat} {ls : List (List UInt8)} (h : Lib.VarReads c.P c.w0 name (.agg (ls.map fun l => .lit (.string l)))) (hg : c.P.globalNamed name = some g)
    (ht : (c.P.globals[g]?).map (·.type) = some t) (hu : c.P.underlying t = some (.array n e)) (he : c.P.underlying e = some .string) (hc : c.P.cellsOf e = 1) (hct : c.P.cellsOf t = n) (hn : 0 < ls.length) :
    g < c.w0.heap.size ∧ ∀ i d, (ls.map fun l => (D.s l : D T))[i]? = some d → ∃ v, c.w0.cell? (at_ g i) = some v ∧ VD (rc c) (fun b => b < c.w0.heap.size) c.w0 d v := by
  obtain ⟨g', t', cs, fuel, p, hg', ht', hv, htr⟩ := h
  obtain rfl := Option.some.inj (hg.symm.trans hg')
  obtain rfl := Option.some.inj (ht.symm.trans ht')
  have hcs := cells_of_strs hu he hc hct htr
  have hcell : ∀ i, c.w0.cell? (at_ g i) = cs[i]? := fun i => World.var?_cell hg' hv i
  have hget : ∀ i (x : List UInt8), ls[i]? = some x → c.w0.cell? (at_ g i) = some (.string ⟨x.toArray⟩) := by
    intro i x hx
    rw [hcell, ← Array.getElem?_toList, hcs, List.getElem?_map, hx]; rfl
  refine ⟨cell_lt (hget 0 ls[0] (by simp [hn])), fun i d hd => ?_⟩
  rw [List.getElem?_map] at hd
  cases hx : ls[i]? with
  | none => rw [hx] at hd; cases hd
  | some x =>
    rw [hx] at hd
    simp at hd; subst hd
    exact ⟨_, hget i x hx, .s _⟩

end Go.Ev
