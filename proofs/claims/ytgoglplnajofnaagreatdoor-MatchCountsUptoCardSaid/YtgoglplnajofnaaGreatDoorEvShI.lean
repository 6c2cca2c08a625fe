/- strconv.Itoa as a Sim: no condition beyond those that each theorem names. -/
import Derived.Test.YtgoglplnajofnaaGreatDoorEvShL
import Derived.Shelf.Strconv.Itoa3
import Derived.Lib.LaidTab
import Derived.Lib.LaidU8
import Derived.Lib.AppendIntMem
set_option linter.unusedVariables false
set_option linter.unusedSimpArgs false
namespace Go.Ev
open Go.Shelf Go.RowKit Go.Proofs
variable {T : TypeId → Type}

theorem TabIs.now {c : Cfg T} {η : Eta} {H : List (Obj T)} {w : World} {name : String} {k : IntKind} {zs : List Int} (h : Lib.TabIs c.P c.w0 name k zs) (hH : RelH (rc c) η H w) : Lib.TabIs c.P w name k zs := by
  unfold Lib.TabIs World.var? at h ⊢
  obtain ⟨g, hg, hb⟩ := Option.bind_eq_some_iff.1 h
  rw [hg]
  simp only [Option.bind_some]
  have hlt : g < c.w0.heap.size := by
    rcases Nat.lt_or_ge g c.w0.heap.size with h' | h'
    · exact h'
    · rw [Array.getElem?_eq_none h'] at hb; cases hb
  have := (hH.old g hlt).2.2.2
  rw [this]; exact hb

/-- A listed table, in the first world. -/
theorem tab_reads {P : Program} {w : World} {name : String} {k : IntKind} {zs : List Int} {g : Nat} {t e : TypeId} {n : Nat} (h : Lib.VarReads P w name (Lib.tabData k zs))
    (hg : P.globalNamed name = some g) (hty : (P.globals[g]?).map (·.type) = some t) (ht : P.underlying t = some (.array n e)) (he : P.underlying e = some (.int k)) (hce : P.cellsOf e = 1) (hct : P.cellsOf t = n) :
    Lib.TabIs P w name k zs := by
  obtain ⟨g', t', cs, fuel, p, hg', ht', hvar, hd⟩ := h
  obtain rfl := Option.some.inj (hg.symm.trans hg')
  obtain rfl := Option.some.inj (hty.symm.trans ht')
  unfold Lib.TabIs
  rw [hvar, ← Lib.cells_of_tab ht he hce hct hd]

def itoaS (n : Int) : Option (List UInt8) := cond (decide (-9223372036854775808 ≤ n ∧ n ≤ 9223372036854775807)) (some (Lib.itoa n)) none

theorem one_i {c : Cfg T} {η : Eta} {w : World} {k : IntKind} {n : Int} {xs : List Value} (h : RVs (rc c) η w [.d (.i k n)] xs) : xs = [.int k n] := by
  simp only [RVs, RV] at h
  obtain ⟨x, _, rfl, hx, rfl⟩ := h
  cases hx; rfl

theorem sim_itoa {c : Cfg T} {ρ : Ren} (L : LaysM.n171 c.P ρ) (hm : Lib.TabIs c.P c.w0 "internal/strconv.uint64pow10" .u64 Lib.pow10Tab) {n : Int} {r : List UInt8} (h : itoaS n = some r) :
    Sim c (ρ.f 171) [.d (.i .i64 n)] [] [.d (.s r)] [] := by
  obtain ⟨h1, rfl⟩ := cond_someD h
  have h1 := of_decide_eq_true h1
  refine pure_sim (y := .string ⟨(Lib.itoa n).toArray⟩) ⟨_, L.f171, rfl, rfl⟩ (fun η w => by simp only [pack, RV]; exact .s _) fun w xs η hH hx => ?_
  rw [one_i hx]
  refine (Any.strconv_Itoa L n h1.1 h1.2 w (TabIs.now hm hH)).mono ?_
  rintro e w' ⟨rfl, k, os, rfl⟩
  exact ⟨rfl, Lib.below_grow _ _ (Nat.le_refl _) _ _⟩

end Go.Ev
