/- A part of the evaluator of Go code over small heaps and of its proof: no condition beyond those that each theorem names. -/
import Derived.Test.YtdnnaneifaoooaaDoorEvShL
import Derived.Shelf.Strings.Repeat
set_option linter.unusedVariables false
set_option linter.unusedSimpArgs false
set_option linter.constructorNameAsVariable false
namespace Go.Ev
open Go.Shelf Go.RowKit Go.Proofs
variable {T : TypeId → Type}

def repS (s : List UInt8) (n : Int) : Option (List UInt8) := cond (decide (0 ≤ n ∧ n ≤ 9223372036854775807) && decide (s.length * n.toNat ≤ 140737488355328)) (some (Lib.repeatL s n.toNat)) none

theorem sim_repS {c : Cfg T} {ρ : Ren} (L : Lays.n105 c.P ρ) (X : Builder.Extra c.P ρ) {s r : List UInt8} {n : Int} (h : repS s n = some r) :
    Sim c (ρ.f 105) [.d (.s s), .d (.i .i64 n)] [] [.d (.s r)] [] := by
  obtain ⟨h1, rfl⟩ := cond_someD h
  simp only [Bool.and_eq_true, decide_eq_true_eq] at h1
  refine pure_sim (y := .string ⟨(Lib.repeatL s n.toNat).toArray⟩) ⟨_, L.f105, rfl, rfl⟩ (fun η w => by simp only [pack, RV]; exact .s _) fun w xs η hH hx => ?_
  simp only [RVs, RV] at hx
  obtain ⟨x, _, rfl, hx, y, _, rfl, hy, rfl⟩ := hx
  cases hx; cases hy
  have hn : n = (n.toNat : Int) := by omega
  have := Any.strings_Repeat L X ⟨s.toArray⟩ n.toNat w (by omega) h1.2
  rw [← hn] at this
  exact this

end Go.Ev
