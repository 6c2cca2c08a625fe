/- SelectNths: what is to be checked of each number from -1000 to 1000; no condition. -/
import Derived.Test.YtpeepnieblmhmaaGreatDoorEvSe
set_option linter.unusedVariables false
set_option maxRecDepth 100000
namespace Go.Ev.Se
open Go.Proofs Go.Ev

theorem listed_60 : clerestorykeep2_listed 60 = some true := by kernel_rfl
def nthHead : List UInt8 := [58, 110, 116, 104, 45, 99, 104, 105, 108, 100, 40]
noncomputable def check (b : Int) : Bool := match dim_Text 60 (IntKind.wrap .i64 ((1000 : Int) * b)) [] with
  | some t => Nat.ble t.length 100 && (match selector_Read 60 ((nthHead ++ t) ++ [41]) with
    | some (e, l) => e == 0 && (match clerestorykeep2_samePaths 60 l [⟨[[⟨8, [], 0, [], 0, b, []⟩]], []⟩] with | some q => q | none => false)
    | none => false)
  | none => false
noncomputable def checks : Nat → Int → Bool
  | 0, _ => true
  | n + 1, b => check b && checks n (b + 1)
theorem of_checks : ∀ (n : Nat) (lo b : Int), checks n lo = true → lo ≤ b → b < lo + n → check b = true
  | 0, lo, b, _, h1, h2 => by omega
  | n + 1, lo, b, h, h1, h2 => by
    simp only [checks, Bool.and_eq_true] at h
    by_cases he : b = lo
    · rw [he]; exact h.1
    · exact of_checks n (lo + 1) b h.2 (by omega) (by omega)
end Go.Ev.Se
