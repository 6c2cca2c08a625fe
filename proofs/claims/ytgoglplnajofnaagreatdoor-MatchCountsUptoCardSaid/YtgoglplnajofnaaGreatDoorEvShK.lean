/- strings.Count of one byte, as a Sim: no condition beyond those that each theorem names. -/
import Derived.Test.YtgoglplnajofnaaGreatDoorEvShL
import Derived.Shelf.Strings.Count
set_option linter.unusedVariables false
namespace Go.Ev
open Go.Shelf Go.RowKit Go.Proofs
variable {T : TypeId → Type}

def cntS (s t : List UInt8) : Option Int := match t with
  | [c] => some ((Lib.countByte s c : Nat) : Int)
  | _ => none

theorem sim_cnt {c : Cfg T} {ρ : Ren} (L : Lays.n138 c.P ρ) {s t : List UInt8} {r : Int} (h : cntS s t = some r) :
    Sim c (ρ.f 138) [.d (.s s), .d (.s t)] [] [.d (.i .i64 r)] [] := by
  unfold cntS at h
  split at h
  · rename_i b
    cases h
    refine pure_sim (y := .int .i64 (Lib.countByte s b : Nat)) ⟨_, L.f138, rfl, rfl⟩ (fun η w => by simp only [pack, RV]; exact .i _ _) fun w xs η hH hx => ?_
    rw [two_s hx]
    refine (Any.strings_Count_one L ⟨s.toArray⟩ b w).mono ?_
    rintro e w' ⟨rfl, rfl⟩
    exact ⟨rfl, Below.refl _ _⟩
  · cases h

end Go.Ev
