/- strings.IndexByte, as a Sim: no condition beyond those that the theorem names. -/
import Derived.Test.YtgoglplnajofnaaGreatDoorEvShL
import Derived.Shelf.Small.Strs
import Derived.Shelf.Strings.Search2
set_option linter.unusedVariables false
namespace Go.Ev
open Go.Shelf Go.RowKit Go.Proofs
variable {T : TypeId → Type}

def ixbS (s : List UInt8) (c : Int) : Int := Lib.indexByte s c.toNat.toUInt8

theorem sim_ixb {c : Cfg T} {ρ : Ren} (L : Lays.n137 c.P ρ) {s : List UInt8} {b : Int} :
    Sim c (ρ.f 137) [.d (.s s), .d (.i .u8 b)] [] [.d (.i .i64 (ixbS s b))] [] := by
  refine pure_sim (y := .int .i64 (ixbS s b)) ⟨_, L.f137, rfl, rfl⟩ (fun η w => by simp only [pack, RV]; exact .i _ _) fun w xs η hH hx => ?_
  have : xs = [.string ⟨s.toArray⟩, .int .u8 b] := by
    simp only [RVs, RV] at hx
    obtain ⟨x, _, rfl, hx, y, _, rfl, hy, rfl⟩ := hx
    cases hx; cases hy; rfl
  rw [this]
  refine (Any.strings_IndexByte L ⟨s.toArray⟩ b w).mono ?_
  rintro e w' ⟨rfl, rfl⟩
  exact ⟨rfl, Below.refl _ _⟩

/-- internal/stringslite.Index, of the laying of strings.Index. -/
theorem sim_findI {c : Cfg T} {ρ : Ren} (L : Lays.n143 c.P ρ) (hm : NumAt c.w0 (ρ.g 1)) {s t : List UInt8} {r : Int} (h : findS s t = some r) :
    Sim c (ρ.f 219) [.d (.s s), .d (.s t)] [] [.d (.i .i64 r)] [] := by
  obtain ⟨h1, rfl⟩ := cond_someD h
  refine pure_sim (y := .int .i64 (Lib.index s t)) ⟨_, L.f219, rfl, rfl⟩ (fun η w => by simp only [pack, RV]; exact .i _ _) fun w xs η hH hx => ?_
  rw [two_s hx]
  obtain ⟨m, hm'⟩ := hm.now hH
  refine (Any.stringslite_Index { L with } ⟨s.toArray⟩ ⟨t.toArray⟩ m w (by simp [findMax, Nat.blt_eq] at h1; exact h1) hm').mono ?_
  rintro e w' ⟨rfl, rfl⟩
  exact ⟨rfl, Below.refl _ _⟩

end Go.Ev
