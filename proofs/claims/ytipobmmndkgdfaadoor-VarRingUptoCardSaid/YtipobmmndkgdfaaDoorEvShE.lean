/- unicode.SimpleFold at an ASCII rune: no condition beyond those that each theorem names. -/
import Derived.Test.YtipobmmndkgdfaaDoorEvShI
import Derived.Shelf.Strings.Fold
import Derived.Shelf.Unicode.Decode
set_option linter.unusedVariables false
set_option linter.unusedSimpArgs false
namespace Go.Ev
open Go.Shelf Go.RowKit Go.Proofs
variable {P : Program} {ρ : Ren}

/-- What unicode.asciiFold holds. -/
def afN (c : Nat) : Nat := if c = 75 then 107 else if c = 83 then 115 else if c = 107 then 8490 else if c = 115 then 383 else if 65 ≤ c ∧ c ≤ 90 then c + 32 else if 97 ≤ c ∧ c ≤ 122 then c - 32 else c
def afTab : List Int := (List.range 128).map fun c => (afN c : Int)

theorem af_at (c : Nat) (h : c < 128) : afTab.getD c 0 = (afN c : Int) := by simp [afTab, List.getD, h]

set_option maxHeartbeats 1000000 in
set_option maxRecDepth 1000000 in
theorem run_simpleFold (L : Lays.n239 P ρ) (hg : P.globalNamed "unicode.asciiFold" = some (ρ.g 11)) (c : Nat) (hc : c < 128) (w : World) (hT : Lib.TabIs P w "unicode.asciiFold" .u16 afTab) :
    Calls P (ρ.f 239) #[.int .i32 c] w fun e w' => e = .returned (.int .i32 (afN c)) ∧ w' = w := by
  have hcell := hT.cell hg c (by simp [afTab]; exact hc)
  rw [af_at c hc] at hcell
  have hcz : ¬ ((c : Int) < 0) := by omega
  have hcm : ¬ ((1114111 : Int) < (c : Int)) := by omega
  have hcl : (c : Int) < 128 := by omega
  have t3 := L.t3; have a3 := L.a3; have z3 := L.z3; have v3 := L.v3
  have t4 := L.t4; have a4 := L.a4; have z4 := L.z4; have v4 := L.v4
  have t21 := L.t21; have a21 := L.a21; have z21 := L.z21; have v21 := L.v21
  have t156 := L.t156; have a156 := L.a156; have z156 := L.z156; have u156 := run_underlying L.t156
  have t49 := L.t49; have a49 := L.a49; have z49 := L.z49; have v49 := L.v49; have u49 := run_underlying L.t49
  have hw : ∀ k : Nat, k < 2147483648 → IntKind.i32.wrap (k : Int) = (k : Int) := fun k hk => by rw [IntKind.wrap_i32]; omega
  have hafn : afN c < 2147483648 := by unfold afN; split; omega; split; omega; split; omega; split; omega; split; omega; split <;> omega
  go_enter L.f239, Body.n239_ntmps ρ
  go_wp2
  go_ret
  exact ⟨rfl, rfl⟩
end Go.Ev
