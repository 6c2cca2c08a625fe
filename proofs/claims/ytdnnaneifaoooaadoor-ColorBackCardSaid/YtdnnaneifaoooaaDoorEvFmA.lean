/- strconv.FormatUint at base 16 as the evaluator's table wants it. No condition beyond those that each theorem names. -/
import Derived.Test.YtdnnaneifaoooaaDoorEvFm
import Derived.Test.YtdnnaneifaoooaaDoorEvShI
set_option linter.unusedVariables false
set_option linter.unusedSimpArgs false
namespace Go.Ev.Fm
open Go.RowKit Go.Shelf Go.Proofs
variable {T : TypeId → Type}

def dbTab : List Int := [0, 1, 56, 2, 57, 49, 28, 3, 61, 58, 42, 50, 38, 29, 17, 4, 62, 47, 59, 36, 45, 43, 51, 22, 53, 39, 33, 30, 24, 18, 12, 5, 63, 55, 48, 27, 60, 41, 37, 16, 46, 35, 44, 21, 52, 32, 23, 11, 54, 26, 40, 15, 34, 20, 31, 10, 25, 14, 19, 9, 13, 8, 7, 6]

/-- Nine digits. -/
def fmtS (n b : Int) : Option (List UInt8) := cond (decide (4294967296 ≤ n ∧ n < 8589934592) && (b == 16)) (some (hexL n.toNat)) none

theorem sim_fmt {c : Cfg T} (hP : c.P = Tryd.prog) (hm : Lib.TabIs c.P c.w0 "math/bits.deBruijn64tab" .u8 dbTab) {n b : Int} {r : List UInt8} (h : fmtS n b = some r) :
    Sim c 60 [.d (.i .u64 n), .d (.i .i64 b)] [] [.d (.s r)] [] := by
  unfold fmtS at h
  obtain ⟨h1, rfl⟩ := cond_someD h
  rw [Bool.and_eq_true, decide_eq_true_eq] at h1
  obtain ⟨⟨h1, h2⟩, h3⟩ := h1
  have h3 := eq_of_beq h3
  subst h3
  refine pure_sim (y := .string ⟨(hexL n.toNat).toArray⟩) ⟨Tryd.f60, by rw [hP]; exact Tryd.func60, by kernel_rfl, by kernel_rfl⟩ (fun η w => by simp only [pack, RV]; exact .s _) fun w xs η hH hx => ?_
  simp only [RVs, RV] at hx
  obtain ⟨x, _, rfl, hx, y, _, rfl, hy, rfl⟩ := hx
  cases hx; cases hy
  have hw := TabIs.now hm hH
  rw [hP] at hw ⊢
  have hcell : w.cell? ⟨11, 15, none⟩ = some (.int .u8 4) := by
    unfold Lib.TabIs World.var? at hw
    rw [show Tryd.prog.globalNamed "math/bits.deBruijn64tab" = some 11 by kernel_rfl] at hw
    simp only [Option.bind_some] at hw
    split at hw
    · rename_i cs t fr hb
      simp only [Option.some.injEq] at hw
      subst hw
      simp [World.cell?, hb, dbTab]
    · cases hw
  have hn : n = (n.toNat : Int) := by omega
  have := fmt60 w hcell (cell_lt (off := 15) hcell) n.toNat (by omega) (by omega)
  rw [← hn] at this
  exact this

end Go.Ev.Fm
