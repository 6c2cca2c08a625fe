/- A part of the evaluator of Go code over small heaps and of its proof: no condition beyond those that each theorem names. -/
import Derived.Test.YtdnnaneifaoooaaDoorEvCo
import Derived.Test.YtdnnaneifaoooaaDoorEvNum
set_option linter.unusedVariables false
set_option linter.unusedSimpArgs false
set_option linter.constructorNameAsVariable false
set_option maxRecDepth 100000
namespace Go.Ev.Co
open Go.Ev

theorem red_eq : clerestorykeep2_red 60 = some true := by kernel_rfl

/-- A number without its lowest byte. -/
theorem nat_high (w m : Nat) (hw : 8 ≤ w) (hm : m < 2 ^ w) : m &&& ((2 ^ (w - 8) - 1) <<< 8) = m / 256 * 256 := by
  have e : m / 256 * 256 = (m >>> 8) <<< 8 := by rw [Nat.shiftLeft_eq, Nat.shiftRight_eq_div_pow]
  rw [e]
  apply Nat.eq_of_testBit_eq
  intro i
  rw [Nat.testBit_and, Nat.testBit_shiftLeft, Nat.testBit_shiftLeft, Nat.testBit_two_pow_sub_one, Nat.testBit_shiftRight]
  by_cases h8 : 8 ≤ i
  · by_cases hi : i < w
    · have : i - 8 < w - 8 := by omega
      simp [h8, this, show 8 + (i - 8) = i by omega]
    · have hf : m.testBit i = false := Nat.testBit_lt_two_pow (Nat.lt_of_lt_of_le hm (Nat.pow_le_pow_right (by decide) (by omega)))
      simp [h8, hf, show 8 + (i - 8) = i by omega]
  · simp [h8]

theorem high_u32 {n : Int} (h0 : 0 ≤ n) (h1 : n < 4294967296) : (((BitVec.ofInt (IntKind.bits .u32) n &&& ~~~BitVec.ofInt (IntKind.bits .u32) (255 : Int)).toNat : Nat) : Int) = n / 256 * 256 := by
  obtain ⟨m, rfl⟩ := Int.eq_ofNat_of_zero_le h0
  have e1 : BitVec.ofInt 32 ((m : Nat) : Int) = BitVec.ofNat 32 m := by rw [BitVec.ofInt_natCast]
  have e2 : (~~~BitVec.ofInt 32 (255 : Int)) = BitVec.ofNat 32 ((2 ^ (32 - 8) - 1) <<< 8) := rfl
  show (((BitVec.ofInt 32 ((m : Nat) : Int) &&& ~~~BitVec.ofInt 32 (255 : Int)).toNat : Nat) : Int) = _
  rw [e1, e2, BitVec.toNat_and, BitVec.toNat_ofNat, BitVec.toNat_ofNat, Nat.mod_eq_of_lt (show m < 2 ^ 32 by omega), Nat.mod_eq_of_lt (show (2 ^ (32 - 8) - 1) <<< 8 < 2 ^ 32 by decide), nat_high 32 m (by decide) (by omega)]
  omega

theorem high_i64 {n : Int} (h0 : 0 ≤ n) (h1 : n < 4294967296) : (((BitVec.ofInt (IntKind.bits .i64) n &&& ~~~BitVec.ofInt (IntKind.bits .i64) (255 : Int)).toNat : Nat) : Int) = n / 256 * 256 := by
  obtain ⟨m, rfl⟩ := Int.eq_ofNat_of_zero_le h0
  have e1 : BitVec.ofInt 64 ((m : Nat) : Int) = BitVec.ofNat 64 m := by rw [BitVec.ofInt_natCast]
  have e2 : (~~~BitVec.ofInt 64 (255 : Int)) = BitVec.ofNat 64 ((2 ^ (64 - 8) - 1) <<< 8) := rfl
  show (((BitVec.ofInt 64 ((m : Nat) : Int) &&& ~~~BitVec.ofInt 64 (255 : Int)).toNat : Nat) : Int) = _
  rw [e1, e2, BitVec.toNat_and, BitVec.toNat_ofNat, BitVec.toNat_ofNat, Nat.mod_eq_of_lt (show m < 2 ^ 64 by omega), Nat.mod_eq_of_lt (show (2 ^ (64 - 8) - 1) <<< 8 < 2 ^ 64 by decide), nat_high 64 m (by decide) (by omega)]
  omega

theorem part0 (k : Nat) (c : Int) : color_part k c 0 = some (c % 4294967296 % 256) := by
  unfold color_part
  have e1 : IntKind.wrap .i64 (8 * 0) = 0 := rfl
  simp only [e1]
  rw [cond_dec (by omega), wrap_u32 c]
  have e2 : (2 : Int) ^ (min (0 : Int).toNat (IntKind.bits .u32)) = 1 := rfl
  rw [e2, fdiv_u 1 (by omega), Int.ediv_one, and_255 (by omega) (by omega), wrap_u32, wrap_i64 (by omega) (by omega)]
  congr 1
  omega

/-- A number between 0 and 1000. -/
def cl (n : Int) : Int := if (1000 : Int) < (if (0 : Int) > n then (0 : Int) else n) then (1000 : Int) else (if (0 : Int) > n then (0 : Int) else n)

theorem cl_bd (n : Int) : 0 ≤ cl n ∧ cl n ≤ 1000 := by
  unfold cl
  repeat' split
  all_goals omega

theorem cl_mono {a b : Int} (h : a ≤ b) : cl a ≤ cl b := by
  unfold cl
  repeat' split
  all_goals omega

/-- How clear it is then. -/
def fd (c n : Int) : Int := c % 256 * cl n / 1000

theorem fd_bd (c n : Int) : 0 ≤ fd c n ∧ fd c n ≤ c % 256 := by
  have h1 := cl_bd n
  have h2 : 0 ≤ c % 256 := Int.emod_nonneg _ (by omega)
  have h3 := mul_bd h2 (Int.le_refl _) h1.1 h1.2
  unfold fd
  omega

theorem Fade_eq (k : Nat) (c n : Int) : color_Fade k c n = some (c % 4294967296 / 256 * 256 + fd (c % 4294967296) n) := by
  obtain ⟨d, hd⟩ : ∃ d, d = c % 4294967296 := ⟨_, rfl⟩
  have hd0 : 0 ≤ d ∧ d < 4294967296 := by omega
  unfold color_Fade
  simp only [part0, wrap_u32, Option.bind_some]
  rw [← hd]
  have hb := fd_bd d n
  have hr : 0 ≤ d % 256 ∧ d % 256 < 256 := by omega
  have hc := cl_bd n
  have hp := mul_bd hr.1 (show d % 256 ≤ 255 by omega) hc.1 hc.2
  have h1000 : ((1000 : Int) != 0) = true := rfl
  show cond ((1000 : Int) != 0) _ _ = _
  rw [h1000, cond_true]
  have e1 : IntKind.wrap .i64 (d % 256 * cl n) = d % 256 * cl n := wrap_i64 (by omega) (by omega)
  have e2 : IntKind.wrap .i64 (Int.tdiv (IntKind.wrap .i64 (d % 256 * (if (1000 : Int) < (if (0 : Int) > n then (0 : Int) else n) then (1000 : Int) else (if (0 : Int) > n then (0 : Int) else n)))) 1000) = fd d n := by
    show IntKind.wrap .i64 (Int.tdiv (IntKind.wrap .i64 (d % 256 * cl n)) 1000) = _
    rw [e1, tdiv_u 1000 hp.1]
    exact wrap_i64 (by unfold fd at hb; omega) (by unfold fd at hb; omega)
  have e3 : (((BitVec.ofInt (IntKind.bits .u32) d &&& ~~~BitVec.ofInt (IntKind.bits .u32) (255 : Int)).toNat : Nat) : Int) % 4294967296 = d / 256 * 256 := by
    rw [high_u32 hd0.1 hd0.2]; omega
  simp only [e2, e3]
  rw [wrap_i64 (n := d / 256 * 256) (by omega) (by omega), or_byte (by omega) (by omega) hb.1 (by omega)]

theorem clears_law (a1 a2 a3 : Int) : ∃ k, clerestorykeep2_ColorClears k a1 a2 a3 = some true := by
  refine ⟨60, ?_⟩
  unfold clerestorykeep2_ColorClears
  rw [red_eq]
  simp only [Option.bind_some, Fade_eq]
  obtain ⟨d, hd⟩ : ∃ d, d = a1 % 4294967296 := ⟨_, rfl⟩
  rw [← hd]
  have hd0 : 0 ≤ d ∧ d < 4294967296 := by omega
  obtain ⟨x, hx⟩ : ∃ x, x = (if a3 < a2 then a3 else a2) := ⟨_, rfl⟩
  obtain ⟨y, hy⟩ : ∃ y, y = (if a3 > a2 then a3 else a2) := ⟨_, rfl⟩
  have hxy : x ≤ y := by rw [hx, hy]; repeat' split; all_goals omega
  rw [← hx, ← hy]
  have hr : 0 ≤ d % 256 ∧ d % 256 < 256 := by omega
  have bx := fd_bd d x
  have by_ := fd_bd d y
  have hm : fd d x ≤ fd d y := by
    unfold fd
    exact Int.ediv_le_ediv (by omega) (Int.mul_le_mul_of_nonneg_left (cl_mono hxy) hr.1)
  have f1 : fd d 1000 = d % 256 := by
    show d % 256 * 1000 / 1000 = _
    omega
  have f0 : fd d 0 = 0 := by
    show d % 256 * 0 / 1000 = _
    omega
  have t : ∀ z, 0 ≤ z → z < 256 → Int.tmod (d / 256 * 256 + z) 256 = z ∧ Int.tdiv (d / 256 * 256 + z) 256 = d / 256 := by
    intro z h1 h2
    rw [tmod_u 256 (by omega), tdiv_u 256 (by omega)]
    omega
  have tx := t _ bx.1 (by omega)
  have ty := t _ by_.1 (by omega)
  have t0 := t 0 (by omega) (by omega)
  have w1 : IntKind.wrap .i64 (d / 256) = d / 256 := wrap_i64 (by omega) (by omega)
  have w2 : IntKind.wrap .i64 (IntKind.wrap .u32 a1) = d := by rw [wrap_u32, ← hd]; exact wrap_i64 (by omega) (by omega)
  have e : d / 256 * 256 + d % 256 = d := by omega
  simp only [f1, f0, tx.1, tx.2, ty.1, ty.2, t0.1, w1, w2, e, decide_eq_true hm]
  simp

end Go.Ev.Co
