/- Plain laws of numbers that wrap around, of bits of bytes, and of truth values: no condition beyond those that each theorem names. -/
import Derived.Test.YtgoglplnajofnaaGreatDoorEvLib
set_option linter.unusedVariables false
namespace Go.Ev

theorem wrap_i64 {n : Int} (h1 : -9223372036854775808 ≤ n) (h2 : n ≤ 9223372036854775807) : IntKind.wrap .i64 n = n := by
  unfold IntKind.wrap
  simp only [IntKind.bits, IntKind.signed]
  simp
  omega

theorem wrap_u64 (n : Int) : IntKind.wrap .u64 n = n % 18446744073709551616 := by
  unfold IntKind.wrap
  simp [IntKind.bits, IntKind.signed]

theorem wrap_u32 (n : Int) : IntKind.wrap .u32 n = n % 4294967296 := by
  unfold IntKind.wrap
  simp [IntKind.bits, IntKind.signed]

theorem wrap_u8 (n : Int) : IntKind.wrap .u8 n = n % 256 := by
  unfold IntKind.wrap
  simp [IntKind.bits, IntKind.signed]

theorem tmod_u {n : Int} (m : Int) (h : 0 ≤ n) : Int.tmod n m = n % m := Int.tmod_eq_emod_of_nonneg h

theorem tdiv_u {n : Int} (m : Int) (h : 0 ≤ n) : Int.tdiv n m = n / m := Int.tdiv_eq_ediv_of_nonneg h

theorem and_255 {n : Int} (h0 : 0 ≤ n) (h1 : n < 4294967296) : (((BitVec.ofInt (IntKind.bits .u32) n &&& BitVec.ofInt (IntKind.bits .u32) (255 : Int)).toNat : Nat) : Int) = n % 256 := by
  obtain ⟨m, rfl⟩ := Int.eq_ofNat_of_zero_le h0
  have hm : m < 4294967296 := by omega
  have e1 : BitVec.ofInt 32 ((m : Nat) : Int) = BitVec.ofNat 32 m := by rw [BitVec.ofInt_natCast]
  have e2 : BitVec.ofInt 32 (255 : Int) = BitVec.ofNat 32 255 := rfl
  show (((BitVec.ofInt 32 ((m : Nat) : Int) &&& BitVec.ofInt 32 (255 : Int)).toNat : Nat) : Int) = _
  rw [e1, e2, BitVec.toNat_and, BitVec.toNat_ofNat, BitVec.toNat_ofNat, Nat.mod_eq_of_lt (show m < 2 ^ 32 by omega)]
  have : m &&& 255 % 2 ^ 32 = m % 2 ^ 8 := by
    rw [show 255 % 2 ^ 32 = 2 ^ 8 - 1 by decide, Nat.and_two_pow_sub_one_eq_mod]
  rw [this]; omega

theorem or_byte {n r : Int} (h0 : 0 ≤ n) (h1 : n < 36028797018963968) (h2 : 0 ≤ r) (h3 : r < 256) :
    IntKind.wrap .i64 (((BitVec.ofInt (IntKind.bits .i64) (n * 256) ||| BitVec.ofInt (IntKind.bits .i64) r).toNat : Nat) : Int) = n * 256 + r := by
  obtain ⟨m, rfl⟩ := Int.eq_ofNat_of_zero_le h0
  obtain ⟨s, rfl⟩ := Int.eq_ofNat_of_zero_le h2
  have e1 : BitVec.ofInt 64 ((m : Int) * 256) = BitVec.ofNat 64 (m * 256) := by
    rw [show ((m : Int) * 256) = ((m * 256 : Nat) : Int) by omega, BitVec.ofInt_natCast]
  have e2 : BitVec.ofInt 64 ((s : Nat) : Int) = BitVec.ofNat 64 s := by rw [BitVec.ofInt_natCast]
  show IntKind.wrap .i64 (((BitVec.ofInt 64 ((m : Int) * 256) ||| BitVec.ofInt 64 ((s : Nat) : Int)).toNat : Nat) : Int) = _
  rw [e1, e2, BitVec.toNat_or, BitVec.toNat_ofNat, BitVec.toNat_ofNat, Nat.mod_eq_of_lt (show m * 256 < 2 ^ 64 by omega), Nat.mod_eq_of_lt (show s < 2 ^ 64 by omega)]
  have h := Nat.shiftLeft_add_eq_or_of_lt (show s < 2 ^ 8 by omega) m
  rw [Nat.shiftLeft_eq, show (2 : Nat) ^ 8 = 256 by decide] at h
  rw [← h, wrap_i64 (by omega) (by omega)]
  omega

theorem shl8 (n : Int) : n * 2 ^ (min (8 : Int).toNat (IntKind.bits .i64)) = n * 256 := rfl

theorem fdiv_u {n : Int} (m : Int) (h : 0 ≤ m) : Int.fdiv n m = n / m := Int.fdiv_eq_ediv_of_nonneg n h

theorem mul_bd {x y X Y : Int} (h1 : 0 ≤ x) (h2 : x ≤ X) (h3 : 0 ≤ y) (h4 : y ≤ Y) : 0 ≤ x * y ∧ x * y ≤ X * Y :=
  ⟨Int.mul_nonneg h1 h3, Int.mul_le_mul h2 h4 h3 (by omega)⟩

theorem cond_of_true {α : Type} {b : Bool} {x y : α} (h : b = true) : cond b x y = x := by rw [h]; rfl
theorem cond_of_false {α : Type} {b : Bool} {x y : α} (h : b = false) : cond b x y = y := by rw [h]; rfl
theorem cond_dec {α : Type} {p : Prop} [Decidable p] {x y : α} (h : p) : cond (decide p) x y = x := by rw [decide_eq_true h]; rfl
theorem cond_ndec {α : Type} {p : Prop} [Decidable p] {x y : α} (h : ¬ p) : cond (decide p) x y = y := by rw [decide_eq_false h]; rfl
theorem cond_self {α : Type} {b : Bool} {x : α} : cond b x x = x := by cases b <;> rfl

end Go.Ev
