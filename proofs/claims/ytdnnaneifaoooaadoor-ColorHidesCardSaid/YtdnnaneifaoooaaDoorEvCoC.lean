/- A part of the evaluator of Go code over small heaps and of its proof: no condition beyond those that each theorem names. -/
import Derived.Test.YtdnnaneifaoooaaDoorEvCoB
set_option linter.unusedVariables false
set_option linter.unusedSimpArgs false
set_option linter.constructorNameAsVariable false
set_option maxRecDepth 100000
namespace Go.Ev.Co
open Go.Ev

theorem nat_or255 (m : Nat) : m ||| 255 = m / 256 * 256 + 255 := by
  have h := Nat.shiftLeft_add_eq_or_of_lt (show 255 < 2 ^ 8 by omega) (m / 256)
  rw [Nat.shiftLeft_eq, show (2 : Nat) ^ 8 = 256 by decide] at h
  rw [h]
  apply Nat.eq_of_testBit_eq
  intro i
  rw [Nat.testBit_or, Nat.testBit_or, show m / 256 * 256 = (m >>> 8) <<< 8 by rw [Nat.shiftLeft_eq, Nat.shiftRight_eq_div_pow], Nat.testBit_shiftLeft, Nat.testBit_shiftRight, show (255 : Nat) = 2 ^ 8 - 1 by decide, Nat.testBit_two_pow_sub_one]
  by_cases h8 : 8 ≤ i
  · simp [h8, show ¬ i < 8 by omega, show 8 + (i - 8) = i by omega]
  · simp [h8, show i < 8 by omega]

theorem or255 {n : Int} (h0 : 0 ≤ n) (h1 : n < 4294967296) : IntKind.wrap .i64 (((BitVec.ofInt (IntKind.bits .i64) n ||| BitVec.ofInt (IntKind.bits .i64) (255 : Int)).toNat : Nat) : Int) = n / 256 * 256 + 255 := by
  obtain ⟨m, rfl⟩ := Int.eq_ofNat_of_zero_le h0
  have e1 : BitVec.ofInt 64 ((m : Nat) : Int) = BitVec.ofNat 64 m := by rw [BitVec.ofInt_natCast]
  have e2 : BitVec.ofInt 64 (255 : Int) = BitVec.ofNat 64 255 := rfl
  show IntKind.wrap .i64 (((BitVec.ofInt 64 ((m : Nat) : Int) ||| BitVec.ofInt 64 (255 : Int)).toNat : Nat) : Int) = _
  rw [e1, e2, BitVec.toNat_or, BitVec.toNat_ofNat, BitVec.toNat_ofNat, Nat.mod_eq_of_lt (show m < 2 ^ 64 by omega), show 255 % 2 ^ 64 = 255 by decide, nat_or255, wrap_i64 (by omega) (by omega)]
  omega

theorem ov_hides (t u : Int) (ht0 : 0 ≤ t) (ht : t < 4294967296) (h : t % 256 = 255) : ov t u = t := by
  unfold ov
  rw [h]
  have ha : ∀ b : Int, al 255 b = 255 := fun b => by unfold al; omega
  have hm : ∀ x y b : Int, 0 ≤ x → x ≤ 255 → mx x y 255 b = x := by
    intro x y b h0 h1
    unfold mx
    have e : (x * 255 * 255 + y * b * (255 - 255)) / (al 255 b * 255) = x := by
      rw [ha, show (255 : Int) - 255 = 0 by omega, Int.mul_zero]; omega
    rw [e]
    split <;> omega
  rw [ha, if_neg (by omega), hm _ _ _ (by omega) (by omega), hm _ _ _ (by omega) (by omega), hm _ _ _ (by omega) (by omega)]
  omega

theorem ov_clear (t u : Int) (hu0 : 0 ≤ u) (hu : u < 4294967296) (h : t % 256 = 0) : ov t u = if u % 256 = 0 then 0 else u := by
  unfold ov
  rw [h]
  have ha : ∀ b : Int, al 0 b = b := fun b => by unfold al; rw [Int.zero_mul]; omega
  obtain ⟨b, hb⟩ : ∃ b, b = u % 256 := ⟨_, rfl⟩
  rw [← hb, ha]
  by_cases h0 : b = 0
  · rw [if_pos h0, if_pos h0]
  · rw [if_neg h0, if_neg h0]
    have hm : ∀ x y : Int, 0 ≤ y → y ≤ 255 → mx x y 0 b = y := by
      intro x y h1 h2
      unfold mx
      have e : (x * 0 * 255 + y * b * (255 - 0)) / (al 0 b * 255) = y := by
        rw [ha, Int.mul_zero, Int.zero_mul, Int.zero_add, show (255 : Int) - 0 = 255 by omega, Int.mul_assoc]
        exact Int.mul_ediv_cancel _ (by omega)
      rw [e]
      split <;> omega
    rw [hm _ _ (by omega) (by omega), hm _ _ (by omega) (by omega), hm _ _ (by omega) (by omega)]
    omega

/-- The parts of what is seen. -/
theorem ov_parts (t u : Int) (ht0 : 0 ≤ t) (ht : t < 4294967296) (hu0 : 0 ≤ u) (hu : u < 4294967296) :
    0 ≤ ov t u ∧ ov t u < 4294967296 ∧ (∀ M, t / 256 % 256 ≤ M → u / 256 % 256 ≤ M → M ≤ 255 → ov t u / 256 % 256 ≤ M) ∧ (∀ M, t / 65536 % 256 ≤ M → u / 65536 % 256 ≤ M → M ≤ 255 → ov t u / 65536 % 256 ≤ M) ∧
    (∀ M, t / 16777216 % 256 ≤ M → u / 16777216 % 256 ≤ M → M ≤ 255 → ov t u / 16777216 % 256 ≤ M) ∧ t % 256 ≤ ov t u % 256 ∧ u % 256 ≤ ov t u % 256 := by
  have hab := al_bd (a := t % 256) (b := u % 256) (by omega) (by omega) (by omega) (by omega)
  by_cases h0 : al (t % 256) (u % 256) = 0
  · have : ov t u = 0 := by unfold ov; rw [if_pos h0]
    rw [this]
    refine ⟨by omega, by omega, ?_, ?_, ?_, by omega, by omega⟩ <;> (intro M _ _ _; omega)
  · have hal : 0 < al (t % 256) (u % 256) := by omega
    have b3 := mx_bd (x := t / 16777216 % 256) (y := u / 16777216 % 256) (a := t % 256) (b := u % 256) (by omega) (by omega) (by omega) (by omega) (by omega) (by omega) (by omega) (by omega) hal
    have b2 := mx_bd (x := t / 65536 % 256) (y := u / 65536 % 256) (a := t % 256) (b := u % 256) (by omega) (by omega) (by omega) (by omega) (by omega) (by omega) (by omega) (by omega) hal
    have b1 := mx_bd (x := t / 256 % 256) (y := u / 256 % 256) (a := t % 256) (b := u % 256) (by omega) (by omega) (by omega) (by omega) (by omega) (by omega) (by omega) (by omega) hal
    have l3 := fun M h1 h2 h3 => mx_le (x := t / 16777216 % 256) (y := u / 16777216 % 256) (a := t % 256) (b := u % 256) (M := M) (by omega) h1 (by omega) h2 h3 (by omega) (by omega) (by omega) (by omega) hal
    have l2 := fun M h1 h2 h3 => mx_le (x := t / 65536 % 256) (y := u / 65536 % 256) (a := t % 256) (b := u % 256) (M := M) (by omega) h1 (by omega) h2 h3 (by omega) (by omega) (by omega) (by omega) hal
    have l1 := fun M h1 h2 h3 => mx_le (x := t / 256 % 256) (y := u / 256 % 256) (a := t % 256) (b := u % 256) (M := M) (by omega) h1 (by omega) h2 h3 (by omega) (by omega) (by omega) (by omega) hal
    have hov : ov t u = ((mx (t / 16777216 % 256) (u / 16777216 % 256) (t % 256) (u % 256) * 256 + mx (t / 65536 % 256) (u / 65536 % 256) (t % 256) (u % 256)) * 256 + mx (t / 256 % 256) (u / 256 % 256) (t % 256) (u % 256)) * 256 + al (t % 256) (u % 256) := by
      unfold ov; rw [if_neg h0]
    rw [hov]
    refine ⟨by omega, by omega, fun M h1 h2 h3 => ?_, fun M h1 h2 h3 => ?_, fun M h1 h2 h3 => ?_, by omega, by omega⟩
    · have := l1 M h1 h2 h3; omega
    · have := l2 M h1 h2 h3; omega
    · have := l3 M h1 h2 h3; omega

theorem round (k n : Nat) (t u c i D : Int) (r : Bool) (k0 : Int → Int → Bool → Int → Option Bool) (hi0 : 0 ≤ i) (hi : i < 32) (hD : (2 : Int) ^ (min (IntKind.wrap .u64 i).toNat (IntKind.bits .i64)) = D) (hD0 : 0 < D)
    (ht0 : 0 ≤ t) (hu0 : 0 ≤ u) (hc0 : 0 ≤ c) (hle : ∀ M, t / D % 256 ≤ M → u / D % 256 ≤ M → M ≤ 255 → c / D % 256 ≤ M) :
    clerestorykeep2_ColorHides.c23 k (n + 1) t u r c i k0 = clerestorykeep2_ColorHides.c23 k n t u r c (i + 8) k0 := by
  rw [clerestorykeep2_ColorHides.c23, cond_dec hi]
  have hw : 0 ≤ IntKind.wrap .u64 i := by rw [wrap_u64]; omega
  have h256 : ((256 : Int) != 0) = true := rfl
  simp only [decide_eq_true hw, cond_true, h256, hD]
  have q1 : 0 ≤ t / D := Int.ediv_nonneg ht0 (by omega)
  have q2 : 0 ≤ u / D := Int.ediv_nonneg hu0 (by omega)
  have q3 : 0 ≤ c / D := Int.ediv_nonneg hc0 (by omega)
  rw [fdiv_u D (by omega), fdiv_u D (by omega), fdiv_u D (by omega), tmod_u 256 q1, tmod_u 256 q2, tmod_u 256 q3]
  have := hle (if u / D % 256 > t / D % 256 then u / D % 256 else t / D % 256) (by split <;> omega) (by split <;> omega) (by split <;> omega)
  rw [cond_ndec (by omega), wrap_i64 (by omega) (by omega)]

theorem hides_law (a1 a2 : Int) : ∃ k, clerestorykeep2_ColorHides k a1 a2 = some true := by
  refine ⟨60, ?_⟩
  unfold clerestorykeep2_ColorHides
  rw [red_eq]
  simp only [Option.bind_some, wrap_u32]
  obtain ⟨t, ht⟩ : ∃ t, t = a1 % 4294967296 := ⟨_, rfl⟩
  obtain ⟨u, hu⟩ : ∃ u, u = a2 % 4294967296 := ⟨_, rfl⟩
  have ht0 : 0 ≤ t := by omega
  have ht1 : t < 4294967296 := by omega
  have hu0 : 0 ≤ u := by omega
  have hu1 : u < 4294967296 := by omega
  simp only [← ht, ← hu]
  rw [wrap_i64 (n := t) (by omega) (by omega), wrap_i64 (n := u) (by omega) (by omega)]
  simp only [or255 ht0 ht1, high_i64 ht0 ht1]
  rw [wrap_i64 (n := t / 256 * 256) (by omega) (by omega)]
  rw [Over_eq _ u (by omega) (by omega) hu0 hu1, Over_eq _ u (by omega) (by omega) hu0 hu1, Over_eq t u ht0 ht1 hu0 hu1]
  simp only [Option.bind_some]
  rw [ov_hides _ u (by omega) (by omega) (by omega), ov_clear _ u hu0 hu1 (by omega)]
  have p := ov_parts t u ht0 ht1 hu0 hu1
  obtain ⟨c, hc⟩ : ∃ c, c = ov t u := ⟨_, rfl⟩
  rw [← hc] at p ⊢
  have hself : ∀ z : Int, (z != z) = false := fun z => by simp
  rw [hself, cond_false]
  have h256 : ((256 : Int) != 0) = true := rfl
  simp only [h256, Bool.true_or, cond_true, tmod_u 256 hu0, tmod_u 256 ht0, tmod_u 256 p.1]
  have hcl : (cond (cond ((if u % 256 = 0 then 0 else u) != u) (decide (u % 256 > 0)) false) true (cond ((if u % 256 = 0 then (0 : Int) else u) != 0) (u % 256 == 0) false)) = false := by
    by_cases h : u % 256 = 0
    · simp [h]
    · rw [if_neg h]
      have : (u % 256 == 0) = false := by simpa using h
      simp [this]
  rw [hcl, cond_false]
  rw [round 60 59 t u c 8 256 true _ (by omega) (by omega) rfl (by omega) ht0 hu0 p.1 p.2.2.1]
  rw [round 60 58 t u c (8 + 8) 65536 true _ (by omega) (by omega) rfl (by omega) ht0 hu0 p.1 p.2.2.2.1]
  rw [round 60 57 t u c (8 + 8 + 8) 16777216 true _ (by omega) (by omega) rfl (by omega) ht0 hu0 p.1 p.2.2.2.2.1]
  rw [clerestorykeep2_ColorHides.c23, cond_ndec (by omega)]
  simp only [h256, Bool.true_or, cond_true, tmod_u 256 hu0, tmod_u 256 ht0, tmod_u 256 p.1]
  have hfin : c % 256 ≥ (if u % 256 > t % 256 then u % 256 else t % 256) := by split <;> omega
  simp [hfin]

end Go.Ev.Co
