/- A part of the evaluator of Go code over small heaps and of its proof: no condition beyond those that each theorem names. -/
import Derived.Test.YtdnnaneifaoooaaDoorEvCoA
set_option linter.unusedVariables false
set_option linter.unusedSimpArgs false
set_option linter.constructorNameAsVariable false
set_option maxRecDepth 100000
namespace Go.Ev.Co
open Go.Ev

theorem part_gen (k : Nat) (c i D : Int) (hc0 : 0 ≤ c) (hc1 : c < 4294967296) (hi : IntKind.wrap .i64 (8 * i) ≥ 0) (hD : (2 : Int) ^ (min (IntKind.wrap .i64 (8 * i)).toNat (IntKind.bits .u32)) = D) (hD0 : 1 ≤ D) :
    color_part k c i = some (c / D % 256) := by
  unfold color_part
  simp only []
  rw [cond_dec (show 0 ≤ IntKind.wrap .i64 (8 * i) by omega), wrap_u32 c, hD, fdiv_u D (by omega)]
  have e : c % 4294967296 = c := by omega
  rw [e]
  have h1 : 0 ≤ c / D := Int.ediv_nonneg hc0 (by omega)
  have h2 : c / D ≤ c := Int.ediv_le_self _ hc0
  rw [and_255 h1 (by omega), wrap_u32, wrap_i64 (by omega) (by omega)]
  congr 1
  omega

theorem part1 (k : Nat) (c : Int) (h0 : 0 ≤ c) (h1 : c < 4294967296) : color_part k c 1 = some (c / 256 % 256) := part_gen k c 1 256 h0 h1 (by decide) rfl (by omega)
theorem part2 (k : Nat) (c : Int) (h0 : 0 ≤ c) (h1 : c < 4294967296) : color_part k c 2 = some (c / 65536 % 256) := part_gen k c 2 65536 h0 h1 (by decide) rfl (by omega)
theorem part3 (k : Nat) (c : Int) (h0 : 0 ≤ c) (h1 : c < 4294967296) : color_part k c 3 = some (c / 16777216 % 256) := part_gen k c 3 16777216 h0 h1 (by decide) rfl (by omega)

/-- How much of both together hides. -/
def al (a b : Int) : Int := a + b - a * b / 255

theorem al_bd {a b : Int} (ha0 : 0 ≤ a) (ha : a ≤ 255) (hb0 : 0 ≤ b) (hb : b ≤ 255) : a ≤ al a b ∧ b ≤ al a b ∧ al a b ≤ 255 ∧ 255 * a + 255 * b - a * b ≤ al a b * 255 := by
  have h1 : 0 ≤ a * b := Int.mul_nonneg ha0 hb0
  have h2 : a * b ≤ 255 * b := Int.mul_le_mul_of_nonneg_right ha hb0
  have h3 : a * b ≤ a * 255 := Int.mul_le_mul_of_nonneg_left hb ha0
  have h4 : 0 ≤ (255 - a) * (255 - b) := Int.mul_nonneg (by omega) (by omega)
  have h5 : (255 - a) * (255 - b) = 65025 - 255 * b - 255 * a + a * b := by
    rw [Int.sub_mul, Int.mul_sub, Int.mul_sub]; omega
  unfold al
  omega

/-- One part of what is seen. -/
def mx (x y a b : Int) : Int := if (255 : Int) < (x * a * 255 + y * b * (255 - a)) / (al a b * 255) then 255 else (x * a * 255 + y * b * (255 - a)) / (al a b * 255)

theorem num_bd {x y a b : Int} (hx0 : 0 ≤ x) (hx : x ≤ 255) (hy0 : 0 ≤ y) (hy : y ≤ 255) (ha0 : 0 ≤ a) (ha : a ≤ 255) (hb0 : 0 ≤ b) (hb : b ≤ 255) :
    (0 ≤ x * a ∧ x * a ≤ 65025) ∧ (0 ≤ y * b ∧ y * b ≤ 65025) ∧ 0 ≤ y * b * (255 - a) ∧ y * b * (255 - a) ≤ 16581375 := by
  have h1 := mul_bd hx0 hx ha0 ha
  have h2 := mul_bd hy0 hy hb0 hb
  have h3 := mul_bd h2.1 h2.2 (show 0 ≤ 255 - a by omega) (show 255 - a ≤ 255 by omega)
  exact ⟨⟨h1.1, by omega⟩, ⟨h2.1, by omega⟩, h3.1, by omega⟩

theorem mx_bd {x y a b : Int} (hx0 : 0 ≤ x) (hx : x ≤ 255) (hy0 : 0 ≤ y) (hy : y ≤ 255) (ha0 : 0 ≤ a) (ha : a ≤ 255) (hb0 : 0 ≤ b) (hb : b ≤ 255) (hal : 0 < al a b) :
    0 ≤ mx x y a b ∧ mx x y a b ≤ 255 := by
  have h := num_bd hx0 hx hy0 hy ha0 ha hb0 hb
  have hq : 0 ≤ (x * a * 255 + y * b * (255 - a)) / (al a b * 255) := Int.ediv_nonneg (by omega) (by omega)
  unfold mx
  split
  · omega
  · omega

theorem mx_le {x y a b M : Int} (hx0 : 0 ≤ x) (hx : x ≤ M) (hy0 : 0 ≤ y) (hy : y ≤ M) (hM : M ≤ 255) (ha0 : 0 ≤ a) (ha : a ≤ 255) (hb0 : 0 ≤ b) (hb : b ≤ 255) (hal : 0 < al a b) : mx x y a b ≤ M := by
  have hbd := (al_bd ha0 ha hb0 hb).2.2.2
  have h1 : x * a * 255 ≤ M * (a * 255) := by
    rw [Int.mul_assoc]; exact Int.mul_le_mul_of_nonneg_right hx (by omega)
  have h2 : y * b * (255 - a) ≤ M * (b * (255 - a)) := by
    rw [Int.mul_assoc]; exact Int.mul_le_mul_of_nonneg_right hy (Int.mul_nonneg hb0 (by omega))
  have h3 : b * (255 - a) = 255 * b - a * b := by rw [Int.mul_sub, Int.mul_comm b a]; omega
  have h4 : M * (a * 255 + b * (255 - a)) ≤ M * (al a b * 255) := Int.mul_le_mul_of_nonneg_left (by omega) (by omega)
  rw [Int.mul_add] at h4
  have h5 : (x * a * 255 + y * b * (255 - a)) / (al a b * 255) ≤ M := by
    refine Int.ediv_le_of_le_mul (by omega) ?_
    omega
  unfold mx
  split <;> omega

theorem shl_wrap {o : Int} (h0 : 0 ≤ o) (h1 : o < 16777216) : IntKind.wrap .i64 (o * 2 ^ (min (8 : Int).toNat (IntKind.bits .i64))) = o * 256 := by
  rw [shl8]; exact wrap_i64 (by omega) (by omega)

theorem step (k n : Nat) (t u o i x y : Int) (a b : Int) (k0 : Int → Int → Option Int) (ha0 : 0 ≤ a) (ha : a ≤ 255) (hb0 : 0 ≤ b) (hb : b ≤ 255) (hal : 0 < al a b) (hi0 : 0 ≤ i) (hi : i < 3) (ho0 : 0 ≤ o) (ho : o < 16777216)
    (hx0 : 0 ≤ x) (hx : x ≤ 255) (hy0 : 0 ≤ y) (hy : y ≤ 255) (hpx : color_part k t (([3, 2, 1] : List Int).getD i.toNat 0) = some x) (hpy : color_part k u (([3, 2, 1] : List Int).getD i.toNat 0) = some y) :
    color_Over.c15 k (n + 1) t u a b (al a b) o 3 2 1 i k0 = color_Over.c15 k n t u a b (al a b) (o * 256 + mx x y a b) 3 2 1 (i + 1) k0 := by
  have hnb := num_bd hx0 hx hy0 hy ha0 ha hb0 hb
  have hab := al_bd ha0 ha hb0 hb
  have hmb := mx_bd hx0 hx hy0 hy ha0 ha hb0 hb hal
  rw [color_Over.c15, cond_dec hi, cond_dec (show 0 ≤ i ∧ i < ((3 : Nat) : Int) by omega)]
  simp only [hpx, hpy, Option.bind_some]
  have w1 : IntKind.wrap .i64 (x * a) = x * a := wrap_i64 (by omega) (by omega)
  have w2 : IntKind.wrap .i64 (x * a * 255) = x * a * 255 := wrap_i64 (by omega) (by omega)
  have w3 : IntKind.wrap .i64 (y * b) = y * b := wrap_i64 (by omega) (by omega)
  have w4 : IntKind.wrap .i64 (255 - a) = 255 - a := wrap_i64 (by omega) (by omega)
  have w5 : IntKind.wrap .i64 (y * b * (255 - a)) = y * b * (255 - a) := wrap_i64 (by omega) (by omega)
  have w6 : IntKind.wrap .i64 (x * a * 255 + y * b * (255 - a)) = x * a * 255 + y * b * (255 - a) := wrap_i64 (by omega) (by omega)
  have w7 : IntKind.wrap .i64 (al a b * 255) = al a b * 255 := wrap_i64 (by omega) (by omega)
  simp only [w1, w2, w3, w4, w5, w6, w7]
  have hne : (al a b * 255 != 0) = true := by simp; omega
  have hq0 : 0 ≤ (x * a * 255 + y * b * (255 - a)) / (al a b * 255) := Int.ediv_nonneg (by omega) (by omega)
  have hq1 : (x * a * 255 + y * b * (255 - a)) / (al a b * 255) ≤ x * a * 255 + y * b * (255 - a) := Int.ediv_le_self _ (by omega)
  rw [hne, cond_true, tdiv_u _ (by omega), wrap_i64 (n := (x * a * 255 + y * b * (255 - a)) / (al a b * 255)) (by omega) (by omega), cond_dec (by omega), shl_wrap ho0 ho, wrap_i64 (n := i + 1) (by omega) (by omega)]
  have e : (if (255 : Int) < (x * a * 255 + y * b * (255 - a)) / (al a b * 255) then 255 else (x * a * 255 + y * b * (255 - a)) / (al a b * 255)) = mx x y a b := rfl
  rw [e, or_byte ho0 (by omega) hmb.1 (by omega)]

/-- What is seen of two colors. -/
def ov (t u : Int) : Int := if al (t % 256) (u % 256) = 0 then 0 else
  ((mx (t / 16777216 % 256) (u / 16777216 % 256) (t % 256) (u % 256) * 256 + mx (t / 65536 % 256) (u / 65536 % 256) (t % 256) (u % 256)) * 256 + mx (t / 256 % 256) (u / 256 % 256) (t % 256) (u % 256)) * 256 + al (t % 256) (u % 256)

theorem Over_eq (t u : Int) (ht0 : 0 ≤ t) (ht : t < 4294967296) (hu0 : 0 ≤ u) (hu : u < 4294967296) : color_Over 60 t u = some (ov t u) := by
  unfold color_Over ov
  have et : t % 4294967296 = t := by omega
  have eu : u % 4294967296 = u := by omega
  simp only [part0, Option.bind_some, et, eu]
  obtain ⟨a, hae⟩ : ∃ a, a = t % 256 := ⟨_, rfl⟩
  obtain ⟨b, hbe⟩ : ∃ b, b = u % 256 := ⟨_, rfl⟩
  simp only [← hae, ← hbe]
  have ha0 : 0 ≤ a := by omega
  have ha : a ≤ 255 := by omega
  have hb0 : 0 ≤ b := by omega
  have hb : b ≤ 255 := by omega
  have hab := al_bd ha0 ha hb0 hb
  have hm := mul_bd ha0 ha hb0 hb
  have h255 : ((255 : Int) != 0) = true := rfl
  have w1 : IntKind.wrap .i64 (a * b) = a * b := wrap_i64 (by omega) (by omega)
  have w2 : IntKind.wrap .i64 (a + b) = a + b := wrap_i64 (by omega) (by omega)
  have w3 : IntKind.wrap .i64 (a + b - IntKind.wrap .i64 (Int.tdiv (a * b) 255)) = al a b := by
    rw [tdiv_u 255 hm.1, wrap_i64 (n := a * b / 255) (by omega) (by omega)]
    exact wrap_i64 (by unfold al at hab; omega) (by unfold al at hab; omega)
  simp only [w1, w2, w3, h255, cond_true]
  by_cases h0 : al a b = 0
  · rw [if_pos h0]
    have : (al a b == 0) = true := by simp [h0]
    rw [this, cond_true]
  · rw [if_neg h0]
    have hne : (al a b == 0) = false := by simpa using h0
    have hal : 0 < al a b := by omega
    rw [hne, cond_false]
    have b3 := mx_bd (x := t / 16777216 % 256) (y := u / 16777216 % 256) (by omega) (by omega) (by omega) (by omega) ha0 ha hb0 hb hal
    have b2 := mx_bd (x := t / 65536 % 256) (y := u / 65536 % 256) (by omega) (by omega) (by omega) (by omega) ha0 ha hb0 hb hal
    have b1 := mx_bd (x := t / 256 % 256) (y := u / 256 % 256) (by omega) (by omega) (by omega) (by omega) ha0 ha hb0 hb hal
    rw [step 60 59 t u 0 0 (t / 16777216 % 256) (u / 16777216 % 256) a b _ ha0 ha hb0 hb hal (by omega) (by omega) (by omega) (by omega) (by omega) (by omega) (by omega) (by omega) (part3 60 t ht0 ht) (part3 60 u hu0 hu)]
    rw [step 60 58 t u _ (0 + 1) (t / 65536 % 256) (u / 65536 % 256) a b _ ha0 ha hb0 hb hal (by omega) (by omega) (by omega) (by omega) (by omega) (by omega) (by omega) (by omega) (part2 60 t ht0 ht) (part2 60 u hu0 hu)]
    rw [step 60 57 t u _ (0 + 1 + 1) (t / 256 % 256) (u / 256 % 256) a b _ ha0 ha hb0 hb hal (by omega) (by omega) (by omega) (by omega) (by omega) (by omega) (by omega) (by omega) (part1 60 t ht0 ht) (part1 60 u hu0 hu)]
    rw [color_Over.c15, cond_ndec (by omega), cond_dec (by omega)]
    simp only [Int.zero_mul, Int.zero_add]
    rw [shl_wrap (by omega) (by omega), or_byte (by omega) (by omega) (by omega) (by omega)]

end Go.Ev.Co
