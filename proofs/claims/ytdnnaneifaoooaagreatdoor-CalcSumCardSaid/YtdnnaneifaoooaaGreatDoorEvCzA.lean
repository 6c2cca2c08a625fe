/- The laws of CalcBetween, CalcOrder, CalcSum in plain words. No condition beyond those that each theorem names. -/
import Derived.Test.YtdnnaneifaoooaaGreatDoorEvCz
import Derived.Test.YtdnnaneifaoooaaGreatDoorEvNum
set_option linter.unusedVariables false
set_option linter.unusedSimpArgs false
set_option maxRecDepth 100000
namespace Go.Ev.Cz
open Go

def units : List (List UInt8) := [([] : List UInt8), ([112, 120] : List UInt8), ([101, 109] : List UInt8), ([114, 101, 109] : List UInt8), ([118, 119] : List UInt8), ([118, 104] : List UInt8), ([37] : List UInt8)]

theorem unit_is (k : Nat) (a : Int) : ∃ u ∈ units, clerestorykeep2_unitOf k a = some u := by
  have hmod : IntKind.wrap .u64 a = a % 18446744073709551616 := wrap_u64 a
  have h0 : 0 ≤ a % 18446744073709551616 := Int.emod_nonneg _ (by omega)
  have hv : Int.tmod (IntKind.wrap .u64 a) 7 = ((((a % 18446744073709551616) % 7).toNat : Nat) : Int) := by rw [hmod, tmod_u 7 h0]; omega
  have hi : ((a % 18446744073709551616) % 7).toNat < 7 := by omega
  generalize ((a % 18446744073709551616) % 7).toNat = i at hv hi
  unfold clerestorykeep2_unitOf
  rw [show (((7 : Int) != 0)) = true from rfl, cond_true]
  simp only [hv]
  have hl : (([([] : List UInt8), ([112, 120] : List UInt8), ([101, 109] : List UInt8), ([114, 101, 109] : List UInt8), ([118, 119] : List UInt8), ([118, 104] : List UInt8), ([37] : List UInt8)] : List (List UInt8)).length : Int) = 7 := rfl
  rw [cond_dec (by rw [hl]; omega)]
  refine ⟨units.getD i [], ?_, rfl⟩
  match i with
  | 0 | 1 | 2 | 3 | 4 | 5 | 6 => decide
  | i + 7 => omega

def clampI (n : Int) : Int := if (16777216 : Int) < (if (-16777216 : Int) > n then (-16777216 : Int) else n) then (16777216 : Int) else (if (-16777216 : Int) > n then (-16777216 : Int) else n)

theorem clamp_in (n : Int) : -16777216 ≤ clampI n ∧ clampI n ≤ 16777216 := by unfold clampI; split <;> split <;> omega
theorem clamp_id {n : Int} (h : -16777216 ≤ n) (h2 : n ≤ 16777216) : clampI n = n := by unfold clampI; split <;> split <;> omega

theorem cut_is (k : Nat) (n : Int) : calc_cut k n = some (clampI n) := rfl
theorem dcut_is (k : Nat) (n : Int) : dim_cut k n = some (clampI n) := rfl

theorem down_is (k : Nat) (n m : Int) (h : m ≠ 0) : ∃ q, calc_down k n m = some q := by
  unfold calc_down
  have : (m != 0) = true := by simpa using h
  rw [this]
  simp only [cond_true]
  cases (cond (Int.tmod n m != 0) (!(decide (n < 0)) == (decide (m < 0))) false) <;> exact ⟨_, rfl⟩

theorem ddown_is (k : Nat) (n m : Int) (h : m ≠ 0) : ∃ q, dim_down k n m = some q := by
  unfold dim_down
  have : (m != 0) = true := by simpa using h
  rw [this]
  simp only [cond_true]
  cases (decide (Int.tmod n m < 0)) <;> exact ⟨_, rfl⟩

theorem c34_is (k : Nat) (x m n : Int) (u : List UInt8) (h : m ≠ 0) : ∃ q, dim_Px.c34 k x m n u = some (clampI q, 0) := by
  unfold dim_Px.c34
  obtain ⟨q, hq⟩ := ddown_is k (IntKind.wrap .i64 (n * x)) m h
  simp only [hq, Option.bind_some, dcut_is]
  exact ⟨q, rfl⟩

/-- Of what kind a number of a unit is. -/
def kd (u : List UInt8) : Int := bif u == [] then 4 else bif u == [37] then 3 else 2

theorem in_is (k : Nat) (a b c : Int) : ∃ q, dim_in k a b c = some q := ⟨_, rfl⟩

theorem px_is (k : Nat) (n : Int) (u : List UInt8) (hu : u ∈ units) (hne : u ≠ []) (hpc : u ≠ [37]) (s1 s2 s3 s4 : Int) : ∃ p, dim_Px k n u s1 s2 s3 s4 = some p ∧ (p.2 = 0 → ∃ q, p.1 = clampI q) := by
  unfold dim_Px
  obtain ⟨q1, h1⟩ := in_is k n (-1000000000) 1000000000
  obtain ⟨q2, h2⟩ := in_is k s1 0 16777216
  obtain ⟨q3, h3⟩ := in_is k s2 0 16777216
  obtain ⟨q4, h4⟩ := in_is k s3 1 4000
  obtain ⟨q5, h5⟩ := in_is k s4 1 4000
  rw [h1]
  simp only [Option.bind_some, h2, h3, h4, h5]
  have hc : ∀ (b : Bool) (q : Bool), ∃ z, (cond b (some q) (some false)) = some z := fun b q => by cases b <;> exact ⟨_, rfl⟩
  obtain ⟨z2, e2⟩ := hc (!(!q1)) q2
  rw [e2]
  simp only [Option.bind_some]
  obtain ⟨z3, e3⟩ := hc (!(cond (!q1) true (!z2))) q3
  rw [e3]
  simp only [Option.bind_some]
  obtain ⟨z4, e4⟩ := hc (!(cond (cond (!q1) true (!z2)) true (!z3))) q4
  rw [e4]
  simp only [Option.bind_some]
  obtain ⟨z5, e5⟩ := hc (!(cond (cond (cond (!q1) true (!z2)) true (!z3)) true (!z4))) q5
  rw [e5]
  simp only [Option.bind_some]
  cases (cond (cond (cond (cond (!q1) true (!z2)) true (!z3)) true (!z4)) true (!z5)) with
  | true => exact ⟨_, rfl, fun h => by cases h⟩
  | false =>
    simp only [cond_false]
    have key : ∀ x m, m ≠ 0 → ∃ p, dim_Px.c34 k x m n u = some p ∧ (p.2 = 0 → ∃ q, p.1 = clampI q) := fun x m hm => by
      obtain ⟨q, hq⟩ := c34_is k x m n u hm
      exact ⟨_, hq, fun _ => ⟨q, rfl⟩⟩
    unfold units at hu
    simp only [List.mem_cons, List.not_mem_nil, or_false] at hu
    rcases hu with rfl | rfl | rfl | rfl | rfl | rfl | rfl
    · exact absurd rfl hne
    · exact key 64 1000 (by decide)
    · exact key s1 1000 (by decide)
    · exact key s2 1000 (by decide)
    · exact key _ 100000 (by decide)
    · exact key _ 100000 (by decide)
    · exact absurd rfl hpc

theorem number_is (k : Nat) (n : Int) (u : List UInt8) (hu : u ∈ units) (s1 s2 s3 s4 : Int) : ∃ x, calc_number k n u s1 s2 s3 s4 = some x ∧ (x.2.2 = 0 → x.1 = kd u ∧ -16777216 ≤ x.2.1 ∧ x.2.1 ≤ 16777216) := by
  by_cases h0 : u = []
  · subst h0
    refine ⟨(4, clampI n, 0), rfl, fun _ => ⟨rfl, clamp_in n⟩⟩
  · by_cases h1 : u = [37]
    · subst h1
      unfold calc_number
      obtain ⟨q, hq⟩ := down_is k n 10 (by decide)
      rw [show (([37] : List UInt8) == ([] : List UInt8)) = false from rfl, show (([37] : List UInt8) == ([37] : List UInt8)) = true from rfl, cond_false, cond_true, hq]
      simp only [Option.bind_some, cut_is]
      exact ⟨_, rfl, fun _ => ⟨rfl, clamp_in q⟩⟩
    · obtain ⟨p, hp, hp2⟩ := px_is k n u hu h0 h1 s1 s2 s3 s4
      unfold calc_number
      have e0 : (u == ([] : List UInt8)) = false := by simpa using h0
      have e1 : (u == ([37] : List UInt8)) = false := by simpa using h1
      rw [e0, e1, hp]
      simp only [cond_false, Option.bind_some]
      by_cases hz : p.2 = 0
      · have : (p.2 != 0) = false := by simpa using hz
        rw [this]
        obtain ⟨q, hq⟩ := hp2 hz
        refine ⟨_, rfl, fun _ => ⟨?_, ?_⟩⟩
        · unfold kd; rw [e0, e1]; rfl
        · show -16777216 ≤ p.1 ∧ p.1 ≤ 16777216
          rw [hq]; exact clamp_in q
      · have : (p.2 != 0) = true := by simpa using hz
        rw [this]
        exact ⟨_, rfl, fun h => absurd h hz⟩

def nm (n : Int) (u : List UInt8) (s1 s2 s3 s4 : Int) : Option (Int × Int × Int) := (calc_number 100 n u s1 s2 s3 s4).bind fun r => some (r.1, r.2.1, r.2.2)

theorem nm_is {n : Int} {u : List UInt8} {s1 s2 s3 s4 : Int} {x : Int × Int × Int} (h : calc_number 100 n u s1 s2 s3 s4 = some x) : nm n u s1 s2 s3 s4 = some x := by unfold nm; rw [h]; rfl

def tm (n : Int) (u : List UInt8) : S29 := ⟨1, n, u, []⟩

theorem one_is (n : Int) (u : List UInt8) (s1 s2 s3 s4 : Int) : calc_Value_v2 100 1 n u [] s1 s2 s3 s4 = (nm n u s1 s2 s3 s4).bind fun r => some (r.1, r.2.1, r.2.2) := by kernel_rfl
theorem one3_is (n : Int) (u : List UInt8) (s1 s2 s3 s4 : Int) : calc_Value_v3 100 1 n u s1 s2 s3 s4 = (nm n u s1 s2 s3 s4).bind fun r => some (r.1, r.2.1, r.2.2) := by kernel_rfl

theorem mid_is (a b c : Int) (u : List UInt8) (s1 s2 s3 s4 : Int) : calc_Value 100 8 0 [] s1 s2 s3 s4 [tm a u, tm b u, tm c u] =
    ((nm a u s1 s2 s3 s4).bind fun x => cond (x.2.2 != 0) (some ((0 : Int), (0 : Int), x.2.2, [tm a u, tm b u, tm c u])) ((nm b u s1 s2 s3 s4).bind fun y => cond (y.2.2 != 0) (some ((0 : Int), (0 : Int), y.2.2, [tm a u, tm b u, tm c u]))
      ((nm c u s1 s2 s3 s4).bind fun z => cond (z.2.2 != 0) (some ((0 : Int), (0 : Int), z.2.2, [tm a u, tm b u, tm c u])) ((calc_alike_v2 100 8 [⟨x.1, x.2.1⟩, ⟨y.1, y.2.1⟩, ⟨z.1, z.2.1⟩]).bind fun r => some (r.1, r.2.1, r.2.2, [tm a u, tm b u, tm c u]))))).bind fun r => some (r.1, r.2.1, r.2.2.1, r.2.2.2) := by kernel_rfl

theorem two_is (op : Int) (hop : op = 2 ∨ op = 6 ∨ op = 7) (a b : Int) (u : List UInt8) (s1 s2 s3 s4 : Int) : calc_Value 100 op 0 [] s1 s2 s3 s4 [tm a u, tm b u] =
    ((nm a u s1 s2 s3 s4).bind fun x => cond (x.2.2 != 0) (some ((0 : Int), (0 : Int), x.2.2, [tm a u, tm b u])) ((nm b u s1 s2 s3 s4).bind fun y => cond (y.2.2 != 0) (some ((0 : Int), (0 : Int), y.2.2, [tm a u, tm b u]))
      ((calc_alike_v2 100 op [⟨x.1, x.2.1⟩, ⟨y.1, y.2.1⟩]).bind fun r => some (r.1, r.2.1, r.2.2, [tm a u, tm b u])))).bind fun r => some (r.1, r.2.1, r.2.2.1, r.2.2.2) := by
  rcases hop with rfl | rfl | rfl
  · kernel_rfl
  · kernel_rfl
  · kernel_rfl

theorem mul_is (a b : Int) (u v : List UInt8) (s1 s2 s3 s4 : Int) : calc_Value 100 4 0 [] s1 s2 s3 s4 [tm a u, tm b v] =
    ((nm a u s1 s2 s3 s4).bind fun x => cond (x.2.2 != 0) (some ((0 : Int), (0 : Int), x.2.2, [tm a u, tm b v])) ((nm b v s1 s2 s3 s4).bind fun y => cond (y.2.2 != 0) (some ((0 : Int), (0 : Int), y.2.2, [tm a u, tm b v]))
      ((calc_times 100 x.1 x.2.1 y.1 y.2.1).bind fun r => some (r.1, r.2.1, r.2.2, [tm a u, tm b v])))).bind fun r => some (r.1, r.2.1, r.2.2.1, r.2.2.2) := by kernel_rfl

theorem sub_is (a b : Int) (u : List UInt8) (s1 s2 s3 s4 : Int) : calc_Value 100 3 0 [] s1 s2 s3 s4 [⟨2, 0, [], [tm a u, tm b u]⟩, tm b u] =
    ((((nm a u s1 s2 s3 s4).bind fun x => cond (x.2.2 != 0) (some ((0 : Int), (0 : Int), x.2.2)) ((nm b u s1 s2 s3 s4).bind fun y => cond (y.2.2 != 0) (some ((0 : Int), (0 : Int), y.2.2))
      ((calc_alike_v2 100 2 [⟨x.1, x.2.1⟩, ⟨y.1, y.2.1⟩]).bind fun r => some (r.1, r.2.1, r.2.2)))).bind fun x => cond (x.2.2 != 0) (some ((0 : Int), (0 : Int), x.2.2, [⟨2, 0, [], [tm a u, tm b u]⟩, tm b u])) ((nm b u s1 s2 s3 s4).bind fun y => cond (y.2.2 != 0) (some ((0 : Int), (0 : Int), y.2.2, [⟨2, 0, [], [tm a u, tm b u]⟩, tm b u]))
      ((calc_alike_v2 100 3 [⟨x.1, x.2.1⟩, ⟨y.1, y.2.1⟩]).bind fun r => some (r.1, r.2.1, r.2.2, [⟨2, 0, [], [tm a u, tm b u]⟩, tm b u]))))).bind fun r => some (r.1, r.2.1, r.2.2.1, r.2.2.2) := by kernel_rfl

theorem alike3 (K x y z : Int) : calc_alike_v2 100 8 [⟨K, x⟩, ⟨K, y⟩, ⟨K, z⟩] = some (K, clampI (if (if z < y then z else y) > x then (if z < y then z else y) else x), 0) := by
  have h : calc_alike_v2 100 8 [⟨K, x⟩, ⟨K, y⟩, ⟨K, z⟩] = cond (K != K) (some (0, 0, 7)) (cond (K != K) (some (0, 0, 7)) (some (K, clampI (if (if z < y then z else y) > x then (if z < y then z else y) else x), 0))) := by kernel_rfl
  rw [h]; simp
theorem alikeMin (K x y : Int) : calc_alike_v2 100 6 [⟨K, x⟩, ⟨K, y⟩] = some (K, clampI (if y < x then y else x), 0) := by
  have h : calc_alike_v2 100 6 [⟨K, x⟩, ⟨K, y⟩] = cond (K != K) (some (0, 0, 7)) (some (K, clampI (if y < x then y else x), 0)) := by kernel_rfl
  rw [h]; simp
theorem alikeMax (K x y : Int) : calc_alike_v2 100 7 [⟨K, x⟩, ⟨K, y⟩] = some (K, clampI (if y > x then y else x), 0) := by
  have h : calc_alike_v2 100 7 [⟨K, x⟩, ⟨K, y⟩] = cond (K != K) (some (0, 0, 7)) (some (K, clampI (if y > x then y else x), 0)) := by kernel_rfl
  rw [h]; simp
theorem alikeAdd (K x y : Int) : calc_alike_v2 100 2 [⟨K, x⟩, ⟨K, y⟩] = some (K, clampI (IntKind.wrap .i64 (x + y)), 0) := by
  have h : calc_alike_v2 100 2 [⟨K, x⟩, ⟨K, y⟩] = cond (K != K) (some (0, 0, 7)) (some (K, clampI (IntKind.wrap .i64 (x + y)), 0)) := by kernel_rfl
  rw [h]; simp
theorem alikeSub (K x y : Int) : calc_alike_v2 100 3 [⟨K, x⟩, ⟨K, y⟩] = some (K, clampI (IntKind.wrap .i64 (x - y)), 0) := by
  have h : calc_alike_v2 100 3 [⟨K, x⟩, ⟨K, y⟩] = cond (K != K) (some (0, 0, 7)) (some (K, clampI (IntKind.wrap .i64 (x - y)), 0)) := by kernel_rfl
  rw [h]; simp

theorem twice_is : clerestorykeep2_twice 100 = some true := by kernel_rfl

theorem z0 {x : Int} (h : x = 0) : (x != 0) = false := by simpa using h
theorem z1 {x : Int} (h : ¬ x = 0) : (x != 0) = true := by simpa using h

theorem between_law (a b c v s1 s2 s3 s4 : Int) : clerestorykeep2_CalcBetween 100 a b c v s1 s2 s3 s4 = some true := by
  obtain ⟨u, hu, hue⟩ := unit_is 100 v
  obtain ⟨x, hx, hx2⟩ := number_is 100 a u hu s1 s2 s3 s4
  obtain ⟨y, hy, hy2⟩ := number_is 100 b u hu s1 s2 s3 s4
  obtain ⟨z, hz, hz2⟩ := number_is 100 c u hu s1 s2 s3 s4
  unfold clerestorykeep2_CalcBetween
  rw [twice_is, hue]
  simp only [Option.bind_some, clerestorykeep2_num]
  have hm := mid_is a b c u s1 s2 s3 s4
  simp only [nm_is hx, nm_is hy, nm_is hz, Option.bind_some] at hm
  have h1 := one_is a u s1 s2 s3 s4
  have h2 := one_is b u s1 s2 s3 s4
  have h3 := one_is c u s1 s2 s3 s4
  rw [nm_is hx] at h1
  rw [nm_is hy] at h2
  rw [nm_is hz] at h3
  simp only [Option.bind_some] at h1 h2 h3
  have hl : ([(⟨1, a, u, []⟩ : S29), ⟨1, b, u, []⟩, ⟨1, c, u, []⟩] : List S29) = [tm a u, tm b u, tm c u] := rfl
  rw [hl]
  have fin : ∀ m : Int × Int × Int, calc_Value 100 8 0 [] s1 s2 s3 s4 [tm a u, tm b u, tm c u] = some (m.1, m.2.1, m.2.2, [tm a u, tm b u, tm c u]) →
      (((x.2.2 ≠ 0 ∨ y.2.2 ≠ 0 ∨ z.2.2 ≠ 0) ∧ m.2.2 ≠ 0) ∨ (x.2.2 = 0 ∧ y.2.2 = 0 ∧ z.2.2 = 0 ∧ m.2.2 = 0 ∧ m.2.1 ≥ x.2.1 ∧ (m.2.1 ≤ z.2.1 ∨ z.2.1 < x.2.1) ∧ (m.1 = x.1 ∧ m.2.1 = x.2.1 ∨ m.1 = y.1 ∧ m.2.1 = y.2.1 ∨ m.1 = z.1 ∧ m.2.1 = z.2.1))) →
      ((calc_Value 100 8 0 [] s1 s2 s3 s4 [tm a u, tm b u, tm c u]).bind fun r17 =>
        cond (decide (0 ≤ (0 : Int) ∧ (0 : Int) < (r17.2.2.2.length : Int))) (
        (calc_Value_v2 100 (r17.2.2.2.getD ((0 : Int).toNat) S29.d).Kind (r17.2.2.2.getD ((0 : Int).toNat) S29.d).Dim_Num (r17.2.2.2.getD ((0 : Int).toNat) S29.d).Dim_Unit (r17.2.2.2.getD ((0 : Int).toNat) S29.d).Subs s1 s2 s3 s4).bind fun r22 =>
        cond (decide (0 ≤ (1 : Int) ∧ (1 : Int) < (r17.2.2.2.length : Int))) (
        (calc_Value_v2 100 (r17.2.2.2.getD ((1 : Int).toNat) S29.d).Kind (r17.2.2.2.getD ((1 : Int).toNat) S29.d).Dim_Num (r17.2.2.2.getD ((1 : Int).toNat) S29.d).Dim_Unit (r17.2.2.2.getD ((1 : Int).toNat) S29.d).Subs s1 s2 s3 s4).bind fun r27 =>
        cond (decide (0 ≤ (2 : Int) ∧ (2 : Int) < (r17.2.2.2.length : Int))) (
        (calc_Value_v2 100 (r17.2.2.2.getD ((2 : Int).toNat) S29.d).Kind (r17.2.2.2.getD ((2 : Int).toNat) S29.d).Dim_Num (r17.2.2.2.getD ((2 : Int).toNat) S29.d).Dim_Unit (r17.2.2.2.getD ((2 : Int).toNat) S29.d).Subs s1 s2 s3 s4).bind fun r32 =>
        cond (cond (cond (cond (r17.2.2.1 != (0 : Int)) true (r22.2.2 != (0 : Int))) true (r27.2.2 != (0 : Int))) true (r32.2.2 != (0 : Int))) (
        some (cond true (r17.2.2.1 != (0 : Int)) false)) (
        some (cond (cond (cond true (decide (r17.2.1 ≥ r22.2.1)) false) (cond (decide (r17.2.1 ≤ r32.2.1)) true (decide (r32.2.1 < r22.2.1))) false) (cond (cond ((r17.1 == r22.1) && ((r17.2.1 == r22.2.1) && true)) true ((r17.1 == r27.1) && ((r17.2.1 == r27.2.1) && true))) true ((r17.1 == r32.1) && ((r17.2.1 == r32.2.1) && true))) false))) none) none) none) = some true := by
    intro m hm' hc
    rw [hm']
    simp only [Option.bind_some]
    have d0 : (decide (0 ≤ (0 : Int) ∧ (0 : Int) < (([tm a u, tm b u, tm c u].length : Nat) : Int))) = true := rfl
    have d1 : (decide (0 ≤ (1 : Int) ∧ (1 : Int) < (([tm a u, tm b u, tm c u].length : Nat) : Int))) = true := rfl
    have d2 : (decide (0 ≤ (2 : Int) ∧ (2 : Int) < (([tm a u, tm b u, tm c u].length : Nat) : Int))) = true := rfl
    rw [d0, d1, d2]
    simp only [cond_true]
    have g0 : [tm a u, tm b u, tm c u].getD ((0 : Int).toNat) S29.d = tm a u := rfl
    have g1 : [tm a u, tm b u, tm c u].getD ((1 : Int).toNat) S29.d = tm b u := rfl
    have g2 : [tm a u, tm b u, tm c u].getD ((2 : Int).toNat) S29.d = tm c u := rfl
    rw [g0, g1, g2]
    simp only [tm, h1, h2, h3, Option.bind_some]
    rcases hc with ⟨hor, hm0⟩ | ⟨e1, e2, e3, e4, e5, e6, e7⟩
    · have hm1 : (m.2.2 != 0) = true := by simpa using hm0
      rw [hm1]; rfl
    · rw [z0 e1, z0 e2, z0 e3, z0 e4]
      simp only [cond_false, cond_true]
      rw [decide_eq_true e5]
      have : (cond (decide (m.2.1 ≤ z.2.1)) true (decide (z.2.1 < x.2.1))) = true := by
        rcases e6 with e6 | e6
        · rw [decide_eq_true e6]; rfl
        · rw [decide_eq_true e6]; cases decide (m.2.1 ≤ z.2.1) <;> rfl
      rw [this]
      simp only [cond_true]
      congr 1
      rcases e7 with ⟨p, q⟩ | ⟨p, q⟩ | ⟨p, q⟩
      · simp [p, q]
      · simp [p, q]
      · simp [p, q]
  by_cases e1 : x.2.2 = 0
  · rw [z0 e1] at hm
    by_cases e2 : y.2.2 = 0
    · rw [z0 e2] at hm
      by_cases e3 : z.2.2 = 0
      · rw [z0 e3] at hm
        obtain ⟨k1, b1, c1⟩ := hx2 e1
        obtain ⟨k2, b2, c2⟩ := hy2 e2
        obtain ⟨k3, b3, c3⟩ := hz2 e3
        simp only [cond_false] at hm
        rw [k1, k2, k3, alike3] at hm
        simp only [Option.bind_some] at hm
        have hcl : clampI (if (if z.2.1 < y.2.1 then z.2.1 else y.2.1) > x.2.1 then (if z.2.1 < y.2.1 then z.2.1 else y.2.1) else x.2.1) = (if (if z.2.1 < y.2.1 then z.2.1 else y.2.1) > x.2.1 then (if z.2.1 < y.2.1 then z.2.1 else y.2.1) else x.2.1) := clamp_id (by split <;> split <;> omega) (by split <;> split <;> omega)
        rw [hcl] at hm
        refine fin (_, _, _) hm (.inr ⟨e1, e2, e3, rfl, ?_, ?_, ?_⟩)
        · show (if (if z.2.1 < y.2.1 then z.2.1 else y.2.1) > x.2.1 then (if z.2.1 < y.2.1 then z.2.1 else y.2.1) else x.2.1) ≥ x.2.1
          split <;> split <;> omega
        · show (if (if z.2.1 < y.2.1 then z.2.1 else y.2.1) > x.2.1 then (if z.2.1 < y.2.1 then z.2.1 else y.2.1) else x.2.1) ≤ z.2.1 ∨ z.2.1 < x.2.1
          split <;> split <;> omega
        · show kd u = x.1 ∧ (if (if z.2.1 < y.2.1 then z.2.1 else y.2.1) > x.2.1 then (if z.2.1 < y.2.1 then z.2.1 else y.2.1) else x.2.1) = x.2.1 ∨ kd u = y.1 ∧ (if (if z.2.1 < y.2.1 then z.2.1 else y.2.1) > x.2.1 then (if z.2.1 < y.2.1 then z.2.1 else y.2.1) else x.2.1) = y.2.1 ∨ kd u = z.1 ∧ (if (if z.2.1 < y.2.1 then z.2.1 else y.2.1) > x.2.1 then (if z.2.1 < y.2.1 then z.2.1 else y.2.1) else x.2.1) = z.2.1
          rw [k1, k2, k3]
          simp only [true_and]
          split <;> split <;> omega
      · rw [z1 e3] at hm
        exact fin (0, 0, z.2.2) hm (.inl ⟨.inr (.inr e3), e3⟩)
    · rw [z1 e2] at hm
      exact fin (0, 0, y.2.2) hm (.inl ⟨.inr (.inl e2), e2⟩)
  · rw [z1 e1] at hm
    exact fin (0, 0, x.2.2) hm (.inl ⟨.inl e1, e1⟩)

theorem order_law (a b v s1 s2 s3 s4 : Int) : clerestorykeep2_CalcOrder 100 a b v s1 s2 s3 s4 = some true := by
  obtain ⟨u, hu, hue⟩ := unit_is 100 v
  obtain ⟨x, hx, hx2⟩ := number_is 100 a u hu s1 s2 s3 s4
  obtain ⟨y, hy, hy2⟩ := number_is 100 b u hu s1 s2 s3 s4
  unfold clerestorykeep2_CalcOrder
  rw [twice_is, hue]
  simp only [Option.bind_some, clerestorykeep2_num]
  have hm := two_is 6 (by omega) a b u s1 s2 s3 s4
  have hM := two_is 7 (by omega) a b u s1 s2 s3 s4
  simp only [nm_is hx, nm_is hy, Option.bind_some] at hm hM
  have h1 := one_is a u s1 s2 s3 s4
  have h2 := one_is b u s1 s2 s3 s4
  rw [nm_is hx] at h1
  rw [nm_is hy] at h2
  simp only [Option.bind_some] at h1 h2
  have hl : ([(⟨1, a, u, []⟩ : S29), ⟨1, b, u, []⟩] : List S29) = [tm a u, tm b u] := rfl
  rw [hl]
  have d0 : (decide (0 ≤ (0 : Int) ∧ (0 : Int) < (([tm a u, tm b u].length : Nat) : Int))) = true := rfl
  have d1 : (decide (0 ≤ (1 : Int) ∧ (1 : Int) < (([tm a u, tm b u].length : Nat) : Int))) = true := rfl
  have g0 : [tm a u, tm b u].getD ((0 : Int).toNat) S29.d = tm a u := rfl
  have g1 : [tm a u, tm b u].getD ((1 : Int).toNat) S29.d = tm b u := rfl
  by_cases e1 : x.2.2 = 0
  · by_cases e2 : y.2.2 = 0
    · obtain ⟨k1, b1, c1⟩ := hx2 e1
      obtain ⟨k2, b2, c2⟩ := hy2 e2
      rw [z0 e1, z0 e2] at hm hM
      simp only [cond_false] at hm hM
      rw [k1, k2, alikeMin, clamp_id (by split <;> omega) (by split <;> omega)] at hm
      rw [k1, k2, alikeMax, clamp_id (by split <;> omega) (by split <;> omega)] at hM
      simp only [Option.bind_some] at hm hM
      rw [hm]
      simp only [Option.bind_some]
      rw [hM]
      simp only [Option.bind_some, d0, d1, g0, g1, cond_true]
      simp only [tm, h1, h2, Option.bind_some, z0 e1, z0 e2, k1]
      simp only [bne_self_eq_false, cond_false, beq_self_eq_true, cond_true]
      have hs : (if y.2.1 < x.2.1 then y.2.1 else x.2.1) + (if y.2.1 > x.2.1 then y.2.1 else x.2.1) = x.2.1 + y.2.1 := by split <;> split <;> omega
      rw [hs]
      simp
    · rw [z0 e1, z1 e2] at hm hM
      simp only [cond_false, cond_true, Option.bind_some] at hm hM
      rw [hm]
      simp only [Option.bind_some]
      rw [hM]
      simp only [Option.bind_some, d0, d1, g0, g1, cond_true]
      simp only [tm, h1, h2, Option.bind_some, z0 e1, z1 e2, cond_true, cond_false, beq_self_eq_true]
  · rw [z1 e1] at hm hM
    simp only [cond_true, Option.bind_some] at hm hM
    rw [hm]
    simp only [Option.bind_some]
    rw [hM]
    simp only [Option.bind_some, d0, d1, g0, g1, cond_true]
    simp only [tm, h1, h2, Option.bind_some, z1 e1, cond_true, cond_false, beq_self_eq_true]

theorem ww {x : Int} (h : -9223372036854775808 ≤ x) (h2 : x ≤ 9223372036854775807) : IntKind.wrap .i64 x = x := wrap_i64 h h2

theorem times_num (K x y : Int) : ∃ q, calc_times 100 K x 4 y = some (K, clampI q, 0) ∧ calc_down 100 (IntKind.wrap .i64 (x * y)) 1000 = some q := by
  obtain ⟨q, hq⟩ := down_is 100 (IntKind.wrap .i64 (x * y)) 1000 (by decide)
  refine ⟨q, ?_, hq⟩
  unfold calc_times
  simp only [bne_self_eq_false, cond_false]
  unfold calc_times.c6
  simp only [bne_self_eq_false, cond_false, hq, Option.bind_some, cut_is]

theorem times_turn (K x y : Int) (hK : K ≠ 4) : calc_times 100 4 y K x = calc_times 100 K x 4 y := by
  unfold calc_times
  have : (K != 4) = true := by simpa using hK
  simp only [this, bne_self_eq_false, cond_true, cond_false]

theorem times_both (x y : Int) : calc_times 100 4 y 4 x = calc_times 100 4 x 4 y := by
  unfold calc_times
  simp only [bne_self_eq_false, cond_false]
  unfold calc_times.c6
  simp only [bne_self_eq_false, cond_false]
  rw [Int.mul_comm]

theorem sum_law (a b v s1 s2 s3 s4 : Int) : clerestorykeep2_CalcSum 100 a b v s1 s2 s3 s4 = some true := by
  obtain ⟨u, hu, hue⟩ := unit_is 100 v
  obtain ⟨x, hx, hx2⟩ := number_is 100 a u hu s1 s2 s3 s4
  obtain ⟨y, hy, hy2⟩ := number_is 100 b u hu s1 s2 s3 s4
  have ht : calc_number 100 3000 [] s1 s2 s3 s4 = some (4, 3000, 0) := rfl
  unfold clerestorykeep2_CalcSum
  rw [twice_is, hue]
  simp only [Option.bind_some, clerestorykeep2_num]
  have hA := two_is 2 (by omega) a b u s1 s2 s3 s4
  have hB := two_is 2 (by omega) b a u s1 s2 s3 s4
  have hS := sub_is a b u s1 s2 s3 s4
  have hM := mul_is a 3000 u [] s1 s2 s3 s4
  have hN := mul_is 3000 a [] u s1 s2 s3 s4
  have h1 := one3_is a u s1 s2 s3 s4
  simp only [nm_is hx, nm_is hy, nm_is ht, Option.bind_some] at hA hB hS hM hN h1
  have hl1 : ([(⟨1, a, u, []⟩ : S29), ⟨1, b, u, []⟩] : List S29) = [tm a u, tm b u] := rfl
  have hl2 : ([(⟨1, b, u, []⟩ : S29), ⟨1, a, u, []⟩] : List S29) = [tm b u, tm a u] := rfl
  have hl3 : ([(⟨2, 0, [], [tm a u, tm b u]⟩ : S29), ⟨1, b, u, []⟩] : List S29) = [⟨2, 0, [], [tm a u, tm b u]⟩, tm b u] := rfl
  have hl4 : ([(⟨1, a, u, []⟩ : S29), ⟨1, 3000, [], []⟩] : List S29) = [tm a u, tm 3000 []] := rfl
  have hl5 : ([(⟨1, 3000, [], []⟩ : S29), ⟨1, a, u, []⟩] : List S29) = [tm 3000 [], tm a u] := rfl
  rw [hl1, hl2, hl3, hl4, hl5]
  have hz0 : ((0 : Int) != 0) = false := rfl
  by_cases e1 : x.2.2 = 0
  · by_cases e2 : y.2.2 = 0
    · obtain ⟨k1, b1, c1⟩ := hx2 e1
      obtain ⟨k2, b2, c2⟩ := hy2 e2
      rw [z0 e1, z0 e2] at hA hB hS
      rw [z0 e1] at hM hN
      simp only [cond_false, hz0] at hA hB hS hM hN
      rw [k1, k2, alikeAdd, ww (by omega) (by omega)] at hA hS
      rw [k1, k2, alikeAdd, ww (by omega) (by omega)] at hB
      obtain ⟨p1, p2⟩ := clamp_in (x.2.1 + y.2.1)
      simp only [Option.bind_some, hz0, cond_false] at hA hB hS hM hN
      rw [alikeSub, ww (by omega) (by omega)] at hS
      simp only [Option.bind_some] at hS
      rw [k1] at hM hN
      obtain ⟨q, hq, _⟩ := times_num (kd u) x.2.1 3000
      have hq' : calc_times 100 4 3000 (kd u) x.2.1 = some (kd u, clampI q, 0) := by
        by_cases hK : kd u = 4
        · rw [hK] at hq ⊢; rw [times_both]; exact hq
        · rw [times_turn _ _ _ hK]; exact hq
      rw [hq] at hM
      rw [hq'] at hN
      simp only [Option.bind_some] at hM hN
      rw [hA]
      simp only [Option.bind_some]
      rw [hB]
      simp only [Option.bind_some]
      rw [hS]
      simp only [Option.bind_some]
      rw [h1]
      simp only [Option.bind_some]
      rw [hM]
      simp only [Option.bind_some]
      rw [hN]
      simp only [Option.bind_some, z0 e1, hz0, cond_false, cond_true, k1]
      have hc : x.2.1 + y.2.1 = y.2.1 + x.2.1 := Int.add_comm _ _
      rw [← hc]
      have hw : (cond (cond (decide (clampI (x.2.1 + y.2.1) ≥ 16777216)) true (decide (clampI (x.2.1 + y.2.1) ≤ -16777216))) true ((kd u == kd u) && ((clampI (clampI (x.2.1 + y.2.1) - y.2.1) == x.2.1) && true))) = true := by
        by_cases g1 : clampI (x.2.1 + y.2.1) ≥ 16777216
        · rw [decide_eq_true g1]; rfl
        · by_cases g2 : clampI (x.2.1 + y.2.1) ≤ -16777216
          · rw [decide_eq_true g2]; cases decide (clampI (x.2.1 + y.2.1) ≥ 16777216) <;> rfl
          · have hcl : clampI (x.2.1 + y.2.1) = x.2.1 + y.2.1 := by
              unfold clampI at g1 g2 ⊢
              split <;> split <;> simp_all <;> omega
            rw [hcl, show x.2.1 + y.2.1 - y.2.1 = x.2.1 by omega, clamp_id b1 c1]
            simp
      rw [hw]
      simp
    · rw [z0 e1, z1 e2] at hA hS
      rw [z1 e2] at hB
      rw [z0 e1] at hM hN
      simp only [cond_false, cond_true, Option.bind_some, hz0, z1 e2] at hA hB hS hM hN
      rw [hA]
      simp only [Option.bind_some]
      rw [hB]
      simp only [Option.bind_some]
      rw [hS]
      simp only [Option.bind_some]
      rw [h1]
      simp only [Option.bind_some]
      have tms : ∀ K n K' n', ∃ z, calc_times 100 K n K' n' = some z := by
        intro K n K' n'
        have c6 : ∀ p q r s', ∃ z, calc_times.c6 100 p q r s' 0 0 = some z := by
          intro p q r s'
          unfold calc_times.c6
          obtain ⟨d, hd⟩ := down_is 100 (IntKind.wrap .i64 (q * s')) 1000 (by decide)
          cases (r != 4) with
          | true => exact ⟨_, rfl⟩
          | false => rw [cond_false, hd]; exact ⟨_, rfl⟩
        unfold calc_times
        cases (K' != 4) with
        | true => exact c6 _ _ _ _
        | false => exact c6 _ _ _ _
      obtain ⟨t1, ht1⟩ := tms x.1 x.2.1 4 3000
      obtain ⟨t2, ht2⟩ := tms 4 3000 x.1 x.2.1
      rw [ht1] at hM
      rw [ht2] at hN
      simp only [Option.bind_some] at hM hN
      rw [hM]
      simp only [Option.bind_some]
      rw [hN]
      simp only [Option.bind_some, z1 e2, cond_true, cond_false]
  · rw [z1 e1] at hA hS hM
    simp only [cond_false, cond_true, Option.bind_some, hz0, z1 e1] at hA hB hS hM hN
    have hB' : ∃ e, calc_Value 100 2 0 [] s1 s2 s3 s4 [tm b u, tm a u] = some (0, 0, e, [tm b u, tm a u]) ∧ (e != 0) = true := by
      by_cases e2 : y.2.2 = 0
      · rw [z0 e2] at hB
        exact ⟨_, hB, z1 e1⟩
      · rw [z1 e2] at hB
        exact ⟨_, hB, z1 e2⟩
    obtain ⟨e, hB', he⟩ := hB'
    rw [hA]
    simp only [Option.bind_some]
    rw [hB']
    simp only [Option.bind_some]
    rw [hS]
    simp only [Option.bind_some]
    rw [h1]
    simp only [Option.bind_some]
    rw [hM]
    simp only [Option.bind_some]
    rw [hN]
    simp only [Option.bind_some, z1 e1, he, cond_true, cond_false]

theorem between_ex (a b c v s1 s2 s3 s4 : Int) : ∃ k, clerestorykeep2_CalcBetween k a b c v s1 s2 s3 s4 = some true := ⟨100, between_law a b c v s1 s2 s3 s4⟩
theorem order_ex (a b v s1 s2 s3 s4 : Int) : ∃ k, clerestorykeep2_CalcOrder k a b v s1 s2 s3 s4 = some true := ⟨100, order_law a b v s1 s2 s3 s4⟩
theorem sum_ex (a b v s1 s2 s3 s4 : Int) : ∃ k, clerestorykeep2_CalcSum k a b v s1 s2 s3 s4 = some true := ⟨100, sum_law a b v s1 s2 s3 s4⟩

end Go.Ev.Cz
