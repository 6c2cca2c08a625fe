/- SelectNths: the law at every number; no condition beyond those that each theorem names. -/
import Derived.Test.YtpeepnieblmhmaaGreatDoorEvSeN0
import Derived.Test.YtpeepnieblmhmaaGreatDoorEvSeN1
import Derived.Test.YtpeepnieblmhmaaGreatDoorEvSeN2
import Derived.Test.YtpeepnieblmhmaaGreatDoorEvSeN3
import Derived.Test.YtpeepnieblmhmaaGreatDoorEvSeN4
set_option linter.unusedVariables false
set_option maxRecDepth 100000
namespace Go.Ev.Se
open Go.Proofs Go.Ev

theorem check_ok (b : Int) (h1 : -1000 ≤ b) (h2 : b ≤ 1000) : check b = true := by
  by_cases k0 : b < -933
  · exact of_checks 67 (-1000) b chk0 (by omega) (by omega)
  by_cases k1 : b < -866
  · exact of_checks 67 (-933) b chk1 (by omega) (by omega)
  by_cases k2 : b < -799
  · exact of_checks 67 (-866) b chk2 (by omega) (by omega)
  by_cases k3 : b < -732
  · exact of_checks 67 (-799) b chk3 (by omega) (by omega)
  by_cases k4 : b < -665
  · exact of_checks 67 (-732) b chk4 (by omega) (by omega)
  by_cases k5 : b < -598
  · exact of_checks 67 (-665) b chk5 (by omega) (by omega)
  by_cases k6 : b < -531
  · exact of_checks 67 (-598) b chk6 (by omega) (by omega)
  by_cases k7 : b < -464
  · exact of_checks 67 (-531) b chk7 (by omega) (by omega)
  by_cases k8 : b < -397
  · exact of_checks 67 (-464) b chk8 (by omega) (by omega)
  by_cases k9 : b < -330
  · exact of_checks 67 (-397) b chk9 (by omega) (by omega)
  by_cases k10 : b < -263
  · exact of_checks 67 (-330) b chk10 (by omega) (by omega)
  by_cases k11 : b < -196
  · exact of_checks 67 (-263) b chk11 (by omega) (by omega)
  by_cases k12 : b < -129
  · exact of_checks 67 (-196) b chk12 (by omega) (by omega)
  by_cases k13 : b < -62
  · exact of_checks 67 (-129) b chk13 (by omega) (by omega)
  by_cases k14 : b < 5
  · exact of_checks 67 (-62) b chk14 (by omega) (by omega)
  by_cases k15 : b < 72
  · exact of_checks 67 (5) b chk15 (by omega) (by omega)
  by_cases k16 : b < 139
  · exact of_checks 67 (72) b chk16 (by omega) (by omega)
  by_cases k17 : b < 206
  · exact of_checks 67 (139) b chk17 (by omega) (by omega)
  by_cases k18 : b < 273
  · exact of_checks 67 (206) b chk18 (by omega) (by omega)
  by_cases k19 : b < 340
  · exact of_checks 67 (273) b chk19 (by omega) (by omega)
  by_cases k20 : b < 407
  · exact of_checks 67 (340) b chk20 (by omega) (by omega)
  by_cases k21 : b < 474
  · exact of_checks 67 (407) b chk21 (by omega) (by omega)
  by_cases k22 : b < 541
  · exact of_checks 67 (474) b chk22 (by omega) (by omega)
  by_cases k23 : b < 608
  · exact of_checks 67 (541) b chk23 (by omega) (by omega)
  by_cases k24 : b < 675
  · exact of_checks 67 (608) b chk24 (by omega) (by omega)
  by_cases k25 : b < 742
  · exact of_checks 67 (675) b chk25 (by omega) (by omega)
  by_cases k26 : b < 809
  · exact of_checks 67 (742) b chk26 (by omega) (by omega)
  by_cases k27 : b < 876
  · exact of_checks 67 (809) b chk27 (by omega) (by omega)
  by_cases k28 : b < 943
  · exact of_checks 67 (876) b chk28 (by omega) (by omega)
  exact of_checks 58 (943) b chk29 (by omega) (by omega)
theorem two_ok (b : Int) (h1 : -1000 ≤ b) (h2 : b ≤ 1000) : ∃ t l, dim_Text 60 (IntKind.wrap .i64 ((1000 : Int) * b)) [] = some t ∧ t.length ≤ 100 ∧ selector_Read 60 ((nthHead ++ t) ++ [41]) = some (0, l) ∧
    clerestorykeep2_samePaths 60 l [⟨[[⟨8, [], 0, [], 0, b, []⟩]], []⟩] = some true := by
  have h := check_ok b h1 h2
  unfold check at h
  split at h
  · rename_i t ht
    rw [Bool.and_eq_true] at h
    obtain ⟨h3, h4⟩ := h
    split at h4
    · rename_i e l hr
      rw [Bool.and_eq_true] at h4
      obtain ⟨h5, h6⟩ := h4
      split at h6
      · rename_i q hq
        rw [h6] at hq
        have he : e = 0 := by simpa using h5
        rw [he] at hr
        exact ⟨t, l, ht, Nat.le_of_ble_eq_true h3, hr, hq⟩
      · cases h6
    · cases h4
  · cases h
theorem one0 : selector_Read 60 ([58, 110, 116, 104, 45, 99, 104, 105, 108, 100, 40, 111, 100, 100, 41] : List UInt8) = some (0, [⟨[[⟨8, [], 0, [], 2, 1, []⟩]], []⟩]) := by kernel_rfl
theorem same0 : clerestorykeep2_samePaths 60 [⟨[[⟨8, [], 0, [], 2, 1, []⟩]], []⟩] [⟨[[⟨8, [], 0, [], 2, 1, []⟩]], []⟩] = some true := by kernel_rfl
theorem one1 : selector_Read 60 ([58, 78, 84, 72, 45, 67, 72, 73, 76, 68, 40, 69, 86, 69, 78, 41] : List UInt8) = some (0, [⟨[[⟨8, [], 0, [], 2, 0, []⟩]], []⟩]) := by kernel_rfl
theorem same1 : clerestorykeep2_samePaths 60 [⟨[[⟨8, [], 0, [], 2, 0, []⟩]], []⟩] [⟨[[⟨8, [], 0, [], 2, 0, []⟩]], []⟩] = some true := by kernel_rfl
theorem one2 : selector_Read 60 ([58, 102, 105, 114, 115, 116, 45, 99, 104, 105, 108, 100] : List UInt8) = some (0, [⟨[[⟨8, [], 0, [], 0, 1, []⟩]], []⟩]) := by kernel_rfl
theorem same2 : clerestorykeep2_samePaths 60 [⟨[[⟨8, [], 0, [], 0, 1, []⟩]], []⟩] [⟨[[⟨8, [], 0, [], 0, 1, []⟩]], []⟩] = some true := by kernel_rfl
theorem one3 : selector_Read 60 ([58, 110, 116, 104, 45, 99, 104, 105, 108, 100, 40, 110, 41] : List UInt8) = some (0, [⟨[[⟨8, [], 0, [], 1, 0, []⟩]], []⟩]) := by kernel_rfl
theorem same3 : clerestorykeep2_samePaths 60 [⟨[[⟨8, [], 0, [], 1, 0, []⟩]], []⟩] [⟨[[⟨8, [], 0, [], 1, 0, []⟩]], []⟩] = some true := by kernel_rfl
theorem one4 : selector_Read 60 ([58, 110, 116, 104, 45, 99, 104, 105, 108, 100, 40, 45, 110, 41] : List UInt8) = some (0, [⟨[[⟨8, [], 0, [], -1, 0, []⟩]], []⟩]) := by kernel_rfl
theorem same4 : clerestorykeep2_samePaths 60 [⟨[[⟨8, [], 0, [], -1, 0, []⟩]], []⟩] [⟨[[⟨8, [], 0, [], -1, 0, []⟩]], []⟩] = some true := by kernel_rfl
theorem one5 : selector_Read 60 ([58, 110, 116, 104, 45, 108, 97, 115, 116, 45, 99, 104, 105, 108, 100, 40, 51, 110, 41] : List UInt8) = some (0, [⟨[[⟨9, [], 0, [], 3, 0, []⟩]], []⟩]) := by kernel_rfl
theorem same5 : clerestorykeep2_samePaths 60 [⟨[[⟨9, [], 0, [], 3, 0, []⟩]], []⟩] [⟨[[⟨9, [], 0, [], 3, 0, []⟩]], []⟩] = some true := by kernel_rfl
theorem one6 : selector_Read 60 ([58, 108, 97, 115, 116, 45, 99, 104, 105, 108, 100] : List UInt8) = some (0, [⟨[[⟨9, [], 0, [], 0, 1, []⟩]], []⟩]) := by kernel_rfl
theorem same6 : clerestorykeep2_samePaths 60 [⟨[[⟨9, [], 0, [], 0, 1, []⟩]], []⟩] [⟨[[⟨9, [], 0, [], 0, 1, []⟩]], []⟩] = some true := by kernel_rfl
theorem one7 : selector_Read 60 ([58, 110, 116, 104, 45, 99, 104, 105, 108, 100, 40, 43, 53, 41] : List UInt8) = some (0, [⟨[[⟨8, [], 0, [], 0, 5, []⟩]], []⟩]) := by kernel_rfl
theorem same7 : clerestorykeep2_samePaths 60 [⟨[[⟨8, [], 0, [], 0, 5, []⟩]], []⟩] [⟨[[⟨8, [], 0, [], 0, 5, []⟩]], []⟩] = some true := by kernel_rfl
theorem one8 : selector_Read 60 ([58, 110, 116, 104, 45, 99, 104, 105, 108, 100, 40, 45, 110, 43, 51, 41] : List UInt8) = some (0, [⟨[[⟨8, [], 0, [], -1, 3, []⟩]], []⟩]) := by kernel_rfl
theorem same8 : clerestorykeep2_samePaths 60 [⟨[[⟨8, [], 0, [], -1, 3, []⟩]], []⟩] [⟨[[⟨8, [], 0, [], -1, 3, []⟩]], []⟩] = some true := by kernel_rfl

/-- What is behind the numbers. -/
noncomputable def rest (r2 one e : Bool) (b : Int) : Option Bool :=
  (dim_Text 60 (IntKind.wrap .i64 ((1000 : Int) * b)) []).bind fun r18 =>
  cond (Nat.ble (nthHead.length + r18.length) 9223372036854775807) (
  cond (Nat.ble ((nthHead ++ r18).length + ([41] : List UInt8).length) 9223372036854775807) (
  (selector_Read 60 ((nthHead ++ r18) ++ ([41] : List UInt8))).bind fun r20 =>
  (clerestorykeep2_samePaths 60 r20.2 ([(⟨[[(⟨8, [], 0, [], 0, b, []⟩ : S26)]], []⟩ : S36)])).bind fun r22 =>
  some (cond (cond (cond (cond r2 e false) (r20.1 == (0 : Int)) false) one false) r22 false)) none) none

theorem rest_ok (b : Int) (h1 : -1000 ≤ b) (h2 : b ≤ 1000) : rest true true true b = some true := by
  obtain ⟨t, l, a1, a2, a3, a4⟩ := two_ok b h1 h2
  unfold rest
  rw [a1, Option.bind_some, Nat.ble_eq_true_of_le (show nthHead.length + t.length ≤ 9223372036854775807 by simp only [nthHead, List.length_cons, List.length_nil]; omega), cond_true,
    Nat.ble_eq_true_of_le (show (nthHead ++ t).length + ([41] : List UInt8).length ≤ 9223372036854775807 by simp only [nthHead, List.length_append, List.length_cons, List.length_nil]; omega), cond_true, a3, Option.bind_some, a4, Option.bind_some]
  rfl

theorem law0 (n : Int) (h : Int.tmod (IntKind.wrap .u64 n) (9 : Int) = 0) : clerestorykeep2_SelectNths 60 n = rest true true true (Int.tmod n 1001) := by
  unfold clerestorykeep2_SelectNths
  rw [listed_60, Option.bind_some, h]
  show ((selector_Read 60 ([58, 110, 116, 104, 45, 99, 104, 105, 108, 100, 40, 111, 100, 100, 41] : List UInt8)).bind fun r7 => (clerestorykeep2_samePaths 60 r7.2 [⟨[[⟨8, [], 0, [], 2, 1, []⟩]], []⟩]).bind fun r16 => rest true r16 (r7.1 == 0) (Int.tmod n 1001)) = _
  rw [one0, Option.bind_some, same0, Option.bind_some]
  rfl
theorem law1 (n : Int) (h : Int.tmod (IntKind.wrap .u64 n) (9 : Int) = 1) : clerestorykeep2_SelectNths 60 n = rest true true true (Int.tmod n 1001) := by
  unfold clerestorykeep2_SelectNths
  rw [listed_60, Option.bind_some, h]
  show ((selector_Read 60 ([58, 78, 84, 72, 45, 67, 72, 73, 76, 68, 40, 69, 86, 69, 78, 41] : List UInt8)).bind fun r7 => (clerestorykeep2_samePaths 60 r7.2 [⟨[[⟨8, [], 0, [], 2, 0, []⟩]], []⟩]).bind fun r16 => rest true r16 (r7.1 == 0) (Int.tmod n 1001)) = _
  rw [one1, Option.bind_some, same1, Option.bind_some]
  rfl
theorem law2 (n : Int) (h : Int.tmod (IntKind.wrap .u64 n) (9 : Int) = 2) : clerestorykeep2_SelectNths 60 n = rest true true true (Int.tmod n 1001) := by
  unfold clerestorykeep2_SelectNths
  rw [listed_60, Option.bind_some, h]
  show ((selector_Read 60 ([58, 102, 105, 114, 115, 116, 45, 99, 104, 105, 108, 100] : List UInt8)).bind fun r7 => (clerestorykeep2_samePaths 60 r7.2 [⟨[[⟨8, [], 0, [], 0, 1, []⟩]], []⟩]).bind fun r16 => rest true r16 (r7.1 == 0) (Int.tmod n 1001)) = _
  rw [one2, Option.bind_some, same2, Option.bind_some]
  rfl
theorem law3 (n : Int) (h : Int.tmod (IntKind.wrap .u64 n) (9 : Int) = 3) : clerestorykeep2_SelectNths 60 n = rest true true true (Int.tmod n 1001) := by
  unfold clerestorykeep2_SelectNths
  rw [listed_60, Option.bind_some, h]
  show ((selector_Read 60 ([58, 110, 116, 104, 45, 99, 104, 105, 108, 100, 40, 110, 41] : List UInt8)).bind fun r7 => (clerestorykeep2_samePaths 60 r7.2 [⟨[[⟨8, [], 0, [], 1, 0, []⟩]], []⟩]).bind fun r16 => rest true r16 (r7.1 == 0) (Int.tmod n 1001)) = _
  rw [one3, Option.bind_some, same3, Option.bind_some]
  rfl
theorem law4 (n : Int) (h : Int.tmod (IntKind.wrap .u64 n) (9 : Int) = 4) : clerestorykeep2_SelectNths 60 n = rest true true true (Int.tmod n 1001) := by
  unfold clerestorykeep2_SelectNths
  rw [listed_60, Option.bind_some, h]
  show ((selector_Read 60 ([58, 110, 116, 104, 45, 99, 104, 105, 108, 100, 40, 45, 110, 41] : List UInt8)).bind fun r7 => (clerestorykeep2_samePaths 60 r7.2 [⟨[[⟨8, [], 0, [], -1, 0, []⟩]], []⟩]).bind fun r16 => rest true r16 (r7.1 == 0) (Int.tmod n 1001)) = _
  rw [one4, Option.bind_some, same4, Option.bind_some]
  rfl
theorem law5 (n : Int) (h : Int.tmod (IntKind.wrap .u64 n) (9 : Int) = 5) : clerestorykeep2_SelectNths 60 n = rest true true true (Int.tmod n 1001) := by
  unfold clerestorykeep2_SelectNths
  rw [listed_60, Option.bind_some, h]
  show ((selector_Read 60 ([58, 110, 116, 104, 45, 108, 97, 115, 116, 45, 99, 104, 105, 108, 100, 40, 51, 110, 41] : List UInt8)).bind fun r7 => (clerestorykeep2_samePaths 60 r7.2 [⟨[[⟨9, [], 0, [], 3, 0, []⟩]], []⟩]).bind fun r16 => rest true r16 (r7.1 == 0) (Int.tmod n 1001)) = _
  rw [one5, Option.bind_some, same5, Option.bind_some]
  rfl
theorem law6 (n : Int) (h : Int.tmod (IntKind.wrap .u64 n) (9 : Int) = 6) : clerestorykeep2_SelectNths 60 n = rest true true true (Int.tmod n 1001) := by
  unfold clerestorykeep2_SelectNths
  rw [listed_60, Option.bind_some, h]
  show ((selector_Read 60 ([58, 108, 97, 115, 116, 45, 99, 104, 105, 108, 100] : List UInt8)).bind fun r7 => (clerestorykeep2_samePaths 60 r7.2 [⟨[[⟨9, [], 0, [], 0, 1, []⟩]], []⟩]).bind fun r16 => rest true r16 (r7.1 == 0) (Int.tmod n 1001)) = _
  rw [one6, Option.bind_some, same6, Option.bind_some]
  rfl
theorem law7 (n : Int) (h : Int.tmod (IntKind.wrap .u64 n) (9 : Int) = 7) : clerestorykeep2_SelectNths 60 n = rest true true true (Int.tmod n 1001) := by
  unfold clerestorykeep2_SelectNths
  rw [listed_60, Option.bind_some, h]
  show ((selector_Read 60 ([58, 110, 116, 104, 45, 99, 104, 105, 108, 100, 40, 43, 53, 41] : List UInt8)).bind fun r7 => (clerestorykeep2_samePaths 60 r7.2 [⟨[[⟨8, [], 0, [], 0, 5, []⟩]], []⟩]).bind fun r16 => rest true r16 (r7.1 == 0) (Int.tmod n 1001)) = _
  rw [one7, Option.bind_some, same7, Option.bind_some]
  rfl
theorem law8 (n : Int) (h : Int.tmod (IntKind.wrap .u64 n) (9 : Int) = 8) : clerestorykeep2_SelectNths 60 n = rest true true true (Int.tmod n 1001) := by
  unfold clerestorykeep2_SelectNths
  rw [listed_60, Option.bind_some, h]
  show ((selector_Read 60 ([58, 110, 116, 104, 45, 99, 104, 105, 108, 100, 40, 45, 110, 43, 51, 41] : List UInt8)).bind fun r7 => (clerestorykeep2_samePaths 60 r7.2 [⟨[[⟨8, [], 0, [], -1, 3, []⟩]], []⟩]).bind fun r16 => rest true r16 (r7.1 == 0) (Int.tmod n 1001)) = _
  rw [one8, Option.bind_some, same8, Option.bind_some]
  rfl

theorem selectNths_ex (n : Int) : ∃ k, clerestorykeep2_SelectNths k n = some true := by
  refine ⟨60, ?_⟩
  have hb1 : -1000 ≤ Int.tmod n 1001 ∧ Int.tmod n 1001 ≤ 1000 := by
    have := Int.tmod_lt_of_pos n (show (0 : Int) < 1001 by omega)
    have h2 := Int.tmod_lt_of_pos (-n) (show (0 : Int) < 1001 by omega)
    rw [Int.neg_tmod] at h2
    omega
  have hu : 0 ≤ IntKind.wrap .u64 n := by
    show 0 ≤ n % 18446744073709551616
    exact Int.emod_nonneg _ (by omega)
  have hv1 : 0 ≤ Int.tmod (IntKind.wrap .u64 n) 9 := Int.tmod_nonneg _ hu
  have hv2 : Int.tmod (IntKind.wrap .u64 n) 9 < 9 := Int.tmod_lt_of_pos _ (by omega)
  have hc : Int.tmod (IntKind.wrap .u64 n) 9 = 0 ∨ Int.tmod (IntKind.wrap .u64 n) 9 = 1 ∨ Int.tmod (IntKind.wrap .u64 n) 9 = 2 ∨ Int.tmod (IntKind.wrap .u64 n) 9 = 3 ∨ Int.tmod (IntKind.wrap .u64 n) 9 = 4 ∨ Int.tmod (IntKind.wrap .u64 n) 9 = 5 ∨ Int.tmod (IntKind.wrap .u64 n) 9 = 6 ∨ Int.tmod (IntKind.wrap .u64 n) 9 = 7 ∨ Int.tmod (IntKind.wrap .u64 n) 9 = 8 := by omega
  rcases hc with h | h | h | h | h | h | h | h | h
  · rw [law0 n h]; exact rest_ok _ hb1.1 hb1.2
  · rw [law1 n h]; exact rest_ok _ hb1.1 hb1.2
  · rw [law2 n h]; exact rest_ok _ hb1.1 hb1.2
  · rw [law3 n h]; exact rest_ok _ hb1.1 hb1.2
  · rw [law4 n h]; exact rest_ok _ hb1.1 hb1.2
  · rw [law5 n h]; exact rest_ok _ hb1.1 hb1.2
  · rw [law6 n h]; exact rest_ok _ hb1.1 hb1.2
  · rw [law7 n h]; exact rest_ok _ hb1.1 hb1.2
  · rw [law8 n h]; exact rest_ok _ hb1.1 hb1.2

end Go.Ev.Se
