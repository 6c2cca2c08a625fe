/- A part of the evaluator of Go code over small heaps and of its proof: no condition beyond those that each theorem names. -/
import Derived.Test.YtafbhggbkhckaaaEvAnA
set_option linter.unusedVariables false
namespace Go.Ev.An
noncomputable section
open Go.Proofs

theorem fe_mono {kd c0 c1 c2 c3 N : Int} (hr : Right kd c0 c1 c2 c3 N) {s t : Int} (h0 : 0 ≤ s) (hst : s ≤ t) (h1 : t ≤ 1000) : fe kd c0 c1 c2 c3 N s ≤ fe kd c0 c1 c2 c3 N t := by
  unfold fe
  rcases hr with rfl | ⟨rfl, hN⟩ | ⟨rfl, k0, k1, k2, k3⟩
  · simpa using hst
  · simp only [if_true]
    have m1 : s * N ≤ t * N := Int.mul_le_mul_of_nonneg_right hst (by omega)
    have m2 : s * N / 1000 ≤ t * N / 1000 := Int.ediv_le_ediv (by decide) m1
    exact Int.ediv_le_ediv (by omega) (by omega)
  · simp only [show ¬ (2 : Int) = 3 by decide, if_false, if_true]
    have m := sr_mono c0 c2 hst 19 0 4096 (by omega)
    have r1 := sr_rng c0 c2 s 19 0 4096 (by omega)
    have r2 := sr_rng c0 c2 t 19 0 4096 (by omega)
    exact bd_mono k1.1 k1.2 k3.1 k3.2 r1.1 m r2.2

theorem fe_0 {kd c0 c1 c2 c3 N : Int} (hr : Right kd c0 c1 c2 c3 N) : fe kd c0 c1 c2 c3 N 0 = 0 := by
  unfold fe
  rcases hr with rfl | ⟨rfl, hN⟩ | ⟨rfl, k0, k1, k2, k3⟩
  · simp
  · simp
  · simp only [show ¬ (2 : Int) = 3 by decide, if_false, if_true]
    rw [sr_zero k0.1 k2.1 19 0 4096 (by omega) (by omega) (by omega), bd_zero]

theorem fe_1000 {kd c0 c1 c2 c3 N : Int} (hr : Right kd c0 c1 c2 c3 N) : fe kd c0 c1 c2 c3 N 1000 = 1000 := by
  unfold fe
  rcases hr with rfl | ⟨rfl, hN⟩ | ⟨rfl, k0, k1, k2, k3⟩
  · simp
  · simp only [if_true]
    rw [show 1000 * N / 1000 = N by omega]
    exact Int.mul_ediv_cancel_left 1000 (by omega)
  · simp only [show ¬ (2 : Int) = 3 by decide, if_false, if_true]
    rw [sr_end k0.1 k0.2 k2.1 k2.2 19 0 4096 (by omega) (by omega) (by omega) (by decide), bd_end]

theorem fe_rng {kd c0 c1 c2 c3 N : Int} (hr : Right kd c0 c1 c2 c3 N) {t : Int} (h0 : 0 ≤ t) (h1 : t ≤ 1000) : 0 ≤ fe kd c0 c1 c2 c3 N t ∧ fe kd c0 c1 c2 c3 N t ≤ 1000 := by
  have a := fe_mono hr (Int.le_refl 0) h0 h1
  have b := fe_mono hr h0 h1 (Int.le_refl 1000)
  rw [fe_0 hr] at a
  rw [fe_1000 hr] at b
  exact ⟨a, b⟩

def ease (kd c0 c1 c2 c3 N t : Int) : Int × Int :=
  if eas kd c0 c1 c2 c3 N = true then (if 0 ≤ t ∧ t ≤ 1000 then (fe kd c0 c1 c2 c3 N t, 0) else (0, 1)) else (0, 3)

theorem Ease_eq (k : Nat) (kd c0 c1 c2 c3 N t : Int) : anim_Ease (k + 20) kd c0 c1 c2 c3 N t = some (ease kd c0 c1 c2 c3 N t) := by
  unfold anim_Ease ease
  rw [easing_eq, Option.bind_some]
  cases he : eas kd c0 c1 c2 c3 N with
  | false => rfl
  | true =>
    simp only [in_eq, Option.bind_some, Bool.not_true, cond_false, if_true]
    by_cases h : 0 ≤ t ∧ t ≤ 1000
    · rw [eased_eq k (eas_right he) h.1 h.2]; simp [h]
    · simp [h]

theorem stepped_eq (k : Nat) : clerestorykeep2_stepped (k + 20) = some true := by
  unfold clerestorykeep2_stepped
  rw [Ease_eq]
  rfl

theorem rises_true (a1 a2 a3 a4 a5 a6 a7 a8 : Int) : clerestorykeep2_AnimRises 20 a1 a2 a3 a4 a5 a6 a7 a8 = some true := by
  unfold clerestorykeep2_AnimRises
  have hmin : (if a8 < a7 then a8 else a7) ≤ (if a8 > a7 then a8 else a7) := by split <;> split <;> omega
  generalize (if a8 < a7 then a8 else a7) = lo at hmin
  generalize (if a8 > a7 then a8 else a7) = hi at hmin
  rw [stepped_eq 0]
  have e := fun t => Ease_eq 0 a1 a2 a3 a4 a5 a6 t
  simp only [Nat.zero_add] at e
  simp only [e, Option.bind_some]
  unfold ease
  cases he : eas a1 a2 a3 a4 a5 a6 with
  | false => simp
  | true =>
    have hr := eas_right he
    simp only [if_true]
    by_cases h1 : 0 ≤ lo ∧ lo ≤ 1000
    · by_cases h2 : 0 ≤ hi ∧ hi ≤ 1000
      · have m := fe_mono hr h1.1 hmin h2.2
        have r1 := fe_rng hr h1.1 h1.2
        have r2 := fe_rng hr h2.1 h2.2
        simp [h1, h2, fe_0 hr, fe_1000 hr, m, r1, r2]
      · simp [h1, h2]
    · simp [h1]

theorem mx_0 {k n1 n2 : Int} (h : 2 ≤ k ∧ k ≤ 4 ∧ -16777216 ≤ n1 ∧ n1 ≤ 16777216 ∨ k = 5 ∧ 0 ≤ n1 ∧ n1 < 4294967296) : mx k n1 k n2 0 = (k, n1) := by
  unfold mx
  rw [cl_id (by omega) (by omega)]
  rcases h with h | ⟨rfl, h⟩
  · rw [if_pos ⟨rfl, h.1, h.2.1⟩, pt_0, ct_id h.2.2.1 h.2.2.2]
  · rw [if_neg (by omega), if_pos ⟨rfl, rfl⟩, col_0, Int.emod_eq_of_lt h.1 h.2]

theorem mx_1000 {k n1 n2 : Int} (h : 2 ≤ k ∧ k ≤ 4 ∧ -16777216 ≤ n2 ∧ n2 ≤ 16777216 ∨ k = 5 ∧ 0 ≤ n2 ∧ n2 < 4294967296) : mx k n1 k n2 1000 = (k, n2) := by
  unfold mx
  rw [cl_id (by omega) (by omega)]
  rcases h with h | ⟨rfl, h⟩
  · rw [if_pos ⟨rfl, h.1, h.2.1⟩, pt_1000, ct_id h.2.2.1 h.2.2.2]
  · rw [if_neg (by omega), if_pos ⟨rfl, rfl⟩, col_1000, Int.emod_eq_of_lt h.1 h.2]

theorem between_true (a1 a2 a3 a4 : Int) : clerestorykeep2_AnimBetween 20 a1 a2 a3 a4 = some true := by
  unfold clerestorykeep2_AnimBetween
  rw [stepped_eq 0]
  have e := fun k1 n1 k2 n2 t => Mix_eq 0 k1 n1 k2 n2 t
  simp only [Nat.zero_add] at e
  have hk : 0 ≤ Int.tmod (IntKind.wrap .u64 a3) 3 ∧ Int.tmod (IntKind.wrap .u64 a3) 3 < 3 := by
    rw [wrap_u64, tmod_u 3 (by omega)]; omega
  generalize Int.tmod (IntKind.wrap .u64 a3) 3 = m at hk
  have hx : ∀ a : Int, -16777216 ≤ Int.tmod a 16777217 ∧ Int.tmod a 16777217 ≤ 16777216 := fun a => by
    have h1 := Int.tmod_lt_of_pos a (show (0 : Int) < 16777217 by decide)
    have h2 := Int.lt_tmod_of_pos a (show (0 : Int) < 16777217 by decide)
    omega
  have x1 := hx a1
  have x2 := hx a2
  generalize Int.tmod a1 16777217 = x at x1
  generalize Int.tmod a2 16777217 = y at x2
  simp only [e, Option.bind_some]
  rw [wrap_i64 (n := m) (by omega) (by omega), wrap_i64 (n := 2 + m) (by omega) (by omega), wrap_u32, wrap_u32, wrap_i64 (n := a1 % 4294967296) (by omega) (by omega), wrap_i64 (n := a2 % 4294967296) (by omega) (by omega)]
  have q1 : mx (2 + m) x (2 + m) y 0 = (2 + m, x) := mx_0 (by omega)
  have q2 : mx (2 + m) x (2 + m) y 1000 = (2 + m, y) := mx_1000 (by omega)
  have q3 : mx 5 (a1 % 4294967296) 5 (a2 % 4294967296) 0 = (5, a1 % 4294967296) := mx_0 (by omega)
  have q4 : mx 5 (a1 % 4294967296) 5 (a2 % 4294967296) 1000 = (5, a2 % 4294967296) := mx_1000 (by omega)
  have q5 : mx (2 + m) x (2 + m) x a4 = (2 + m, x) := by unfold mx; rw [if_pos (by omega), pt_self, ct_id x1.1 x1.2]
  have q6 : mx (2 + m) x (2 + m) y a4 = (2 + m, pt x y (cl a4)) := by unfold mx; rw [if_pos (by omega), ct_id x1.1 x1.2, ct_id x2.1 x2.2]
  have hc := cl_rng a4
  have hp := pt_rng (a := x) (b := y) hc.1 hc.2
  rw [q1, q2, q3, q4, q5, q6]
  have g1 : ¬ pt x y (cl a4) < (if y < x then y else x) := by
    split
    · have := hp.2 (by omega); omega
    · have := hp.1 (by omega); omega
  have g2 : ¬ pt x y (cl a4) > (if y > x then y else x) := by
    split
    · have := hp.1 (by omega); omega
    · have := hp.2 (by omega); omega
  simp [g1, g2]
end
end Go.Ev.An
namespace Go.Ev.An
theorem rises_law (a1 a2 a3 a4 a5 a6 a7 a8 : Int) : ∃ k, clerestorykeep2_AnimRises k a1 a2 a3 a4 a5 a6 a7 a8 = some true := ⟨20, rises_true a1 a2 a3 a4 a5 a6 a7 a8⟩
theorem between_law (a1 a2 a3 a4 : Int) : ∃ k, clerestorykeep2_AnimBetween k a1 a2 a3 a4 = some true := ⟨20, between_true a1 a2 a3 a4⟩
end Go.Ev.An
