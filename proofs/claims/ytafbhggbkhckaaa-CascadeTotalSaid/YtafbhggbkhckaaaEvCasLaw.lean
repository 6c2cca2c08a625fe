/- A part of the evaluator of Go code over small heaps and of its proof: no condition beyond those that each theorem names. -/
import Derived.Test.YtafbhggbkhckaaaEvCas
namespace Go.Ev.Cas
noncomputable section
open Go.Proofs

def rk (g : G) : Int := if g.im = false then g.o else if g.o = 1 then 3 else if g.o = 2 then 4 else 5
theorem rank_eq (g : G) : rank g = some (rk g) := by
  unfold rank rk
  cases g.im <;> simp
  by_cases h1 : g.o = 1
  · simp [h1]
  · by_cases h2 : g.o = 2
    · simp [h2]
    · simp [h1, h2, beq_eq_false_iff_ne.2 h1, beq_eq_false_iff_ne.2 h2]
def cm (x y : Int) : Int := if x < y then -1 else if x > y then 1 else 0
theorem cmpI_eq (x y : Int) : cmpI (x, y) = some (cm x y) := by
  unfold cmpI isNaN cm
  simp
  by_cases h1 : x < y
  · simp [h1]
  · by_cases h2 : y < x <;> simp [h1, h2]
def o3 (a b c : Int) : Int := if a ≠ 0 then a else if b ≠ 0 then b else c
theorem beq_f {a b : Int} (h : ¬ a = b) : (a == b) = false := beq_eq_false_iff_ne.2 h
theorem or_eq (a b c : Int) : or_ 4 [a, b, c] = some (o3 a b c) := by
  have w0 : IntKind.wrap .i64 (0 + 1) = 1 := rfl
  have w1 : IntKind.wrap .i64 (1 + 1) = 2 := rfl
  have w2 : IntKind.wrap .i64 (2 + 1) = 3 := rfl
  unfold or_ o3
  simp only [or_l, w0, w1, w2]
  by_cases h1 : a = 0 <;> by_cases h2 : b = 0 <;> by_cases h3 : c = 0 <;> simp [h1, h2, h3, beq_f]
def cp (a b : G) : Int := o3 (cm (rk a) (rk b)) (cm a.w b.w) (cm a.p b.p)
theorem compare_eq (a b : G) : compare 4 (a, b) = some (cp a b) := by
  simp [compare, rank_eq, cmpI_eq, or_eq, cp]
theorem less_eq (a b : G) : less 4 (a, b) = some (decide (cp a b < 0)) := by simp [less, compare_eq]

def lt (a b : G) : Prop := rk a < rk b ∨ (rk a = rk b ∧ (a.w < b.w ∨ (a.w = b.w ∧ a.p < b.p)))
theorem cp_lt (a b : G) : cp a b < 0 ↔ lt a b := by
  unfold cp o3 cm lt
  repeat' split
  all_goals omega

theorem total_true (z : G × G × G) : total 4 z = some true := by
  obtain ⟨a, b, c⟩ := z
  have hown : own 4 () = some true := by rw [own]; simp only [less_eq]; rfl
  simp only [total, hown, less_eq, Option.bind_some]
  have hd : ∀ x y, decide (cp x y < 0) = decide (cp x y < 0) := fun _ _ => rfl
  have haa : ¬ lt a a := by unfold lt; omega
  by_cases hab : lt a b <;> by_cases hba : lt b a <;> by_cases hbc : lt b c <;> by_cases hac : lt a c <;> by_cases hca : lt c a <;> by_cases hcb : lt c b <;>
    simp only [cp_lt, hab, hba, hbc, hac, hca, hcb, haa, decide_true, decide_false, cond_true, cond_false, Bool.not_true, Bool.not_false, beq_self_eq_true] <;> first | rfl | (exfalso; unfold lt at *; omega)
end
end Go.Ev.Cas
