/- A part of the evaluator of Go code over small heaps and of its proof: no condition beyond those that each theorem names. -/
import Derived.Test.YtafbhggbkhckaaaEvAn
import Derived.Test.YtafbhggbkhckaaaEvNum
set_option linter.unusedVariables false
namespace Go.Ev.An
noncomputable section
open Go.Proofs

theorem in_eq (k : Nat) (n lo hi : Int) : anim_in k n lo hi = some (decide (lo ≤ n ∧ n ≤ hi)) := by
  unfold anim_in
  by_cases h1 : n ≥ lo <;> by_cases h2 : n ≤ hi <;> simp [h1, h2] <;> omega

/-- The cubic's numerator. -/
def num (a b k : Int) : Int := 3 * (4096 - k) * (4096 - k) * k * a + 3 * (4096 - k) * k * k * b + k * k * k * 1000

theorem num_step {a b k : Int} (ha0 : 0 ≤ a) (ha : a ≤ 1000) (hb0 : 0 ≤ b) (hb : b ≤ 1000) (h0 : 0 ≤ k) (h1 : k < 4096) : num a b k ≤ num a b (k + 1) := by
  have e1 : num a b (k + 1) - num a b k = (3 * (4095 - k) * (4095 - k) * (k+1) - 3 * (4096 - k) * (4096 - k) * k) * a + (3 * (4095 - k) * (k+1) * (k+1) - 3 * (4096 - k) * k * k) * b + 1000 * (3 * k * k + 3 * k + 1) := by
    unfold num; grind
  have e2 : 3 * (4095 - k) * (4095 - k) * (k+1) - 3 * (4096 - k) * (4096 - k) * k + (3 * k * k + 3 * k + 1) = 3 * ((2*k+1-4096) * (2*k+1-4096)) + 1 := by grind
  have e3 : 3 * (4095 - k) * (k+1) * (k+1) - 3 * (4096 - k) * k * k + (3 * k * k + 3 * k + 1) = 6 * (k * (4095 - k)) + 3 * 4096 - 2 := by grind
  have e4 : (3 * (4095 - k) * (4095 - k) * (k+1) - 3 * (4096 - k) * (4096 - k) * k) + (3 * (4095 - k) * (k+1) * (k+1) - 3 * (4096 - k) * k * k) + (3 * k * k + 3 * k + 1) = 3 * ((4095 - k) * (4095 - k)) + 3 * (4095 - k) + 1 := by grind
  have q1 : 0 ≤ (2*k+1-4096) * (2*k+1-4096) := by
    rcases Int.le_total 0 (2*k+1-4096) with h | h
    · exact Int.mul_nonneg h h
    · have := Int.mul_nonneg (show 0 ≤ -(2*k+1-4096) by omega) (show 0 ≤ -(2*k+1-4096) by omega)
      rwa [Int.neg_mul_neg] at this
  have q2 : 0 ≤ k * (4095 - k) := Int.mul_nonneg h0 (by omega)
  have q3 : 0 ≤ (4095 - k) * (4095 - k) := Int.mul_nonneg (by omega) (by omega)
  have q4 : 0 ≤ k * k := Int.mul_nonneg h0 h0
  generalize hA : 3 * (4095 - k) * (4095 - k) * (k+1) - 3 * (4096 - k) * (4096 - k) * k = A at e1 e2 e4
  generalize hB : 3 * (4095 - k) * (k+1) * (k+1) - 3 * (4096 - k) * k * k = B at e1 e3 e4
  have hC : 3 * k * k = 3 * (k * k) := by grind
  rw [hC] at e1 e2 e3 e4
  generalize k * k = kk at e1 e2 e3 e4 q4
  have lin : ∀ x y : Int, 0 ≤ y → y ≤ 1000 → x * y ≥ 0 ∨ x * y ≥ x * 1000 := by
    intro x y hy0 hy
    rcases Int.le_total 0 x with h | h
    · exact .inl (Int.mul_nonneg h hy0)
    · right
      have := Int.mul_nonneg (show 0 ≤ -x by omega) (show 0 ≤ 1000 - y by omega)
      have e : -x * (1000 - y) = x * y - x * 1000 := by grind
      omega
  rcases lin A a ha0 ha with h | h <;> rcases lin B b hb0 hb with h' | h' <;> omega

theorem num_mono {a b : Int} (ha0 : 0 ≤ a) (ha : a ≤ 1000) (hb0 : 0 ≤ b) (hb : b ≤ 1000) {k : Int} (h0 : 0 ≤ k) : ∀ (d : Nat), k + d ≤ 4096 → num a b k ≤ num a b (k + d)
  | 0, _ => by simp
  | d + 1, h => by
    have h1 := num_mono ha0 ha hb0 hb h0 d (by omega)
    have h2 := num_step ha0 ha hb0 hb (k := k + d) (by omega) (by omega)
    have e : k + ((d + 1 : Nat) : Int) = k + d + 1 := by omega
    rw [e]; omega

theorem num_zero (a b : Int) : num a b 0 = 0 := by unfold num; simp
theorem num_end (a b : Int) : num a b 4096 = 68719476736000 := by unfold num; simp

def bd (a b k : Int) : Int := num a b k / 68719476736

theorem bend_eq {a b k : Int} (f : Nat) (ha0 : 0 ≤ a) (ha : a ≤ 1000) (hb0 : 0 ≤ b) (hb : b ≤ 1000) (h0 : 0 ≤ k) (h1 : k ≤ 4096) : anim_bend f a b k = some (bd a b k) := by
  have b1 : 0 ≤ 4096 - k ∧ 4096 - k ≤ 4096 := by omega
  have b2 : 0 ≤ 3 * (4096 - k) ∧ 3 * (4096 - k) ≤ 12288 := by omega
  have b3 := mul_bd b2.1 b2.2 b1.1 b1.2
  have b4 := mul_bd b3.1 b3.2 h0 h1
  have b5 := mul_bd b4.1 b4.2 ha0 ha
  have b6 := mul_bd b2.1 b2.2 h0 h1
  have b7 := mul_bd b6.1 b6.2 h0 h1
  have b8 := mul_bd b7.1 b7.2 hb0 hb
  have b9 := mul_bd h0 h1 h0 h1
  have b10 := mul_bd b9.1 b9.2 h0 h1
  unfold anim_bend
  simp only
  rw [wrap_i64 (n := 4096 - k) (by omega) (by omega), wrap_i64 (n := 3 * (4096 - k)) (by omega) (by omega), wrap_i64 (n := 3 * (4096 - k) * (4096 - k)) (by omega) (by omega),
    wrap_i64 (n := 3 * (4096 - k) * (4096 - k) * k) (by omega) (by omega), wrap_i64 (n := 3 * (4096 - k) * (4096 - k) * k * a) (by omega) (by omega),
    wrap_i64 (n := 3 * (4096 - k) * k) (by omega) (by omega), wrap_i64 (n := 3 * (4096 - k) * k * k) (by omega) (by omega), wrap_i64 (n := 3 * (4096 - k) * k * k * b) (by omega) (by omega),
    wrap_i64 (n := k * k) (by omega) (by omega), wrap_i64 (n := k * k * k) (by omega) (by omega), wrap_i64 (n := k * k * k * 1000) (by omega) (by omega),
    wrap_i64 (n := 3 * (4096 - k) * (4096 - k) * k * a + 3 * (4096 - k) * k * k * b) (by omega) (by omega),
    wrap_i64 (n := 3 * (4096 - k) * (4096 - k) * k * a + 3 * (4096 - k) * k * k * b + k * k * k * 1000) (by omega) (by omega)]
  have hn : 0 ≤ num a b k := by unfold num; omega
  have hd : Int.tdiv (3 * (4096 - k) * (4096 - k) * k * a + 3 * (4096 - k) * k * k * b + k * k * k * 1000) 68719476736 = bd a b k := by
    unfold bd
    rw [← Int.tdiv_eq_ediv_of_nonneg hn]; rfl
  rw [hd]
  have : num a b k ≤ 9000000000000000 := by unfold num; omega
  rw [wrap_i64 (n := bd a b k) (by unfold bd; omega) (by unfold bd; omega)]
  rfl

theorem bd_mono {a b : Int} (ha0 : 0 ≤ a) (ha : a ≤ 1000) (hb0 : 0 ≤ b) (hb : b ≤ 1000) {k l : Int} (h0 : 0 ≤ k) (h : k ≤ l) (h1 : l ≤ 4096) : bd a b k ≤ bd a b l := by
  have := num_mono ha0 ha hb0 hb h0 (l - k).toNat (by omega)
  rw [show k + ((l - k).toNat : Int) = l by omega] at this
  unfold bd
  exact Int.ediv_le_ediv (by omega) this

theorem bd_zero (a b : Int) : bd a b 0 = 0 := by unfold bd; rw [num_zero]; rfl
theorem bd_end (a b : Int) : bd a b 4096 = 1000 := by unfold bd; rw [num_end]; rfl

/-- Less than all, short of the end. -/
theorem bd_lt {a b k : Int} (ha0 : 0 ≤ a) (ha : a ≤ 1000) (hb0 : 0 ≤ b) (hb : b ≤ 1000) (h0 : 0 ≤ k) (h1 : k < 4096) : bd a b k < 1000 := by
  have e : num 1000 1000 k = 1000 * (68719476736 - (4096 - k) * (4096 - k) * (4096 - k)) := by unfold num; grind
  have j1 : 1 ≤ 4096 - k := by omega
  have j2 : 1 ≤ (4096 - k) * (4096 - k) := by have := Int.mul_le_mul j1 j1 (by omega) (by omega); omega
  have j3 : 1 ≤ (4096 - k) * (4096 - k) * (4096 - k) := by have := Int.mul_le_mul j2 j1 (by omega) (by omega); omega
  have g1 : 0 ≤ 3 * (4096 - k) * (4096 - k) * k := Int.mul_nonneg (Int.mul_nonneg (by omega) (by omega)) h0
  have g2 : 0 ≤ 3 * (4096 - k) * k * k := Int.mul_nonneg (Int.mul_nonneg (by omega) h0) h0
  have l1 := Int.mul_le_mul_of_nonneg_left ha g1
  have l2 := Int.mul_le_mul_of_nonneg_left hb g2
  have : num a b k ≤ num 1000 1000 k := by unfold num; omega
  unfold bd
  omega

/-- The search by halves. -/
def sr (a b : Int) : Nat → Int → Int → Int → Int
  | 0, _, l, _ => l
  | n + 1, t, l, h => if l < h then (if bd a b ((l + h) / 2) ≥ t then sr a b n t l ((l + h) / 2) else sr a b n t ((l + h) / 2 + 1) h) else l

theorem sr_rng (a b t : Int) : ∀ (n : Nat) (l h : Int), l ≤ h → l ≤ sr a b n t l h ∧ sr a b n t l h ≤ h
  | 0, l, h, hl => by simp [sr, hl]
  | n + 1, l, h, hl => by
    unfold sr
    split
    · split
      · have := sr_rng a b t n l ((l + h) / 2) (by omega); omega
      · have := sr_rng a b t n ((l + h) / 2 + 1) h (by omega); omega
    · omega

theorem sr_mono (a b : Int) {s t : Int} (hst : s ≤ t) : ∀ (n : Nat) (l h : Int), l ≤ h → sr a b n s l h ≤ sr a b n t l h
  | 0, l, h, _ => by simp [sr]
  | n + 1, l, h, hl => by
    unfold sr
    split
    · by_cases h1 : bd a b ((l + h) / 2) ≥ t
      · rw [if_pos h1, if_pos (by omega)]; exact sr_mono a b hst n _ _ (by omega)
      · rw [if_neg h1]
        split
        · have := sr_rng a b s n l ((l + h) / 2) (by omega)
          have := sr_rng a b t n ((l + h) / 2 + 1) h (by omega)
          omega
        · exact sr_mono a b hst n _ _ (by omega)
    · omega

theorem num_nonneg {a b k : Int} (ha0 : 0 ≤ a) (hb0 : 0 ≤ b) (h0 : 0 ≤ k) (h1 : k ≤ 4096) : 0 ≤ num a b k := by
  have g1 : 0 ≤ 3 * (4096 - k) * (4096 - k) * k * a := Int.mul_nonneg (Int.mul_nonneg (Int.mul_nonneg (by omega) (by omega)) h0) ha0
  have g2 : 0 ≤ 3 * (4096 - k) * k * k * b := Int.mul_nonneg (Int.mul_nonneg (Int.mul_nonneg (by omega) h0) h0) hb0
  have g3 : 0 ≤ k * k * k := Int.mul_nonneg (Int.mul_nonneg h0 h0) h0
  unfold num; omega

theorem bd_nonneg {a b k : Int} (ha0 : 0 ≤ a) (hb0 : 0 ≤ b) (h0 : 0 ≤ k) (h1 : k ≤ 4096) : 0 ≤ bd a b k := by
  have := num_nonneg ha0 hb0 h0 h1
  unfold bd; omega

theorem sr_zero {a b : Int} (ha0 : 0 ≤ a) (hb0 : 0 ≤ b) : ∀ (n : Nat) (l h : Int), 0 ≤ l → l ≤ h → h ≤ 4096 → sr a b n 0 l h = l
  | 0, l, h, _, _, _ => rfl
  | n + 1, l, h, h0, hl, h1 => by
    unfold sr
    split
    · rw [if_pos (bd_nonneg ha0 hb0 (by omega) (by omega))]; exact sr_zero ha0 hb0 n l _ h0 (by omega) (by omega)
    · rfl

theorem sr_end {a b : Int} (ha0 : 0 ≤ a) (ha : a ≤ 1000) (hb0 : 0 ≤ b) (hb : b ≤ 1000) : ∀ (n : Nat) (l h : Int), 0 ≤ l → l ≤ h → h ≤ 4096 → h - l < 2 ^ n → sr a b n 1000 l h = h
  | 0, l, h, _, _, _, hd => by simp at hd; simp [sr]; omega
  | n + 1, l, h, h0, hl, h1, hd => by
    have hp : (2 : Int) ^ (n + 1) = 2 * 2 ^ n := by rw [Int.pow_succ]; omega
    unfold sr
    split
    · have := bd_lt ha0 ha hb0 hb (k := (l + h) / 2) (by omega) (by omega)
      rw [if_neg (by omega)]
      exact sr_end ha0 ha hb0 hb n _ h (by omega) (by omega) h1 (by omega)
    · omega

theorem loop_eq {c0 c2 : Int} (c1 c3 kd N t : Int) (f : Nat) (kx : Int → Int → Int → Int → Int → Int → Int → Option Int) (ha0 : 0 ≤ c0) (ha : c0 ≤ 1000) (hb0 : 0 ≤ c2) (hb : c2 ≤ 1000) :
    ∀ (n : Nat) (l h : Int), 0 ≤ l → l ≤ h → h ≤ 4096 → h - l < 2 ^ n → anim_eased.c13 f (n + 1) t l h kd c0 c1 c2 c3 N kx = kx (sr c0 c2 n t l h) kd c0 c1 c2 c3 N
  | n, l, h, h0, hl, h1, hd => by
    unfold anim_eased.c13
    by_cases hlt : l < h
    · have hm : IntKind.wrap .i64 (Int.tdiv (IntKind.wrap .i64 (l + h)) 2) = (l + h) / 2 := by
        rw [wrap_i64 (n := l + h) (by omega) (by omega), Int.tdiv_eq_ediv_of_nonneg (by omega), wrap_i64 (by omega) (by omega)]
      simp only [hlt, decide_true, cond_true, hm]
      have hbe := bend_eq (k := (l + h) / 2) f ha0 ha hb0 hb (by omega) (by omega)
      have g0 : [c0, c1, c2, c3].getD ((0 : Int).toNat) 0 = c0 := rfl
      have g2 : [c0, c1, c2, c3].getD ((2 : Int).toNat) 0 = c2 := rfl
      have d0 : decide (0 ≤ (0 : Int) ∧ (0 : Int) < ((4 : Nat) : Int)) = true := rfl
      have d2 : decide (0 ≤ (2 : Int) ∧ (2 : Int) < ((4 : Nat) : Int)) = true := rfl
      have d1 : ((2 : Int) != 0) = true := rfl
      simp only [g0, g2, d0, d1, d2, cond_true, hbe, Option.bind_some]
      cases n with
      | zero => simp at hd; omega
      | succ n =>
        have hp : (2 : Int) ^ (n + 1) = 2 * 2 ^ n := by rw [Int.pow_succ]; omega
        unfold sr
        rw [if_pos hlt]
        by_cases hc : bd c0 c2 ((l + h) / 2) ≥ t
        · rw [if_pos hc]
          simp only [hc, decide_true, cond_true]
          exact loop_eq c1 c3 kd N t f kx ha0 ha hb0 hb n l _ h0 (by omega) (by omega) (by omega)
        · rw [if_neg hc]
          simp only [hc, decide_false, cond_false]
          rw [wrap_i64 (by omega) (by omega)]
          exact loop_eq c1 c3 kd N t f kx ha0 ha hb0 hb n _ h (by omega) (by omega) h1 (by omega)
    · have : sr c0 c2 n t l h = l := by cases n <;> simp [sr, hlt]
      simp [hlt, this]

def Right (kd c0 c1 c2 c3 N : Int) : Prop :=
  kd = 1 ∨ (kd = 3 ∧ 1 ≤ N ∧ N ≤ 1000) ∨ (kd = 2 ∧ (0 ≤ c0 ∧ c0 ≤ 1000) ∧ (0 ≤ c1 ∧ c1 ≤ 1000) ∧ (0 ≤ c2 ∧ c2 ≤ 1000) ∧ (0 ≤ c3 ∧ c3 ≤ 1000))

theorem sr_more (a b t : Int) (j : Nat) : ∀ (n : Nat) (l h : Int), l ≤ h → h - l < 2 ^ n → sr a b (n + j) t l h = sr a b n t l h
  | 0, l, h, hl, hd => by
    have : l = h := by simp at hd; omega
    subst this
    cases j <;> simp [sr]
  | n + 1, l, h, hl, hd => by
    have hp : (2 : Int) ^ (n + 1) = 2 * 2 ^ n := by rw [Int.pow_succ]; omega
    rw [show n + 1 + j = (n + j) + 1 by omega]
    unfold sr
    split
    · split
      · exact sr_more a b t j n _ _ (by omega) (by omega)
      · exact sr_more a b t j n _ _ (by omega) (by omega)
    · rfl

/-- Is an easing right? -/
def eas (kd c0 c1 c2 c3 N : Int) : Bool :=
  if kd = 1 then c0 == 0 && c1 == 0 && c2 == 0 && c3 == 0 && N == 0
  else if kd = 3 then decide (1 ≤ N ∧ N ≤ 1000) && (c0 == 0 && c1 == 0 && c2 == 0 && c3 == 0)
  else if kd = 2 then decide ((0 ≤ c0 ∧ c0 ≤ 1000) ∧ (0 ≤ c1 ∧ c1 ≤ 1000) ∧ (0 ≤ c2 ∧ c2 ≤ 1000) ∧ (0 ≤ c3 ∧ c3 ≤ 1000)) && N == 0
  else false

theorem eas_right {kd c0 c1 c2 c3 N : Int} (h : eas kd c0 c1 c2 c3 N = true) : Right kd c0 c1 c2 c3 N := by
  unfold eas at h
  split at h
  · exact .inl ‹_›
  split at h
  · simp only [Bool.and_eq_true, decide_eq_true_eq] at h
    exact .inr (.inl ⟨‹_›, h.1⟩)
  split at h
  · simp only [Bool.and_eq_true, decide_eq_true_eq] at h
    exact .inr (.inr ⟨‹_›, h.1⟩)
  · cases h

theorem easing_eq (k : Nat) (kd c0 c1 c2 c3 N : Int) : anim_easing (k + 20) kd c0 c1 c2 c3 N = some (eas kd c0 c1 c2 c3 N) := by
  unfold anim_easing eas
  by_cases h1 : kd = 1
  · subst h1; simp [Bool.and_assoc]
  by_cases h3 : kd = 3
  · subst h3
    simp only [in_eq, Option.bind_some]
    by_cases hN : 1 ≤ N ∧ N ≤ 1000 <;> simp [hN, Bool.and_assoc]
  by_cases h2 : kd = 2
  · subst h2
    have w0 : IntKind.wrap .i64 (0 + 1) = 1 := rfl
    have w1 : IntKind.wrap .i64 (1 + 1) = 2 := rfl
    have w2 : IntKind.wrap .i64 (2 + 1) = 3 := rfl
    have w3 : IntKind.wrap .i64 (3 + 1) = 4 := rfl
    simp only [anim_easing.c17, in_eq, Option.bind_some, w0, w1, w2, w3]
    by_cases k0 : 0 ≤ c0 ∧ c0 ≤ 1000 <;> by_cases k1 : 0 ≤ c1 ∧ c1 ≤ 1000 <;> by_cases k2 : 0 ≤ c2 ∧ c2 ≤ 1000 <;> by_cases k3 : 0 ≤ c3 ∧ c3 ≤ 1000 <;> simp [k0, k1, k2, k3]
  · have e1 : (kd == 1) = false := by simpa using h1
    have e2 : (kd == 2) = false := by simpa using h2
    have e3 : (kd == 3) = false := by simpa using h3
    simp [e1, e2, e3, h1, h2, h3]

/-- How far one is. -/
def fe (kd c0 c1 c2 c3 N t : Int) : Int :=
  if kd = 3 then t * N / 1000 * 1000 / N else if kd = 2 then bd c1 c3 (sr c0 c2 19 t 0 4096) else t

theorem eased_eq (k : Nat) {kd c0 c1 c2 c3 N t : Int} (hr : Right kd c0 c1 c2 c3 N) (h0 : 0 ≤ t) (h1 : t ≤ 1000) : anim_eased (k + 20) kd c0 c1 c2 c3 N t = some (fe kd c0 c1 c2 c3 N t) := by
  unfold anim_eased fe
  rcases hr with rfl | ⟨rfl, hN⟩ | ⟨rfl, k0, k1, k2, k3⟩
  · simp
  · have b := mul_bd h0 h1 (show 0 ≤ N by omega) hN.2
    have hN0 : (N != 0) = true := by simp; omega
    simp only
    rw [wrap_i64 (n := t * N) (by omega) (by omega), Int.tdiv_eq_ediv_of_nonneg b.1, wrap_i64 (n := t * N / 1000) (by omega) (by omega), wrap_i64 (n := t * N / 1000 * 1000) (by omega) (by omega),
      Int.tdiv_eq_ediv_of_nonneg (by omega)]
    have q0 : 0 ≤ t * N / 1000 * 1000 / N := Int.ediv_nonneg (by omega) (by omega)
    have q1 : t * N / 1000 * 1000 / N ≤ t * N / 1000 * 1000 := Int.ediv_le_self _ (by omega)
    rw [wrap_i64 (n := t * N / 1000 * 1000 / N) (by omega) (by omega)]
    simp [hN0]
  · have g1 : ∀ a b c d : Int, [a, b, c, d].getD ((1 : Int).toNat) 0 = b := fun _ _ _ _ => rfl
    have g3 : ∀ a b c d : Int, [a, b, c, d].getD ((3 : Int).toNat) 0 = d := fun _ _ _ _ => rfl
    have d1 : decide (0 ≤ (1 : Int) ∧ (1 : Int) < ((4 : Nat) : Int)) = true := rfl
    have d3 : decide (0 ≤ (3 : Int) ∧ (3 : Int) < ((4 : Nat) : Int)) = true := rfl
    have e1 : ((2 : Int) == 3) = false := rfl
    have e2 : ((2 : Int) == 2) = true := rfl
    simp only [e1, e2, cond_true, cond_false, g1, g3, d1, d3]
    have hfuel : ∀ kx, anim_eased.c13 (k + 20) (k + 20) t 0 4096 2 c0 c1 c2 c3 N kx = kx (sr c0 c2 19 t 0 4096) 2 c0 c1 c2 c3 N := fun kx => by
      have hp : (4096 : Int) - 0 < 2 ^ (19 + k) := by
        have h1 : (2 : Int) ^ (19 + k) = 2 ^ 19 * 2 ^ k := Int.pow_add 2 19 k
        have h2 : 0 < (2 : Int) ^ k := Int.pow_pos (by decide)
        rw [h1]; omega
      have := loop_eq c1 c3 2 N t (k + 20) kx k0.1 k0.2 k2.1 k2.2 (19 + k) 0 4096 (by omega) (by omega) (by omega) hp
      rw [sr_more c0 c2 t k 19 0 4096 (by omega) (by decide)] at this
      rw [← this]; congr 1; omega
    rw [hfuel]
    have hs := sr_rng c0 c2 t 19 0 4096 (by omega)
    simp only [bend_eq (k + 20) k1.1 k1.2 k3.1 k3.2 hs.1 hs.2, Option.bind_some]
    simp

/-- Part of the way. -/
def pt (a b t : Int) : Int := a + (b - a) * t / 1000

theorem pt_rng {a b t : Int} (h0 : 0 ≤ t) (h1 : t ≤ 1000) : (a ≤ b → a ≤ pt a b t ∧ pt a b t ≤ b) ∧ (b ≤ a → b ≤ pt a b t ∧ pt a b t ≤ a) := by
  unfold pt
  constructor
  · intro h
    have := mul_bd (x := b - a) (X := b - a) (by omega) (Int.le_refl _) h0 h1
    omega
  · intro h
    have := mul_bd (x := a - b) (X := a - b) (by omega) (Int.le_refl _) h0 h1
    have e : (b - a) * t = - ((a - b) * t) := by rw [← Int.neg_mul]; congr 1; omega
    omega

theorem pt_0 (a b : Int) : pt a b 0 = a := by unfold pt; simp
theorem pt_1000 (a b : Int) : pt a b 1000 = b := by unfold pt; omega
theorem pt_self (a t : Int) : pt a a t = a := by unfold pt; simp

theorem part_eq (k : Nat) {a b t : Int} (ha : -4294967296 ≤ a ∧ a ≤ 4294967296) (hb : -4294967296 ≤ b ∧ b ≤ 4294967296) (h0 : 0 ≤ t) (h1 : t ≤ 1000) : anim_part k a b t = some (pt a b t) := by
  have hp : -8589934592000 ≤ (b - a) * t ∧ (b - a) * t ≤ 8589934592000 := by
    rcases Int.le_total a b with h | h
    · have := mul_bd (x := b - a) (X := 8589934592) (by omega) (by omega) h0 h1; omega
    · have := mul_bd (x := a - b) (X := 8589934592) (by omega) (by omega) h0 h1
      have e : (b - a) * t = - ((a - b) * t) := by rw [← Int.neg_mul]; congr 1; omega
      omega
  unfold anim_part pt
  rw [wrap_i64 (n := b - a) (by omega) (by omega), wrap_i64 (n := (b - a) * t) (by omega) (by omega)]
  generalize (b - a) * t = m at hp
  have e1 : Int.tdiv m 1000 = if m < 0 ∧ m % 1000 ≠ 0 then m / 1000 + 1 else m / 1000 := by
    rw [Int.tdiv_eq_ediv]
    have : (1000 : Int) ∣ m ↔ m % 1000 = 0 := Int.dvd_iff_emod_eq_zero
    simp only [this]
    split <;> split <;> simp_all <;> omega
  have e2 : Int.tmod m 1000 = m - 1000 * Int.tdiv m 1000 := Int.tmod_def m 1000
  have hq : -8589934592 ≤ Int.tdiv m 1000 ∧ Int.tdiv m 1000 ≤ 8589934592 := by rw [e1]; split <;> omega
  simp only
  rw [wrap_i64 (n := Int.tdiv m 1000) (by omega) (by omega)]
  have d : ((1000 : Int) != 0) = true := rfl
  simp only [d, cond_true, e2, anim_part.c10]
  by_cases hm : m < 0 ∧ m % 1000 ≠ 0
  · rw [if_pos hm] at e1
    rw [e1, decide_eq_true (by omega), cond_true]
    simp (disch := omega) only [wrap_i64]
    congr 1; omega
  · rw [if_neg hm] at e1
    rw [e1, decide_eq_false (by omega), cond_false]
    simp (disch := omega) only [wrap_i64]

/-- A number within what a length may be. -/
def ct (n : Int) : Int := if (16777216 : Int) < (if (-16777216 : Int) > n then -16777216 else n) then 16777216 else if (-16777216 : Int) > n then -16777216 else n

theorem cut_eq (k : Nat) (n : Int) : anim_cut k n = some (ct n) := rfl
theorem ct_rng (n : Int) : -16777216 ≤ ct n ∧ ct n ≤ 16777216 := by unfold ct; split <;> split at * <;> omega
theorem ct_id {n : Int} (h : -16777216 ≤ n) (h' : n ≤ 16777216) : ct n = n := by unfold ct; split <;> split at * <;> omega

/-- Thousandths. -/
def cl (t : Int) : Int := if (1000 : Int) < (if (0 : Int) > t then 0 else t) then 1000 else if (0 : Int) > t then 0 else t
theorem cl_rng (t : Int) : 0 ≤ cl t ∧ cl t ≤ 1000 := by unfold cl; split <;> split at * <;> omega
theorem cl_id {t : Int} (h : 0 ≤ t) (h' : t ≤ 1000) : cl t = t := by unfold cl; split <;> split at * <;> omega

/-- A color between two. -/
def col (x y t : Int) : Int :=
  ((pt (x % 4294967296 / 16777216) (y % 4294967296 / 16777216) t * 256 + pt (x % 4294967296 / 65536 % 256) (y % 4294967296 / 65536 % 256) t) * 256 +
    pt (x % 4294967296 / 256 % 256) (y % 4294967296 / 256 % 256) t) * 256 + pt (x % 4294967296 % 256) (y % 4294967296 % 256) t

theorem col_0 (x y : Int) : col x y 0 = x % 4294967296 := by unfold col; simp only [pt_0]; omega
theorem col_1000 (x y : Int) : col x y 1000 = y % 4294967296 := by unfold col; simp only [pt_1000]; omega

def mx (k1 n1 k2 n2 t : Int) : Int × Int :=
  if k1 = k2 ∧ 2 ≤ k1 ∧ k1 ≤ 4 then (k1, pt (ct n1) (ct n2) (cl t)) else if k1 = 5 ∧ k2 = 5 then (5, col n1 n2 (cl t)) else if cl t < 500 then (k1, n1) else (k2, n2)

theorem col_step (k n : Nat) {t acc x y : Int} (at_ : Int) (d : Int) (hat : at_ = 24 ∨ at_ = 16 ∨ at_ = 8 ∨ at_ = 0) (hd : d = 2 ^ at_.toNat) (h0 : 0 ≤ t) (h1 : t ≤ 1000) (ha0 : 0 ≤ acc) (ha : acc < 16777216) (x16 x18 x20 x21 : Int) (k1 : Int → Int → Int → Option (Int × Int)) :
    anim_Mix.c15 k (n + 1) t acc at_ x16 x x18 y x20 x21 k1 = anim_Mix.c15 k n t (acc * 256 + pt (x % 4294967296 / d % 256) (y % 4294967296 / d % 256) t) (at_ - 8) x16 x x18 y x20 x21 k1 := by
  have hx : 0 ≤ x % 4294967296 ∧ x % 4294967296 < 4294967296 := by omega
  have hy : 0 ≤ y % 4294967296 ∧ y % 4294967296 < 4294967296 := by omega
  have hdd : d = 16777216 ∨ d = 65536 ∨ d = 256 ∨ d = 1 := by rcases hat with rfl | rfl | rfl | rfl <;> subst hd <;> simp
  have hmin : (2 : Int) ^ (min at_.toNat (IntKind.bits .u32)) = d := by rcases hat with rfl | rfl | rfl | rfl <;> subst hd <;> rfl
  have hb : ∀ z : Int, 0 ≤ z → z < 4294967296 → 0 ≤ z / d ∧ z / d < 4294967296 := fun z h1 h2 => by rcases hdd with rfl | rfl | rfl | rfl <;> omega
  have hat0 : 0 ≤ at_ ∧ at_ ≤ 24 := by omega
  rw [anim_Mix.c15]
  have hbx := hb _ hx.1 hx.2
  have hby := hb _ hy.1 hy.2
  have hp := pt_rng (a := x % 4294967296 / d % 256) (b := y % 4294967296 / d % 256) h0 h1
  have hp2 : 0 ≤ pt (x % 4294967296 / d % 256) (y % 4294967296 / d % 256) t ∧ pt (x % 4294967296 / d % 256) (y % 4294967296 / d % 256) t < 256 := by
    rcases Int.le_total (x % 4294967296 / d % 256) (y % 4294967296 / d % 256) with h | h
    · have := hp.1 h; omega
    · have := hp.2 h; omega
  have e1 : ∀ z : Int, 0 ≤ z / d → z / d < 4294967296 → IntKind.wrap .i64 (IntKind.wrap .u32 (((BitVec.ofInt (IntKind.bits .u32) (z / d) &&& BitVec.ofInt (IntKind.bits .u32) (255 : Int)).toNat : Int))) = z / d % 256 := fun z h1 h2 => by
    rw [and_255 h1 h2, wrap_u32, Int.emod_eq_of_lt (by omega) (by omega), wrap_i64 (by omega) (by omega)]
  simp only [wrap_u32 x, wrap_u32 y, hmin, fdiv_u d (show 0 ≤ d by omega), e1 _ hbx.1 hbx.2, e1 _ hby.1 hby.2]
  rw [part_eq k (by omega) (by omega) h0 h1]
  have hs : decide (0 ≤ (8 : Int)) = true := rfl
  simp only [hat0.1, decide_true, cond_true, hs, Option.bind_some, shl8]
  rw [wrap_i64 (n := acc * 256) (by omega) (by omega), or_byte ha0 (by omega) hp2.1 hp2.2, wrap_i64 (n := at_ - 8) (by omega) (by omega)]

theorem byte_rng {x d : Int} (hd : 0 < d) : 0 ≤ x / d % 256 ∧ x / d % 256 < 256 := by omega

theorem Mix_eq (k : Nat) (k1 n1 k2 n2 t : Int) : anim_Mix (k + 20) k1 n1 k2 n2 t = some (mx k1 n1 k2 n2 t) := by
  unfold anim_Mix mx
  have hc := cl_rng t
  have h1 := ct_rng n1
  have h2 := ct_rng n2
  simp only [in_eq, cut_eq, Option.bind_some]
  have ht : (if (1000 : Int) < (if (0 : Int) > t then 0 else t) then 1000 else if (0 : Int) > t then 0 else t) = cl t := rfl
  rw [ht, part_eq (k + 20) (by omega) (by omega) hc.1 hc.2]
  by_cases e : k1 = k2
  · subst e
    by_cases hk : 2 ≤ k1 ∧ k1 ≤ 4
    · simp [hk]
    · simp only [beq_self_eq_true, cond_true, Option.bind_some, hk, and_false, if_false, decide_false, cond_false]
      by_cases h5 : k1 = 5
      · subst h5
        simp only [beq_self_eq_true, cond_true, and_self, if_true]
        have hb := fun (a b : Int) => pt_rng (a := a) (b := b) hc.1 hc.2
        have hbb : ∀ a b : Int, 0 ≤ a → a < 256 → 0 ≤ b → b < 256 → 0 ≤ pt a b (cl t) ∧ pt a b (cl t) < 256 := fun a b g1 g2 g3 g4 => by
          rcases Int.le_total a b with h | h
          · have := (hb a b).1 h; omega
          · have := (hb a b).2 h; omega
        refine (col_step (k + 20) (k + 19) 24 16777216 (by omega) rfl hc.1 hc.2 (by omega) (by omega) _ _ _ _ _).trans ?_
        have q1 := hbb (n1 % 4294967296 / 16777216 % 256) (n2 % 4294967296 / 16777216 % 256) (by omega) (by omega) (by omega) (by omega)
        refine (col_step (k + 20) (k + 18) (24 - 8) 65536 (by omega) rfl hc.1 hc.2 (by omega) (by omega) _ _ _ _ _).trans ?_
        have q2 := hbb (n1 % 4294967296 / 65536 % 256) (n2 % 4294967296 / 65536 % 256) (by omega) (by omega) (by omega) (by omega)
        refine (col_step (k + 20) (k + 17) (24 - 8 - 8) 256 (by omega) rfl hc.1 hc.2 (by omega) (by omega) _ _ _ _ _).trans ?_
        have q3 := hbb (n1 % 4294967296 / 256 % 256) (n2 % 4294967296 / 256 % 256) (by omega) (by omega) (by omega) (by omega)
        refine (col_step (k + 20) (k + 16) (24 - 8 - 8 - 8) 1 (by omega) rfl hc.1 hc.2 (by omega) (by omega) _ _ _ _ _).trans ?_
        rw [show anim_Mix.c15 (k + 20) (k + 16) = anim_Mix.c15 (k + 20) ((k + 15) + 1) from rfl, anim_Mix.c15]
        simp only [col]
        have r1 : n1 % 4294967296 / 16777216 % 256 = n1 % 4294967296 / 16777216 := by omega
        have r2 : n2 % 4294967296 / 16777216 % 256 = n2 % 4294967296 / 16777216 := by omega
        rw [r1, r2, Int.ediv_one, Int.ediv_one]
        simp
      · have h5' : (k1 == 5) = false := by simpa using h5
        simp only [h5', h5, cond_false, false_and, if_false]
        by_cases h : cl t < 500 <;> simp [h]
  · have e' : (k1 == k2) = false := by simpa using e
    simp only [e', cond_false, Option.bind_some, e, false_and, if_false]
    have h5 : ¬ (k1 = 5 ∧ k2 = 5) := fun h => e (by omega)
    have h5' : (cond (k1 == 5) (k2 == 5) false) = false := by
      cases h : k1 == 5 <;> simp
      simp at h; subst h; exact fun h => e h.symm
    simp only [h5', cond_false, h5, if_false]
    by_cases h : cl t < 500 <;> simp [h]
end
end Go.Ev.An
