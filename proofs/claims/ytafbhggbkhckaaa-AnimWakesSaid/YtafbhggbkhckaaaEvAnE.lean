/- A part of the evaluator of Go code over small heaps and of its proof: no condition beyond those that each theorem names. -/
import Derived.Test.YtafbhggbkhckaaaEvAnD
set_option linter.unusedVariables false
namespace Go.Ev.An
noncomputable section
open Go.Proofs

theorem at_lt {a : S50} (ha : Ok a) : ∀ (d j : Nat), j + (d + 1) < a.Frames.length → (fr a.Frames j).At < (fr a.Frames (j + (d + 1))).At
  | 0, j, h => ha.rise j h
  | d + 1, j, h => by
    have h1 := at_lt ha d j (by omega)
    have h2 := ha.rise (j + (d + 1)) (by omega)
    rw [show j + (d + 1) + 1 = j + (d + 1 + 1) by omega] at h2
    omega

theorem at_lt' {a : S50} (ha : Ok a) {i j : Nat} (hij : i < j) (hj : j < a.Frames.length) : (fr a.Frames i).At < (fr a.Frames j).At := by
  have := at_lt ha (j - i - 1) i (by omega)
  rwa [show i + (j - i - 1 + 1) = j by omega] at this

theorem at_rng {a : S50} (ha : Ok a) {j : Nat} (hj : j < a.Frames.length) : 0 ≤ (fr a.Frames j).At ∧ (fr a.Frames j).At ≤ 1000 := by
  have h0 := ha.at0
  have h1 := ha.atn
  constructor
  · rcases Nat.eq_zero_or_pos j with h | h
    · subst h; omega
    · have := at_lt' ha h hj; omega
  · rcases Nat.lt_or_ge j (a.Frames.length - 1) with h | h
    · have := at_lt' ha h (by omega); omega
    · rw [show j = a.Frames.length - 1 by omega]; omega

/-- At a frame's place it is that frame. -/
theorem ix_at {a : S50} (ha : Ok a) {j : Nat} (hj : j < a.Frames.length) : ix a.Frames (fr a.Frames j).At 20 0 = j := by
  have n2 := ha.n2
  have n10 := ha.n10
  have hs := ix_spec a.Frames (fr a.Frames j).At 20 0 (by omega) (by omega) (by rw [ha.at0]; exact (at_rng ha hj).1)
  obtain ⟨_, s2, s3, s4⟩ := hs
  generalize ix a.Frames (fr a.Frames j).At 20 0 = i at s2 s3 s4
  rcases Nat.lt_trichotomy i j with h | h | h
  · have := s4 (by omega)
    rcases Nat.lt_or_ge (i + 1) j with h2 | h2
    · have := at_lt' ha h2 hj; omega
    · rw [show i + 1 = j by omega] at this; omega
  · exact h
  · have := at_lt' ha h s2; omega

/-- May a value be told exactly? -/
def plain (v : Int × Int) : Prop := (2 ≤ v.1 ∧ v.1 ≤ 4 → -16777216 ≤ v.2 ∧ v.2 ≤ 16777216) ∧ (v.1 = 5 → 0 ≤ v.2 ∧ v.2 < 4294967296)

theorem frv_at {a : S50} (ha : Ok a) {j : Nat} (hj : j < a.Frames.length) (hp : plain (fv a.Frames j)) : frv a (fr a.Frames j).At = fv a.Frames j := by
  unfold frv
  rw [ix_at ha hj]
  simp only
  by_cases h : j + 1 = a.Frames.length
  · rw [if_pos h]
  · rw [if_neg h, Int.sub_self, Int.zero_mul, Int.zero_ediv, fe_0 ha.ease]
    generalize fv a.Frames j = v at hp
    generalize fv a.Frames (j + 1) = u
    obtain ⟨k1, n1⟩ := v
    obtain ⟨k2, n2⟩ := u
    unfold mx
    rw [cl_id (by omega) (by omega)]
    simp only
    by_cases c1 : k1 = k2 ∧ 2 ≤ k1 ∧ k1 ≤ 4
    · have := hp.1 c1.2
      rw [if_pos c1, pt_0, ct_id this.1 this.2]
    · rw [if_neg c1]
      by_cases c2 : k1 = 5 ∧ k2 = 5
      · have := hp.2 c2.1
        rw [if_pos c2, col_0, Int.emod_eq_of_lt this.1 this.2, c2.1]
      · rw [if_neg c2, if_pos (by omega)]

theorem frames_law (a1 a2 a3 : Int) (a4 a5 : Bool) (a6 a7 a8 a9 a10 a11 : Int) (a12 : List S53) (a13 a14 : Int) : ∃ k, clerestorykeep2_AnimFrames k a1 a2 a3 a4 a5 a6 a7 a8 a9 a10 a11 a12 a13 a14 = some true := by
  refine ⟨40, ?_⟩
  unfold clerestorykeep2_AnimFrames
  rw [stepped_eq 20]
  have e := fun l b1 b2 now => At_eq 0 l b1 b2 now
  simp only [Nat.zero_add] at e
  have hm : 0 ≤ Int.tmod (IntKind.wrap .u64 a13) 1000 ∧ Int.tmod (IntKind.wrap .u64 a13) 1000 < 1000 := by
    rw [wrap_u64, tmod_u _ (by omega)]; omega
  generalize Int.tmod (IntKind.wrap .u64 a13) 1000 = m at hm
  simp only [e, Option.bind_some]
  rw [wrap_i64 (n := m) (by omega) (by omega), wrap_i64 (n := 1 + m) (by omega) (by omega), wrap_i64 (n := 1000 * (1 + m)) (by omega) (by omega)]
  generalize hM : 1 + m = M
  have hM1 : 1 ≤ M ∧ M ≤ 1000 := by omega
  generalize hA : (⟨a1, 1000 * M, a3, a4, a5, a6, a7, a8, a9, a10, a11, a12⟩ : S50) = A
  have hck := ck_eq 20 A
  unfold ck at hck
  rw [← hA] at hck
  simp only [Nat.reduceAdd] at hck
  rw [hck, Option.bind_some, hA]
  have d1 : ((1000 : Int) != 0) = true := rfl
  simp only [d1, cond_true, Bool.true_or]
  by_cases hc : ckv 40 A = 0
  rotate_left
  · have : (ckv 40 A != 0) = true := by simpa using hc
    simp [this]
  have hA' := ck_ok (k := 20) hc
  have f : A.From = a1 := by rw [← hA]
  have fL : A.Length = 1000 * M := by rw [← hA]
  have fT : A.Times = a3 := by rw [← hA]
  have fU : A.Turn = a4 := by rw [← hA]
  have fS : A.Stays = a5 := by rw [← hA]
  have fF : A.Frames = a12 := by rw [← hA]
  have n2 := hA'.n2
  have n10 := hA'.n10
  have hfr := hA'.frm
  have htm := hA'.tms
  rw [f] at hfr
  rw [fT] at htm
  rw [fF] at n2 n10
  have e1 : (ckv 40 A != 0) = false := by simpa using hc
  have e2 : ((a12.length : Int) == 0) = false := by rw [beq_eq_false_iff_ne]; omega
  simp only [e1, e2, cond_false]
  have w1 : IntKind.wrap .u64 (a12.length : Int) = (a12.length : Int) := by rw [wrap_u64]; omega
  have e3 : ((a12.length : Int) != 0) = true := by rw [bne_iff_ne]; omega
  rw [w1]
  simp only [e3, cond_true]
  have hq : 0 ≤ Int.tmod (IntKind.wrap .u64 a14) (a12.length : Int) ∧ Int.tmod (IntKind.wrap .u64 a14) (a12.length : Int) < (a12.length : Int) := by
    rw [wrap_u64, tmod_u _ (by omega)]
    exact ⟨Int.emod_nonneg _ (by omega), Int.emod_lt_of_pos _ (by omega)⟩
  generalize Int.tmod (IntKind.wrap .u64 a14) (a12.length : Int) = q at hq
  rw [wrap_i64 (n := q) (by omega) (by omega), wrap_i64 (n := (a12.length : Int) - 1) (by omega) (by omega)]
  rw [cond_dec hq]
  obtain ⟨j, rfl⟩ := Int.eq_ofNat_of_zero_le hq.1
  have hj : j < a12.length := by omega
  rw [Int.toNat_natCast]
  have g0 : a12.getD j S53.d = fr A.Frames j := by rw [fF]; rfl
  rw [g0]
  have hat := at_rng hA' (j := j) (by rw [fF]; exact hj)
  have hatn := hA'.atn
  have hfv : fv A.Frames j = ((fr A.Frames j).Val_Kind, (fr A.Frames j).Val_N) := rfl
  generalize hvk : (fr A.Frames j).Val_Kind = vk at hfv
  generalize hvn : (fr A.Frames j).Val_N = vn at hfv
  by_cases hp : plain (vk, vn)
  rotate_left
  · have : (cond (cond (cond (decide (vk ≥ 2)) (decide (vk ≤ 4)) false) (cond (decide (vn > 16777216)) true (decide (vn < -16777216))) false) true (cond (vk == 5) (cond (decide (vn < 0)) true (decide (vn > 4294967295))) false)) = true := by
      by_cases c1 : 2 ≤ vk ∧ vk ≤ 4
      · by_cases c2 : vn > 16777216
        · simp [c1, c2]
        · by_cases c3 : vn < -16777216
          · simp [c1, c2, c3]
          · exact (hp ⟨fun _ => ⟨by omega, by omega⟩, fun h => by simp only at h; omega⟩).elim
      · by_cases c4 : vk = 5
        · by_cases c2 : vn < 0
          · simp [c4, c2]
          · by_cases c3 : vn > 4294967295
            · simp [c4, c3]
            · exact (hp ⟨fun h => (c1 h).elim, fun _ => ⟨by simp only; omega, by simp only; omega⟩⟩).elim
        · exact (hp ⟨fun h => (c1 h).elim, fun h => (c4 h).elim⟩).elim
    simp only [this, cond_true]
  have : (cond (cond (cond (decide (vk ≥ 2)) (decide (vk ≤ 4)) false) (cond (decide (vn > 16777216)) true (decide (vn < -16777216))) false) true (cond (vk == 5) (cond (decide (vn < 0)) true (decide (vn > 4294967295))) false)) = false := by
    by_cases c1 : 2 ≤ vk ∧ vk ≤ 4
    · have := hp.1 c1
      simp only at this
      have h5 : ¬ vk = 5 := by omega
      have i1 : ¬ vn > 16777216 := by omega
      have i2 : ¬ vn < -16777216 := by omega
      simp [c1, i1, i2, h5]
    · by_cases c4 : vk = 5
      · have := hp.2 c4
        simp only at this
        have i1 : ¬ vn < 0 := by omega
        have i2 : ¬ vn > 4294967295 := by omega
        simp [c4, i1, i2]
      · simp [c4]; omega
  simp only [this, cond_false]
  generalize hAt : (fr A.Frames j).At = at_ at hat
  have hx := mul_bd (x := at_) (X := 1000) (y := 1000 * M) (Y := 1000000) (by omega) (by omega) (by omega) (by omega)
  rw [wrap_i64 (n := at_ * (1000 * M)) (by omega) (by omega), tdiv_u 1000 hx.1]
  have hdv : at_ * (1000 * M) / 1000 = at_ * M := by
    rw [show at_ * (1000 * M) = at_ * M * 1000 by rw [Int.mul_comm 1000 M, Int.mul_assoc]]
    exact Int.mul_ediv_cancel _ (by omega)
  rw [hdv]
  have hy := mul_bd (x := at_) (X := 1000) (y := M) (Y := 1000) (by omega) (by omega) (by omega) (by omega)
  have hz := mul_bd (x := a3) (X := 1000) (y := 1000 * M) (Y := 1000000) (by omega) (by omega) (by omega) (by omega)
  rw [wrap_i64 (n := at_ * M) (by omega) (by omega), wrap_i64 (n := a3 * (1000 * M)) (by omega) (by omega), wrap_i64 (n := a1 + at_ * M) (by omega) (by omega)]
  have hr : re 40 [A] (a1 + at_ * M) = 0 := by unfold re; rw [ce_one, if_neg (by simp), if_neg (by simpa using hc), if_pos (by omega)]
  have hat_eq : atv 40 [A] 0 0 (a1 + at_ * M) = ((if (tl A (a1 + at_ * M)).2.2 = true then ((tl A (a1 + at_ * M)).1, (tl A (a1 + at_ * M)).2.1) else (0, 0)).1, (if (tl A (a1 + at_ * M)).2.2 = true then ((tl A (a1 + at_ * M)).1, (tl A (a1 + at_ * M)).2.1) else (0, 0)).2, 0) := by
    unfold atv; rw [if_neg (by simpa using hr)]; rfl
  rw [hat_eq]
  have hF : plain (fv A.Frames j) := by rw [hfv]; exact hp
  have htl := frv_at hA' (j := j) (by rw [fF]; exact hj) hF
  rw [hAt] at htl
  by_cases hl : j = a12.length - 1
  · have hl' : ((j : Int) == (a12.length : Int) - 1) = true := by simp; omega
    have hA1000 : at_ = 1000 := by rw [← hAt, hl, ← fF]; exact hatn
    subst hA1000
    rw [hl', cond_true]
    have hT0 : (a1 + 1000 * M - a1) = 1000 * M := by omega
    by_cases ht1 : a3 = 1
    · subst ht1
      have i1 : ¬ (1 * (1000 * M) > 1000 * M) := by omega
      have hq1 : tl A (a1 + 1000 * M) = (vk, vn, a5) := by
        unfold tl
        rw [f, fL, fT, fU, fS, if_neg (by omega), if_pos (by omega), if_neg (by simp)]
        rw [show A.Frames.length - 1 = j by rw [fF]; omega, hfv]
      rw [hq1]
      simp only [i1, decide_false, cond_false, beq_self_eq_true, cond_true]
      cases a5 <;> simp
    · have i1 : a3 * (1000 * M) > 1000 * M := by
        have := Int.mul_le_mul_of_nonneg_right (show 2 ≤ a3 by omega) (show 0 ≤ 1000 * M by omega); omega
      have i2 : (a3 == 1) = false := by simpa using ht1
      rw [decide_eq_true i1, i2]
      cases ht : a4 with
      | false => simp
      | true =>
        have hd : (1000 * M) / (1000 * M) = 1 := Int.ediv_self (by omega)
        have hq1 : tl A (a1 + 1000 * M) = (vk, vn, true) := by
          unfold tl
          rw [f, fL, fT, fU, if_neg (by omega), if_neg (by omega), hT0, hd, if_pos ⟨ht, rfl⟩, Int.emod_self, Int.zero_mul, Int.zero_ediv, Int.sub_zero, htl, hfv]
        rw [hq1]; simp
  · have hl' : ((j : Int) == (a12.length : Int) - 1) = false := by simp; omega
    have hlt : at_ < 1000 := by
      have := at_lt' hA' (i := j) (j := A.Frames.length - 1) (by rw [fF]; omega) (by rw [fF]; omega)
      rw [hatn, hAt] at this; exact this
    have hMM : at_ * M < 1000 * M := Int.mul_lt_mul_of_pos_right hlt (by omega)
    have hge : 1000 * M ≤ a3 * (1000 * M) := by
      have := Int.mul_le_mul_of_nonneg_right (show 1 ≤ a3 by omega) (show 0 ≤ 1000 * M by omega); omega
    have hT0 : a1 + at_ * M - a1 = at_ * M := by omega
    have hd : at_ * M / (1000 * M) = 0 := Int.ediv_eq_zero_of_lt hy.1 hMM
    have hmm : at_ * M % (1000 * M) = at_ * M := Int.emod_eq_of_lt hy.1 hMM
    have hr2 : at_ * M * 1000 / (1000 * M) = at_ := by
      rw [show at_ * M * 1000 = at_ * (1000 * M) by rw [Int.mul_assoc, Int.mul_comm M 1000]]
      exact Int.mul_ediv_cancel _ (by omega)
    have hq1 : tl A (a1 + at_ * M) = (vk, vn, true) := by
      unfold tl
      rw [f, fL, fT, fU, if_neg (by omega), if_neg (by omega), hT0, hd, if_neg (by simp), hmm, hr2, htl, hfv]
    rw [hq1, hl']
    simp
end
end Go.Ev.An
