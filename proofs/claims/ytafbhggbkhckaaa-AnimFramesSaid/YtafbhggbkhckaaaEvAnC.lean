/- A part of the evaluator of Go code over small heaps and of its proof: no condition beyond those that each theorem names. -/
import Derived.Test.YtafbhggbkhckaaaEvAnB
set_option linter.unusedVariables false
namespace Go.Ev.An
noncomputable section
open Go.Proofs

/-- A frame. -/
def fr (fs : List S53) (i : Nat) : S53 := fs.getD i S53.d

structure Ok (a : S50) : Prop where
  frm : 0 ≤ a.From ∧ a.From ≤ 100000000
  len : 1 ≤ a.Length ∧ a.Length ≤ 100000000
  tms : 1 ≤ a.Times ∧ a.Times ≤ 1000
  ease : Right a.Ease_Kind a.Ease_Curve_0 a.Ease_Curve_1 a.Ease_Curve_2 a.Ease_Curve_3 a.Ease_N
  n2 : 2 ≤ a.Frames.length
  n10 : a.Frames.length ≤ 10
  at0 : (fr a.Frames 0).At = 0
  atn : (fr a.Frames (a.Frames.length - 1)).At = 1000
  rise : ∀ i, i + 1 < a.Frames.length → (fr a.Frames i).At < (fr a.Frames (i + 1)).At

theorem drop1_getD (fs : List S53) (i : Nat) : (fs.drop 1).getD i S53.d = fr fs (i + 1) := by
  unfold fr
  simp only [List.getD_eq_getElem?_getD, List.getElem?_drop, Nat.add_comm 1 i]

theorem check_loop (k : Nat) (fs : List S53) (a1 a2 a3 : Int) (a4 a5 : Bool) (a6 a7 a8 a9 a10 a11 : Int) (k0 : Option Int) : ∀ (n i : Nat), i + n ≥ fs.length → 1 ≤ fs.length → fs.length ≤ 1000 →
    anim_Check.c23 k n (fs.drop 1) ((fs.length : Int) - 1) (i : Int) a1 a2 a3 a4 a5 a6 a7 a8 a9 a10 a11 fs k0 = some 3 ∨
    (anim_Check.c23 k n (fs.drop 1) ((fs.length : Int) - 1) (i : Int) a1 a2 a3 a4 a5 a6 a7 a8 a9 a10 a11 fs k0 = k0 ∧ ∀ j, i ≤ j → j + 1 < fs.length → (fr fs j).At < (fr fs (j + 1)).At) ∨ n = 0
  | 0, i, _, _, _ => .inr (.inr rfl)
  | n + 1, i, hn, h1, h2 => by
    rw [anim_Check.c23]
    by_cases hlt : (i : Int) < (fs.length : Int) - 1
    · have g1 : 0 ≤ (i : Int) ∧ (i : Int) < ((fs.drop 1).length : Int) := by simp; omega
      have g2 : 0 ≤ (i : Int) ∧ (i : Int) < (fs.length : Int) := by omega
      simp only [cond_dec hlt, cond_dec g1, cond_dec g2, Int.toNat_natCast, drop1_getD]
      by_cases hc : (fr fs (i + 1)).At ≤ (fs.getD i S53.d).At
      · left; rw [cond_dec hc]
      · rw [cond_ndec hc, wrap_i64 (by omega) (by omega)]
        have ih := check_loop k fs a1 a2 a3 a4 a5 a6 a7 a8 a9 a10 a11 k0 n (i + 1) (by omega) h1 h2
        rw [show ((i + 1 : Nat) : Int) = (i : Int) + 1 by omega] at ih
        rcases ih with ih | ⟨ih, hr⟩ | rfl
        · exact .inl ih
        · refine .inr (.inl ⟨ih, fun j hj hjl => ?_⟩)
          by_cases hji : j = i
          · subst hji; unfold fr at hc ⊢; omega
          · exact hr j (by omega) hjl
        · omega
    · rw [cond_ndec hlt]
      exact .inr (.inl ⟨rfl, fun j hj hjl => by omega⟩)

def ck (K : Nat) (a : S50) : Option Int := anim_Check K a.From a.Length a.Times a.Turn a.Stays a.Ease_Kind a.Ease_Curve_0 a.Ease_Curve_1 a.Ease_Curve_2 a.Ease_Curve_3 a.Ease_N a.Frames

theorem check_ok (k : Nat) (a : S50) : ∃ e, ck (k + 20) a = some e ∧ (e = 0 → Ok a) := by
  obtain ⟨a1, a2, a3, a4, a5, a6, a7, a8, a9, a10, a11, fs⟩ := a
  unfold ck anim_Check
  simp only [in_eq, Option.bind_some, easing_eq]
  by_cases h1 : 0 ≤ a1 ∧ a1 ≤ 100000000
  rotate_left
  · exact ⟨1, by simp [h1], fun h => by cases h⟩
  by_cases h2 : 1 ≤ a2 ∧ a2 ≤ 100000000
  rotate_left
  · exact ⟨1, by simp [h1, h2], fun h => by cases h⟩
  by_cases h3 : 1 ≤ a3 ∧ a3 ≤ 1000
  rotate_left
  · exact ⟨1, by simp [h1, h2, h3], fun h => by cases h⟩
  simp only [h1, h2, h3, and_self, decide_true, Bool.not_true, Bool.not_false, cond_true, cond_false, Option.bind_some]
  cases he : eas a6 a7 a8 a9 a10 a11 with
  | false => exact ⟨3, rfl, fun h => by cases h⟩
  | true =>
    simp only [Bool.not_true, cond_false]
    by_cases h4 : (fs.length : Int) > 10
    · exact ⟨2, by rw [cond_dec h4], fun h => by cases h⟩
    rw [cond_ndec h4]
    by_cases h5 : (fs.length : Int) < 2
    · exact ⟨3, by simp [h5], fun h => by cases h⟩
    have w1 : IntKind.wrap .i64 ((fs.length : Int) - 1) = (fs.length : Int) - 1 := wrap_i64 (by omega) (by omega)
    have w2 : ((fs.length : Int) - 1).toNat = fs.length - 1 := by omega
    have z0 : (0 : Int).toNat = 0 := rfl
    have z1 : (1 : Int).toNat = 1 := rfl
    have d0 : decide (0 ≤ (0 : Int) ∧ (0 : Int) < (fs.length : Int)) = true := decide_eq_true (by omega)
    have d1 : decide (0 ≤ (fs.length : Int) - 1 ∧ (fs.length : Int) - 1 < (fs.length : Int)) = true := decide_eq_true (by omega)
    have d2 : decide (0 ≤ (1 : Int) ∧ (1 : Int) ≤ (fs.length : Int)) = true := decide_eq_true (by omega)
    have d5 : decide ((fs.length : Int) < 2) = false := decide_eq_false h5
    simp only [d5, w1, w2, z0, z1, d0, d1, d2, Bool.true_or, cond_true, cond_false]
    have hl : ((fs.drop 1).length : Int) = (fs.length : Int) - 1 := by simp; omega
    rw [hl]
    generalize hA : (fs.getD 0 S53.d).At = A
    generalize hB : (fs.getD (fs.length - 1) S53.d).At = B
    by_cases h6 : A = 0
    rotate_left
    · exact ⟨3, by simp [show (A != 0) = true by simpa using h6], fun h => by cases h⟩
    by_cases h7 : B = 1000
    rotate_left
    · exact ⟨3, by simp [h6, show (B != 1000) = true by simpa using h7], fun h => by cases h⟩
    have e6 : (A != 0) = false := by simp [h6]
    have e7 : (B != 1000) = false := by simp [h7]
    simp only [e6, e7, cond_false]
    rcases check_loop (k + 20) fs a1 a2 a3 a4 a5 a6 a7 a8 a9 a10 a11 (some 0) (k + 20) 0 (by omega) (by omega) (by omega) with h | ⟨h, hr⟩ | h
    · exact ⟨3, h, fun h => by cases h⟩
    · exact ⟨0, h, fun _ => ⟨h1, h2, h3, eas_right he, by show 2 ≤ fs.length; omega, by show fs.length ≤ 10; omega, hA.trans h6, hB.trans h7, fun i hi => hr i (Nat.zero_le _) hi⟩⟩
    · omega

def ckv (K : Nat) (a : S50) : Int := (ck K a).getD 0

theorem ck_eq (k : Nat) (a : S50) : ck (k + 20) a = some (ckv (k + 20) a) := by
  obtain ⟨e, h, _⟩ := check_ok k a
  unfold ckv; rw [h]; rfl

theorem ck_ok {k : Nat} {a : S50} (h : ckv (k + 20) a = 0) : Ok a := by
  obtain ⟨e, h1, h2⟩ := check_ok k a
  unfold ckv at h; rw [h1] at h; exact h2 h

def ce (K : Nat) : List S50 → Int
  | [] => 0
  | a :: l => if ckv K a ≠ 0 then ckv K a else ce K l

theorem ce_ok {k : Nat} : ∀ {l : List S50}, ce (k + 20) l = 0 → ∀ a ∈ l, Ok a
  | [], _, a, h => by simp at h
  | b :: l, h, a, hm => by
    unfold ce at h
    by_cases hb : ckv (k + 20) b = 0
    · rw [if_neg (by simpa using hb)] at h
      rcases List.mem_cons.1 hm with rfl | hm
      · exact ck_ok hb
      · exact ce_ok h a hm
    · rw [if_pos hb] at h; exact (hb h).elim

theorem drop_at {α : Type} {l : List α} {i : Nat} (h : i < l.length) (d : α) : l.drop i = l.getD i d :: l.drop (i + 1) := by
  rw [List.drop_eq_getElem_cons h]
  simp [List.getD_eq_getElem?_getD, List.getElem?_eq_getElem h]

theorem right_loop (k : Nat) (l : List S50) (now : Int) (k0 : Int → Option Int) (hl : l.length ≤ 1000) : ∀ (n i : Nat), i ≤ l.length → i + n > l.length →
    anim_right.c9 (k + 20) n now l (l.length : Int) (i : Int) k0 = if ce (k + 20) (l.drop i) ≠ 0 then some (ce (k + 20) (l.drop i)) else k0 now
  | 0, i, h', h => by omega
  | n + 1, i, h', h => by
    rw [anim_right.c9]
    by_cases hlt : (i : Int) < (l.length : Int)
    · have hi : i < l.length := by omega
      have g : 0 ≤ (i : Int) ∧ (i : Int) < (l.length : Int) := by omega
      simp only [cond_dec hlt, cond_dec g, Int.toNat_natCast]
      have hck := ck_eq k (l.getD i S50.d)
      unfold ck at hck
      rw [hck, Option.bind_some, drop_at hi S50.d]
      simp only [ce]
      by_cases hc : ckv (k + 20) (l.getD i S50.d) = 0
      · have ih := right_loop k l now k0 hl n (i + 1) (by omega) (by omega)
        rw [show ((i + 1 : Nat) : Int) = (i : Int) + 1 by omega] at ih
        simp only [hc, ne_eq, not_true_eq_false, if_false, bne_self_eq_false, cond_false]
        rw [wrap_i64 (by omega) (by omega)]
        exact ih
      · have : (ckv (k + 20) (l.getD i S50.d) != 0) = true := by rw [bne_iff_ne]; exact hc
        simp only [this, cond_true, hc, ne_eq, not_false_eq_true, if_true]
    · rw [cond_ndec hlt, List.drop_eq_nil_of_le (by omega)]
      simp [ce]

/-- What is wrong with changes, and a time. -/
def re (K : Nat) (l : List S50) (now : Int) : Int := if l.length > 10 then 2 else if ce K l ≠ 0 then ce K l else if 0 ≤ now ∧ now ≤ 200000000000 then 0 else 1

theorem right_eq (k : Nat) (l : List S50) (now : Int) : anim_right (k + 20) l now = some (re (k + 20) l now) := by
  unfold anim_right re
  by_cases h : l.length > 10
  · rw [cond_dec (by omega), if_pos h]
  · rw [cond_ndec (by omega), if_neg h]
    have := right_loop k l now (fun y18 => (anim_in (k + 20) y18 0 200000000000).bind fun r19 => cond (!r19) (some 1) (some 0)) (by omega) (k + 20) 0 (by omega) (by omega)
    simp only [List.drop_zero] at this
    refine this.trans ?_
    split
    · rfl
    · simp only [in_eq, Option.bind_some]
      by_cases hn : 0 ≤ now ∧ now ≤ 200000000000
      · simp [hn]
      · simp [hn]

theorem re_ok {k : Nat} {l : List S50} {now : Int} (h : re (k + 20) l now = 0) : l.length ≤ 10 ∧ (∀ a ∈ l, Ok a) ∧ 0 ≤ now ∧ now ≤ 200000000000 := by
  unfold re at h
  split at h
  · cases h
  split at h
  · exact absurd h ‹_›
  · rename_i h1 h2
    split at h
    · exact ⟨by omega, ce_ok (by simpa using h2), by omega, by omega⟩
    · cases h

/-- Which frame is the last one up to a place. -/
def ix (fs : List S53) (r : Int) : Nat → Nat → Nat
  | 0, i => i
  | n + 1, i => if i + 1 < fs.length ∧ (fr fs (i + 1)).At ≤ r then ix fs r n (i + 1) else i

theorem ix_spec (fs : List S53) (r : Int) : ∀ (n i : Nat), i < fs.length → i + n ≥ fs.length → (fr fs i).At ≤ r →
    i ≤ ix fs r n i ∧ ix fs r n i < fs.length ∧ (fr fs (ix fs r n i)).At ≤ r ∧ (ix fs r n i + 1 < fs.length → r < (fr fs (ix fs r n i + 1)).At)
  | 0, i, h, hn, hr => by omega
  | n + 1, i, h, hn, hr => by
    unfold ix
    split
    · rename_i hc
      have := ix_spec fs r n (i + 1) hc.1 (by omega) hc.2
      exact ⟨by omega, this.2⟩
    · rename_i hc
      refine ⟨Nat.le_refl _, h, hr, fun h1 => ?_⟩
      rcases Int.lt_or_le r (fr fs (i + 1)).At with h2 | h2
      · exact h2
      · exact (hc ⟨h1, h2⟩).elim

theorem frames_loop (k : Nat) (r a1 a2 a3 : Int) (a4 a5 : Bool) (a6 a7 a8 a9 a10 a11 : Int) (fs : List S53) (z1 z2 : Int) (k0 : Int → Int → Int → Int → Int → Bool → Bool → Int → Int → Int → Int → Int → Int → List S53 → Int → Int → Option (Int × Int)) (hl : fs.length ≤ 1000) :
    ∀ (n i : Nat), i < fs.length → i + n ≥ fs.length → anim_frames.c5 k (n + 1) r (i : Int) a1 a2 a3 a4 a5 a6 a7 a8 a9 a10 a11 fs z1 z2 k0 = k0 r (ix fs r n i : Nat) a1 a2 a3 a4 a5 a6 a7 a8 a9 a10 a11 fs z1 z2
  | 0, i, h, hn => by omega
  | n + 1, i, h, hn => by
    rw [anim_frames.c5]
    have w : IntKind.wrap .i64 ((i : Int) + 1) = ((i + 1 : Nat) : Int) := by rw [wrap_i64 (by omega) (by omega)]; omega
    simp only [w, Int.toNat_natCast]
    unfold ix
    by_cases h1 : i + 1 < fs.length
    · have g : 0 ≤ ((i + 1 : Nat) : Int) ∧ ((i + 1 : Nat) : Int) < (fs.length : Int) := by omega
      have g' : ((i + 1 : Nat) : Int) < (fs.length : Int) := by omega
      rw [decide_eq_true g, decide_eq_true g']
      simp only [Bool.true_or, cond_true]
      by_cases h2 : (fr fs (i + 1)).At ≤ r
      · rw [if_pos ⟨h1, h2⟩]
        have h2' : (fs.getD (i + 1) S53.d).At ≤ r := h2
        rw [cond_dec h2']
        exact frames_loop k r a1 a2 a3 a4 a5 a6 a7 a8 a9 a10 a11 fs z1 z2 k0 hl n (i + 1) h1 (by omega)
      · rw [if_neg (fun h => h2 h.2)]
        have h2' : ¬ (fs.getD (i + 1) S53.d).At ≤ r := h2
        rw [cond_ndec h2']
    · have g' : ¬ ((i + 1 : Nat) : Int) < (fs.length : Int) := by omega
      rw [decide_eq_false g']
      simp [h1]

def fv (fs : List S53) (i : Nat) : Int × Int := ((fr fs i).Val_Kind, (fr fs i).Val_N)

/-- The frames' value at so many thousandths. -/
def frv (a : S50) (r : Int) : Int × Int :=
  let i := ix a.Frames r 20 0
  if i + 1 = a.Frames.length then fv a.Frames i else
    mx (fv a.Frames i).1 (fv a.Frames i).2 (fv a.Frames (i + 1)).1 (fv a.Frames (i + 1)).2
      (fe a.Ease_Kind a.Ease_Curve_0 a.Ease_Curve_1 a.Ease_Curve_2 a.Ease_Curve_3 a.Ease_N ((r - (fr a.Frames i).At) * 1000 / ((fr a.Frames (i + 1)).At - (fr a.Frames i).At)))

theorem ix_more (fs : List S53) (r : Int) : ∀ (n j i : Nat), i + n ≥ fs.length → ix fs r (n + j) i = ix fs r n i
  | 0, j, i, h => by
    cases j with
    | zero => rfl
    | succ j => unfold ix; rw [if_neg (by omega)]
  | n + 1, j, i, h => by
    rw [show n + 1 + j = n + j + 1 by omega]
    unfold ix
    split
    · exact ix_more fs r n j (i + 1) (by omega)
    · rfl

theorem frames_eq (k : Nat) {a : S50} (ha : Ok a) {r : Int} (h0 : 0 ≤ r) (h1 : r ≤ 1000) :
    anim_frames (k + 40) a.From a.Length a.Times a.Turn a.Stays a.Ease_Kind a.Ease_Curve_0 a.Ease_Curve_1 a.Ease_Curve_2 a.Ease_Curve_3 a.Ease_N a.Frames r = some (frv a r) := by
  unfold anim_frames frv
  have n2 := ha.n2
  have n10 := ha.n10
  have hl := frames_loop (k + 40) r a.From a.Length a.Times a.Turn a.Stays a.Ease_Kind a.Ease_Curve_0 a.Ease_Curve_1 a.Ease_Curve_2 a.Ease_Curve_3 a.Ease_N a.Frames 0 0
  refine (hl _ (by omega) (k + 39) 0 (by omega) (by omega)).trans ?_
  have hs := ix_spec a.Frames r 20 0 (by omega) (by omega) (by rw [ha.at0]; exact h0)
  rw [show k + 39 = 20 + (k + 19) by omega, ix_more a.Frames r 20 (k + 19) 0 (by omega)]
  generalize ix a.Frames r 20 0 = i at hs
  obtain ⟨_, s2, s3, s4⟩ := hs
  have w : IntKind.wrap .i64 ((i : Int) + 1) = ((i + 1 : Nat) : Int) := by rw [wrap_i64 (by omega) (by omega)]; omega
  have g : 0 ≤ (i : Int) ∧ (i : Int) < (a.Frames.length : Int) := by omega
  simp only [cond_dec g, w, Int.toNat_natCast]
  by_cases hi : i + 1 = a.Frames.length
  · have e : (((i + 1 : Nat) : Int) == (a.Frames.length : Int)) = true := by rw [hi]; simp
    rw [e, cond_true, if_pos hi]; rfl
  · have e : (((i + 1 : Nat) : Int) == (a.Frames.length : Int)) = false := by simp; omega
    have g2 : 0 ≤ ((i + 1 : Nat) : Int) ∧ ((i + 1 : Nat) : Int) < (a.Frames.length : Int) := by omega
    rw [e, cond_false, if_neg hi, cond_dec g2]
    have hr := ha.rise i (by omega)
    have s4 := s4 (by omega)
    have at_rng : ∀ j, j < a.Frames.length → 0 ≤ (fr a.Frames j).At ∧ (fr a.Frames j).At ≤ 1000 := by
      have up : ∀ j, j < a.Frames.length → 0 ≤ (fr a.Frames j).At := by
        intro j
        induction j with
        | zero => intro _; rw [ha.at0]; omega
        | succ j ih => intro hj; have := ih (by omega); have := ha.rise j hj; omega
      have dn : ∀ d j, j + d = a.Frames.length - 1 → (fr a.Frames j).At ≤ 1000 := by
        intro d
        induction d with
        | zero => intro j hj; rw [show j = a.Frames.length - 1 by omega, ha.atn]; omega
        | succ d ih => intro j hj; have := ih (j + 1) (by omega); have := ha.rise j (by omega); omega
      exact fun j hj => ⟨up j hj, dn (a.Frames.length - 1 - j) j (by omega)⟩
    have q1 := at_rng i (by omega)
    have q2 := at_rng (i + 1) (by omega)
    have f1 : (a.Frames.getD i S53.d) = fr a.Frames i := rfl
    have f2 : (a.Frames.getD (i + 1) S53.d) = fr a.Frames (i + 1) := rfl
    rw [f1, f2]
    simp only [fv]
    generalize (fr a.Frames i).At = A at *
    generalize (fr a.Frames (i + 1)).At = B at *
    have hd : 0 < B - A := by omega
    have hm : 0 ≤ (r - A) * 1000 ∧ (r - A) * 1000 ≤ 1000000 := by omega
    have ht : 0 ≤ (r - A) * 1000 / (B - A) ∧ (r - A) * 1000 / (B - A) ≤ 1000 := by
      refine ⟨Int.ediv_nonneg hm.1 (by omega), ?_⟩
      have : (r - A) * 1000 ≤ 1000 * (B - A) := by omega
      have := Int.ediv_le_ediv hd this
      rwa [Int.mul_ediv_cancel _ (by omega)] at this
    rw [wrap_i64 (n := r - A) (by omega) (by omega), wrap_i64 (n := (r - A) * 1000) (by omega) (by omega), wrap_i64 (n := B - A) (by omega) (by omega), Int.tdiv_eq_ediv_of_nonneg hm.1, wrap_i64 (n := (r - A) * 1000 / (B - A)) (by omega) (by omega)]
    have hne : (B - A != 0) = true := by simp; omega
    rw [hne, cond_true]
    rw [show k + 40 = (k + 20) + 20 by omega, eased_eq (k + 20) ha.ease ht.1 ht.2, Option.bind_some, Mix_eq, Option.bind_some]
end
end Go.Ev.An
