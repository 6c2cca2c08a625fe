/- A part of the evaluator of Go code over small heaps and of its proof: no condition beyond those that each theorem names. -/
import Derived.Test.YtafbhggbkhckaaaEvAnC
set_option linter.unusedVariables false
namespace Go.Ev.An
noncomputable section
open Go.Proofs

/-- What a right change does at a time. -/
def tl (a : S50) (now : Int) : Int × Int × Bool :=
  if now < a.From then (0, 0, false)
  else if now ≥ a.From + a.Times * a.Length then
    (if a.Turn = true ∧ a.Times % 2 = 0 then ((fv a.Frames 0).1, (fv a.Frames 0).2, a.Stays) else ((fv a.Frames (a.Frames.length - 1)).1, (fv a.Frames (a.Frames.length - 1)).2, a.Stays))
  else if a.Turn = true ∧ (now - a.From) / a.Length % 2 = 1 then ((frv a (1000 - (now - a.From) % a.Length * 1000 / a.Length)).1, (frv a (1000 - (now - a.From) % a.Length * 1000 / a.Length)).2, true)
  else ((frv a ((now - a.From) % a.Length * 1000 / a.Length)).1, (frv a ((now - a.From) % a.Length * 1000 / a.Length)).2, true)

theorem r_rng {L x : Int} (hL : 1 ≤ L) : 0 ≤ x % L * 1000 / L ∧ x % L * 1000 / L ≤ 1000 := by
  have h0 := Int.emod_nonneg x (show L ≠ 0 by omega)
  have h1 := Int.emod_lt_of_pos x (show 0 < L by omega)
  refine ⟨Int.ediv_nonneg (by omega) (by omega), ?_⟩
  have : x % L * 1000 ≤ 1000 * L := by omega
  have := Int.ediv_le_ediv (show 0 < L by omega) this
  rwa [Int.mul_ediv_cancel _ (by omega)] at this

theorem tells_eq (k : Nat) {a : S50} (ha : Ok a) {now : Int} (h0 : 0 ≤ now) (h1 : now ≤ 200000000000) :
    anim_tells (k + 40) a.From a.Length a.Times a.Turn a.Stays a.Ease_Kind a.Ease_Curve_0 a.Ease_Curve_1 a.Ease_Curve_2 a.Ease_Curve_3 a.Ease_N a.Frames now = some (tl a now) := by
  have hf := fun r h0 h1 => frames_eq k ha (r := r) h0 h1
  obtain ⟨f1, f2⟩ := ha.frm
  obtain ⟨l1, l2⟩ := ha.len
  obtain ⟨t1, t2⟩ := ha.tms
  have n2 := ha.n2
  have n10 := ha.n10
  have hp := mul_bd (x := a.Times) (X := 1000) (y := a.Length) (Y := 100000000) (by omega) t2 (by omega) l2
  unfold anim_tells tl anim_end
  by_cases c1 : now < a.From
  · rw [cond_dec c1, if_pos c1]
  rw [cond_ndec c1, if_neg c1]
  simp only [Option.bind_some]
  rw [wrap_i64 (n := a.Times * a.Length) (by omega) (by omega), wrap_i64 (n := a.From + a.Times * a.Length) (by omega) (by omega)]
  by_cases c2 : now ≥ a.From + a.Times * a.Length
  · rw [cond_dec c2, if_pos c2, wrap_i64 (n := (a.Frames.length : Int) - 1) (by omega) (by omega)]
    have g1 : 0 ≤ (a.Frames.length : Int) - 1 ∧ (a.Frames.length : Int) - 1 < (a.Frames.length : Int) := by omega
    have g0 : 0 ≤ (0 : Int) ∧ (0 : Int) < (a.Frames.length : Int) := by omega
    have g2 : ((a.Frames.length : Int) - 1).toNat = a.Frames.length - 1 := by omega
    have g3 : ((2 : Int) != 0) = true := rfl
    have g4 : (0 : Int).toNat = 0 := rfl
    have g5 : Int.tmod a.Times 2 = a.Times % 2 := tmod_u 2 (by omega)
    simp only [cond_dec g1, cond_dec g0, g2, g3, g4, g5, Bool.true_or, cond_true, anim_tells.c14]
    by_cases c3 : a.Turn = true ∧ a.Times % 2 = 0
    · have : (cond a.Turn (a.Times % 2 == 0) false) = true := by rw [c3.1, cond_true, c3.2]; rfl
      rw [this, cond_true, if_pos c3]; rfl
    · have : (cond a.Turn (a.Times % 2 == 0) false) = false := by
        cases h : a.Turn with
        | false => rfl
        | true => rw [cond_true]; simp only [h, true_and] at c3; simpa using c3
      rw [this, cond_false, if_neg c3]; rfl
  · rw [cond_ndec c2, if_neg c2]
    have g0 : (a.Length != 0) = true := by simp; omega
    have g3 : ((2 : Int) != 0) = true := rfl
    have hs : 0 ≤ now - a.From := by omega
    have hd : 0 ≤ (now - a.From) / a.Length := Int.ediv_nonneg hs (by omega)
    have hd2 : (now - a.From) / a.Length ≤ now - a.From := Int.ediv_le_self _ hs
    have hm0 := Int.emod_nonneg (now - a.From) (show a.Length ≠ 0 by omega)
    have hm1 := Int.emod_lt_of_pos (now - a.From) (show 0 < a.Length by omega)
    have hr := r_rng (x := now - a.From) l1
    simp only [g0, g3, Bool.true_or, cond_true]
    rw [wrap_i64 (n := now - a.From) (by omega) (by omega), tmod_u a.Length hs, tdiv_u a.Length hs, wrap_i64 (n := (now - a.From) % a.Length * 1000) (by omega) (by omega), tdiv_u a.Length (n := (now - a.From) % a.Length * 1000) (by omega),
      wrap_i64 (n := (now - a.From) % a.Length * 1000 / a.Length) (by omega) (by omega), wrap_i64 (n := (now - a.From) / a.Length) (by omega) (by omega), tmod_u 2 hd]
    rw [wrap_i64 (n := 1000 - (now - a.From) % a.Length * 1000 / a.Length) (by omega) (by omega)]
    simp only [anim_tells.c24]
    rw [hf _ (by omega) (by omega), hf _ hr.1 hr.2]
    by_cases c3 : a.Turn = true ∧ (now - a.From) / a.Length % 2 = 1
    · have : (cond a.Turn ((now - a.From) / a.Length % 2 == 1) false) = true := by rw [c3.1, cond_true, c3.2]; rfl
      rw [this, cond_true, if_pos c3]; rfl
    · have : (cond a.Turn ((now - a.From) / a.Length % 2 == 1) false) = false := by
        cases h : a.Turn with
        | false => rfl
        | true => rw [cond_true]; simp only [h, true_and] at c3; simpa using c3
      rw [this, cond_false, if_neg c3]; rfl

/-- The value behind all of them. -/
def fold (now : Int) : List S50 → Int × Int → Int × Int
  | [], b => b
  | a :: l, b => fold now l (if (tl a now).2.2 = true then ((tl a now).1, (tl a now).2.1) else b)

theorem at_loop (k : Nat) (l : List S50) (now x12 x13 : Int) (k0 : Int → Int → Int → Int → Option (Int × Int × Int)) (hl : l.length ≤ 1000) (ha : ∀ a ∈ l, Ok a) (h0 : 0 ≤ now) (h1 : now ≤ 200000000000) :
    ∀ (n i : Nat) (b1 b2 : Int), i ≤ l.length → i + n > l.length → anim_At.c11 (k + 40) n now l (l.length : Int) (i : Int) b1 b2 x12 x13 k0 = k0 (fold now (l.drop i) (b1, b2)).1 (fold now (l.drop i) (b1, b2)).2 x12 x13
  | 0, i, b1, b2, h', h => by omega
  | n + 1, i, b1, b2, h', h => by
    rw [anim_At.c11]
    by_cases hlt : (i : Int) < (l.length : Int)
    · have hi : i < l.length := by omega
      have g : 0 ≤ (i : Int) ∧ (i : Int) < (l.length : Int) := by omega
      simp only [cond_dec hlt, cond_dec g, Int.toNat_natCast]
      have hm : l.getD i S50.d ∈ l := by simp [List.getD_eq_getElem?_getD, List.getElem?_eq_getElem hi]
      rw [tells_eq k (ha _ hm) h0 h1, Option.bind_some, drop_at hi S50.d, wrap_i64 (by omega) (by omega)]
      simp only [fold]
      have ih := fun c1 c2 => at_loop k l now x12 x13 k0 hl ha h0 h1 n (i + 1) c1 c2 (by omega) (by omega)
      simp only [show ((i + 1 : Nat) : Int) = (i : Int) + 1 by omega] at ih
      cases hb : (tl (l.getD i S50.d) now).2.2 with
      | true => simp only [cond_true, if_true]; exact ih _ _
      | false => simp only [cond_false, Bool.false_eq_true, if_false]; exact ih _ _
    · rw [cond_ndec hlt, List.drop_eq_nil_of_le (by omega)]; rfl

def atv (K : Nat) (l : List S50) (b1 b2 now : Int) : Int × Int × Int := if re K l now ≠ 0 then (0, 0, re K l now) else ((fold now l (b1, b2)).1, (fold now l (b1, b2)).2, 0)

theorem At_eq (k : Nat) (l : List S50) (b1 b2 now : Int) : anim_At (k + 40) l b1 b2 now = some (atv (k + 40) l b1 b2 now) := by
  unfold anim_At atv
  rw [show k + 40 = (k + 20) + 20 by omega, right_eq (k + 20), Option.bind_some]
  by_cases h : re (k + 20 + 20) l now = 0
  · have hr := re_ok h
    have : (re (k + 20 + 20) l now != 0) = false := by simpa using h
    rw [this, cond_false, if_neg (by simpa using h)]
    have := at_loop k l now 0 0 (fun (y25 : Int) (y26 : Int) (y27 : Int) (y28 : Int) => some (y25, y26, (0 : Int))) (by omega) hr.2.1 hr.2.2.1 hr.2.2.2 (k + 40) 0 b1 b2 (by omega) (by omega)
    exact this
  · have : (re (k + 20 + 20) l now != 0) = true := by simpa using h
    rw [this, cond_true, if_pos h]

/-- A change so much later. -/
def mv (by_ : Int) (a : S50) : S50 := ⟨IntKind.wrap .i64 (a.From + by_), a.Length, a.Times, a.Turn, a.Stays, a.Ease_Kind, a.Ease_Curve_0, a.Ease_Curve_1, a.Ease_Curve_2, a.Ease_Curve_3, a.Ease_N, a.Frames⟩

theorem moved_loop (k : Nat) (l : List S50) (by_ : Int) (k0 : List S50 → Option (List S50)) (hl : l.length ≤ 1000) : ∀ (n i : Nat) (acc : List S50), i ≤ l.length → i + n > l.length → acc.length ≤ i →
    clerestorykeep2_moved.c7 k n l by_ (i : Int) acc k0 = k0 (acc ++ (l.drop i).map (mv by_))
  | 0, i, acc, h', h, ha => by omega
  | n + 1, i, acc, h', h, ha => by
    rw [clerestorykeep2_moved.c7]
    by_cases hlt : (i : Int) < (l.length : Int)
    · have hi : i < l.length := by omega
      have g : 0 ≤ (i : Int) ∧ (i : Int) < (l.length : Int) := by omega
      simp only [cond_dec hlt, cond_dec g, Int.toNat_natCast]
      have hm : ∀ x : S50, (acc ++ [x]).length < most := fun x => by simp [most]; omega
      rw [cond_dec (hm _), wrap_i64 (n := (i : Int) + 1) (by omega) (by omega)]
      have ih := moved_loop k l by_ k0 hl n (i + 1) (acc ++ [mv by_ (l.getD i S50.d)]) (by omega) (by omega) (by simp; omega)
      rw [show ((i + 1 : Nat) : Int) = (i : Int) + 1 by omega] at ih
      rw [drop_at hi S50.d, List.map_cons]
      refine ih.trans ?_
      rw [List.append_assoc]; rfl
    · have : ¬ (decide ((i : Int) < (l.length : Int)) = true) := by simpa using hlt
      simp only [cond_ndec hlt]
      rw [List.drop_eq_nil_of_le (by omega)]; simp

theorem moved_eq (k : Nat) (l : List S50) (by_ : Int) (hl : l.length ≤ 10) : clerestorykeep2_moved (k + 40) l by_ = some (l.map (mv by_)) := by
  unfold clerestorykeep2_moved
  exact moved_loop (k + 40) l by_ _ (by omega) (k + 40) 0 [] (by omega) (by omega) (by simp)

theorem tl_mv {a : S50} (ha : Ok a) {by_ now : Int} (h0 : 0 ≤ by_) (h1 : by_ < 100000) : tl (mv by_ a) (now + by_) = tl a now := by
  have hw : IntKind.wrap .i64 (a.From + by_) = a.From + by_ := wrap_i64 (by have := ha.frm; omega) (by have := ha.frm; omega)
  have hfrv : ∀ r, frv (mv by_ a) r = frv a r := fun r => rfl
  unfold tl
  simp only [hfrv]
  simp only [mv, hw]
  have e1 : (now + by_ < a.From + by_) ↔ (now < a.From) := by omega
  have e2 : (now + by_ ≥ a.From + by_ + a.Times * a.Length) ↔ (now ≥ a.From + a.Times * a.Length) := by omega
  have e3 : now + by_ - (a.From + by_) = now - a.From := by omega
  simp only [e1, e2, e3]

theorem fold_mv {by_ now : Int} (h0 : 0 ≤ by_) (h1 : by_ < 100000) : ∀ (l : List S50) (b : Int × Int), (∀ a ∈ l, Ok a) → fold (now + by_) (l.map (mv by_)) b = fold now l b
  | [], b, _ => rfl
  | a :: l, b, h => by
    simp only [List.map_cons, fold]
    rw [tl_mv (h a (by simp)) h0 h1, fold_mv h0 h1 l _ fun x hx => h x (by simp [hx])]

theorem moved_law (l : List S50) (b1 b2 now by_ : Int) : ∃ k, clerestorykeep2_AnimMoved k l b1 b2 now by_ = some true := by
  refine ⟨40, ?_⟩
  unfold clerestorykeep2_AnimMoved
  rw [stepped_eq 20]
  have e := fun l b1 b2 now => At_eq 0 l b1 b2 now
  simp only [Nat.zero_add] at e
  have hm : 0 ≤ Int.tmod (IntKind.wrap .u64 by_) 100000 ∧ Int.tmod (IntKind.wrap .u64 by_) 100000 < 100000 := by
    rw [wrap_u64, tmod_u _ (by omega)]; omega
  generalize Int.tmod (IntKind.wrap .u64 by_) 100000 = m at hm
  simp only [e, Option.bind_some]
  rw [wrap_i64 (n := m) (by omega) (by omega)]
  unfold atv
  by_cases h : re 40 l now = 0
  · have hr := re_ok (k := 20) h
    have hw : IntKind.wrap .i64 (now + m) = now + m := wrap_i64 (by omega) (by omega)
    have hmv := moved_eq 0 l m hr.1
    rw [Nat.zero_add] at hmv
    simp only [h, ne_eq, not_true_eq_false, if_false, bne_self_eq_false, cond_false, hmv, Option.bind_some, hw]
    by_cases h2 : re 40 (l.map (mv m)) (now + m) = 0
    · simp only [h2, not_true_eq_false, if_false, bne_self_eq_false, cond_false]
      rw [fold_mv hm.1 hm.2 l (b1, b2) hr.2.1]
      simp
    · have : (re 40 (l.map (mv m)) (now + m) != 0) = true := by simpa using h2
      simp [h2]
  · have : (re 40 l now != 0) = true := by simpa using h
    simp [h, this]

theorem ce_one (K : Nat) (a : S50) : ce K [a] = ckv K a := by
  simp only [ce]; split
  · rfl
  · rename_i h; exact (Decidable.not_not.1 h).symm

theorem turned_law (a1 a2 a3 : Int) (a4 a5 : Bool) (a6 a7 a8 a9 a10 a11 : Int) (a12 : List S53) (a13 a14 : Int) : ∃ k, clerestorykeep2_AnimTurned k a1 a2 a3 a4 a5 a6 a7 a8 a9 a10 a11 a12 a13 a14 = some true := by
  refine ⟨40, ?_⟩
  unfold clerestorykeep2_AnimTurned
  rw [stepped_eq 20]
  have e := fun l b1 b2 now => At_eq 0 l b1 b2 now
  simp only [Nat.zero_add] at e
  have hm : 0 ≤ Int.tmod (IntKind.wrap .u64 a13) 1000 ∧ Int.tmod (IntKind.wrap .u64 a13) 1000 < 1000 := by
    rw [wrap_u64, tmod_u _ (by omega)]; omega
  have hq : 0 ≤ Int.tmod (IntKind.wrap .u64 a14) 999 ∧ Int.tmod (IntKind.wrap .u64 a14) 999 < 999 := by
    rw [wrap_u64, tmod_u _ (by omega)]; omega
  generalize Int.tmod (IntKind.wrap .u64 a13) 1000 = m at hm
  generalize Int.tmod (IntKind.wrap .u64 a14) 999 = q at hq
  simp only [e, Option.bind_some]
  rw [wrap_i64 (n := m) (by omega) (by omega), wrap_i64 (n := q) (by omega) (by omega), wrap_i64 (n := 1 + m) (by omega) (by omega), wrap_i64 (n := 1 + q) (by omega) (by omega), wrap_i64 (n := 1000 * (1 + m)) (by omega) (by omega)]
  have hx := mul_bd (x := 1 + m) (X := 1000) (y := 1 + q) (Y := 999) (by omega) (by omega) (by omega) (by omega)
  rw [wrap_i64 (n := (1 + m) * (1 + q)) (by omega) (by omega), wrap_i64 (n := 2 * (1000 * (1 + m))) (by omega) (by omega)]
  generalize hM : 1 + m = M at hx
  generalize hQ : 1 + q = Q at hx
  generalize hA : (⟨a1, 1000 * M, 2, true, a5, a6, a7, a8, a9, a10, a11, a12⟩ : S50) = A
  generalize ht1 : IntKind.wrap .i64 (a1 + M * Q) = t1
  generalize ht2 : IntKind.wrap .i64 (IntKind.wrap .i64 (a1 + 2 * (1000 * M)) - M * Q) = t2
  unfold atv
  by_cases hc : ckv 40 A = 0
  · have hA' := ck_ok (k := 20) hc
    have f : A.From = a1 := by rw [← hA]
    have fL : A.Length = 1000 * M := by rw [← hA]
    have fT : A.Times = 2 := by rw [← hA]
    have fU : A.Turn = true := by rw [← hA]
    have hf := hA'.frm
    rw [f] at hf
    have hMQ : M * Q ≤ 1000 * M - M := by
      have := Int.mul_le_mul_of_nonneg_left (show Q ≤ 999 by omega) (show 0 ≤ M by omega); omega
    have hMQ1 : M ≤ M * Q := by
      have := Int.mul_le_mul_of_nonneg_left (show 1 ≤ Q by omega) (show 0 ≤ M by omega); omega
    rw [wrap_i64 (n := a1 + M * Q) (by omega) (by omega)] at ht1
    rw [wrap_i64 (n := a1 + 2 * (1000 * M)) (by omega) (by omega), wrap_i64 (by omega) (by omega)] at ht2
    have r1 : re 40 [A] t1 = 0 := by unfold re; rw [ce_one, if_neg (by simp), if_neg (by simpa using hc), if_pos (by omega)]
    have r2 : re 40 [A] t2 = 0 := by unfold re; rw [ce_one, if_neg (by simp), if_neg (by simpa using hc), if_pos (by omega)]
    have s1 : t1 - a1 = M * Q := by omega
    have s2 : t2 - a1 = 1000 * M + (1000 * M - M * Q) := by omega
    have d1 : (t1 - a1) / (1000 * M) = 0 := by rw [s1]; exact Int.ediv_eq_zero_of_lt (by omega) (by omega)
    have m1 : (t1 - a1) % (1000 * M) = M * Q := by rw [s1]; exact Int.emod_eq_of_lt (by omega) (by omega)
    have d2 : (t2 - a1) / (1000 * M) = 1 := by
      rw [s2, Int.add_ediv_of_dvd_left (Int.dvd_refl _), Int.ediv_self (by omega), Int.ediv_eq_zero_of_lt (by omega) (by omega)]; rfl
    have m2 : (t2 - a1) % (1000 * M) = 1000 * M - M * Q := by
      rw [s2, Int.add_emod, Int.emod_self, Int.zero_add, Int.emod_emod_of_dvd _ (Int.dvd_refl _)]; exact Int.emod_eq_of_lt (by omega) (by omega)
    have q1 : M * Q * 1000 / (1000 * M) = Q := by
      rw [show M * Q * 1000 = Q * (1000 * M) by rw [Int.mul_comm M Q, Int.mul_assoc, Int.mul_comm M 1000]]
      exact Int.mul_ediv_cancel _ (by omega)
    have q2 : (1000 * M - M * Q) * 1000 / (1000 * M) = 1000 - Q := by
      rw [show (1000 * M - M * Q) * 1000 = (1000 - Q) * (1000 * M) by
        rw [Int.sub_mul, Int.sub_mul, Int.mul_comm M Q, Int.mul_assoc Q M 1000, Int.mul_comm M 1000, Int.mul_assoc 1000 M 1000, Int.mul_comm M 1000]]
      exact Int.mul_ediv_cancel _ (by omega)
    have u1 : tl A t1 = ((frv A Q).1, (frv A Q).2, true) := by
      unfold tl
      rw [f, fL, fT, fU, if_neg (by omega), if_neg (by omega), d1, m1, q1, if_neg (by simp)]
    have u2 : tl A t2 = ((frv A Q).1, (frv A Q).2, true) := by
      unfold tl
      rw [f, fL, fT, fU, if_neg (by omega), if_neg (by omega), d2, m2, q2, if_pos ⟨rfl, rfl⟩, show 1000 - (1000 - Q) = Q by omega]
    simp [r1, r2, fold, u1, u2]
  · have r : ∀ t, re 40 [A] t = ckv 40 A := fun t => by unfold re; rw [ce_one, if_neg (by simp), if_pos hc]
    simp only [r]
    have : (ckv 40 A != 0) = true := by simpa using hc
    simp [hc]
end
end Go.Ev.An
