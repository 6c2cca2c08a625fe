/- A number with a unit is one token, which says it: in plain words, no Go in sight; no condition beyond those that each theorem names. -/
import Derived.Test.YtdnnaneifaoooaaDoorEvTkP
import Derived.Lib.ItoaNum
import Derived.Lib.SlTrimSet
set_option linter.unusedVariables false
set_option linter.unusedSimpArgs false
namespace Go.Ev.Tok

theorem cnt_here (p : UInt8 → Bool) : ∀ (W r : List UInt8), (∀ c ∈ W, p c = true) → (∀ c, r.head? = some c → p c = false) → cnt p (W ++ r) = W.length
  | [], [], _, _ => rfl
  | [], c :: r, _, h => by
    unfold cnt
    rw [List.nil_append, List.takeWhile_cons, h c rfl]; rfl
  | c :: W, r, hW, h => by
    have ih := cnt_here p W r (fun d hd => hW d (by simp [hd])) h
    unfold cnt at ih ⊢
    rw [List.cons_append, List.takeWhile_cons, hW c (by simp)]
    simp only [if_true, List.length_cons, ih]

theorem dec_dig (u : Nat) : ∀ c ∈ Lib.decDigits u, isDig c = true := by
  induction u using Nat.strongRecOn with
  | _ u ih =>
    intro c hc
    have one : ∀ d, d < 10 → isDig (UInt8.ofNat (48 + d)) = true := by decide +kernel
    rw [Lib.decDigits] at hc
    by_cases h : u < 10
    · rw [dif_pos h] at hc
      have : c = UInt8.ofNat (48 + u) := by simpa using hc
      subst this; exact one u h
    · rw [dif_neg h, List.mem_append] at hc
      rcases hc with hc | hc
      · exact ih (u / 10) (by omega) c hc
      · have : c = UInt8.ofNat (48 + u % 10) := by simpa using hc
        subst this; exact one (u % 10) (Nat.mod_lt _ (by decide))

theorem dec_ne (u : Nat) : Lib.decDigits u ≠ [] := by
  rw [Lib.decDigits]
  by_cases h : u < 10
  · rw [dif_pos h]; simp
  · rw [dif_neg h]; simp

theorem addD_ok {n : Int} {d : Nat} (h0 : 0 ≤ n) (hd : d < 10) (h1 : 10 * n + d ≤ 1000000000) : addD n (UInt8.ofNat (48 + d)) = 10 * n + d := by
  unfold addD
  have : ((UInt8.ofNat (48 + d)).toNat : Int) = 48 + d := by rw [UInt8.toNat_ofNat']; omega
  rw [this]
  have e : ((48 + (d : Int)) - 48) % 256 = d := by omega
  rw [e, if_neg (by omega)]

theorem dec_fold (u : Nat) : u ≤ 1000000000 → (Lib.decDigits u).foldl addD 0 = (u : Int) := by
  induction u using Nat.strongRecOn with
  | _ u ih =>
    intro hu
    rw [Lib.decDigits]
    by_cases h : u < 10
    · rw [dif_pos h]
      simp only [List.foldl_cons, List.foldl_nil]
      rw [addD_ok (by omega) h (by omega)]; omega
    · rw [dif_neg h, List.foldl_append, ih (u / 10) (by omega) (by omega)]
      simp only [List.foldl_cons, List.foldl_nil]
      rw [addD_ok (by omega) (Nat.mod_lt _ (by decide)) (by omega)]; omega

/-- Three digits. -/
def d3 (r : Nat) : List UInt8 := [UInt8.ofNat (48 + r / 100), UInt8.ofNat (48 + r / 10 % 10), UInt8.ofNat (48 + r % 10)]

theorem dec4 (r : Nat) (h : r < 1000) : Lib.decDigits (1000 + r) = 49 :: d3 r := by
  rw [Lib.decDigits, dif_neg (by omega), Lib.decDigits, dif_neg (by omega), Lib.decDigits, dif_neg (by omega), Lib.decDigits, dif_pos (by omega)]
  unfold d3
  have e1 : (1000 + r) / 10 / 10 / 10 = 1 := by omega
  have e2 : (1000 + r) / 10 / 10 % 10 = r / 100 := by omega
  have e3 : (1000 + r) / 10 % 10 = r / 10 % 10 := by omega
  have e4 : (1000 + r) % 10 = r % 10 := by omega
  rw [e1, e2, e3, e4]
  rfl

def fr (r : Nat) : List UInt8 := Lib.trimRightS (d3 r) [48]

def frOk (r : Nat) : Bool := (fr r).all isDig && Nat.ble (fr r).length 3 && ((fr r).getD 0 48 == UInt8.ofNat (48 + r / 100)) && ((fr r).getD 1 48 == UInt8.ofNat (48 + r / 10 % 10)) && ((fr r).getD 2 48 == UInt8.ofNat (48 + r % 10)) && ((fr r).isEmpty == r.beq 0)

theorem fr_all : ((List.range 1000).all frOk) = true := by decide +kernel

theorem fr_ok (r : Nat) (h : r < 1000) : (∀ c ∈ fr r, isDig c = true) ∧ (fr r).length ≤ 3 ∧ (fr r).getD 0 48 = UInt8.ofNat (48 + r / 100) ∧ (fr r).getD 1 48 = UInt8.ofNat (48 + r / 10 % 10) ∧ (fr r).getD 2 48 = UInt8.ofNat (48 + r % 10) := by
  have := List.all_eq_true.1 fr_all r (List.mem_range.2 h)
  unfold frOk at this
  simp only [Bool.and_eq_true, beq_iff_eq, Nat.ble_eq, List.all_eq_true] at this
  exact ⟨this.1.1.1.1.1, this.1.1.1.1.2, this.1.1.1.2, this.1.1.2, this.1.2⟩

/-- What stands behind the whole part. -/
def frT (r : Nat) : List UInt8 := if fr r = [] then [] else 46 :: fr r

/-- A number's text without its unit; neg: is it below 0? -/
def numS (neg : Bool) (m : Nat) : List UInt8 := (bif neg then [45] else []) ++ Lib.decDigits (m / 1000) ++ frT (m % 1000)

def units : List (List UInt8) := [[], [112, 120], [101, 109], [114, 101, 109], [118, 119], [118, 104], [37]]

/-- What may stand behind a number so that it ends there. -/
def Ends (u : List UInt8) : Prop := ∀ c, u.head? = some c → isDig c = false ∧ c ≠ 46

theorem dec_hd (u : Nat) (c : UInt8) (r t : List UInt8) (h : Lib.decDigits u ++ t = c :: r) : isDig c = true := by
  cases hd : Lib.decDigits u with
  | nil => exact absurd hd (dec_ne u)
  | cons a l =>
    rw [hd] at h
    have : a = c := by simpa using congrArg List.head? h
    subst this
    exact dec_dig u a (by rw [hd]; simp)

theorem dig_facts {c : UInt8} (h : isDig c = true) : (c == 43) = false ∧ (c == 45) = false ∧ (c == 46) = false := by
  have h2 : ∀ n : Fin 256, isDig (UInt8.ofNat n.val) = true → (((UInt8.ofNat n.val) == 43) = false ∧ ((UInt8.ofNat n.val) == 45) = false ∧ ((UInt8.ofNat n.val) == 46) = false) := by decide +kernel
  have := h2 ⟨c.toNat, c.toNat_lt⟩
  simp only [UInt8.ofNat_toNat] at this
  exact this h

theorem sgn_numS (neg : Bool) (m : Nat) (u : List UInt8) : sgn (numS neg m ++ u) = if neg then 1 else 0 := by
  unfold numS
  cases neg with
  | true => rfl
  | false =>
    simp only [cond_false, List.nil_append, List.append_assoc]
    cases hd : Lib.decDigits (m / 1000) ++ (frT (m % 1000) ++ u) with
    | nil =>
      have := dec_ne (m / 1000)
      simp at hd; exact absurd hd.1 this
    | cons a l =>
      have := dig_facts (dec_hd _ _ _ _ hd)
      rw [sgn_cons, this.1, this.2.1]; rfl

theorem numS_drop (neg : Bool) (m : Nat) (u : List UInt8) : (numS neg m ++ u).drop (sgn (numS neg m ++ u)) = Lib.decDigits (m / 1000) ++ (frT (m % 1000) ++ u) := by
  rw [sgn_numS]
  unfold numS
  cases neg <;> simp

theorem frT_hd (r : Nat) (u : List UInt8) (hu : Ends u) (c : UInt8) (h : (frT r ++ u).head? = some c) : isDig c = false := by
  unfold frT at h
  split at h
  · exact (hu c h).1
  · simp at h; subst h; rfl

theorem whl_numS (neg : Bool) (m : Nat) (u : List UInt8) (hu : Ends u) : whl (numS neg m ++ u) = (Lib.decDigits (m / 1000)).length := by
  unfold whl
  rw [numS_drop]
  exact cnt_here isDig _ _ (dec_dig _) (frT_hd _ u hu)

theorem bhd_numS (neg : Bool) (m : Nat) (u : List UInt8) (hu : Ends u) : bhd (numS neg m ++ u) = (fr (m % 1000)).length := by
  unfold bhd
  rw [← List.drop_drop, numS_drop, whl_numS neg m u hu, List.drop_left]
  have hf := fr_ok (m % 1000) (Nat.mod_lt _ (by decide))
  unfold frT
  by_cases h : fr (m % 1000) = []
  · rw [if_pos h, h, List.nil_append]
    cases u with
    | nil => rfl
    | cons c r =>
      rw [frc_cons]
      have : (c == 46) = false := by
        have := (hu c rfl).2
        simpa using this
      rw [this]; rfl
  · rw [if_neg h, List.cons_append, frc_cons]
    show cnt isDig (fr (m % 1000) ++ u) = _
    exact cnt_here isDig _ _ hf.1 (fun c hc => (hu c hc).1)

theorem numS_len (neg : Bool) (m : Nat) : (numS neg m).length = (if neg then 1 else 0) + (Lib.decDigits (m / 1000)).length + (if (fr (m % 1000)).length = 0 then 0 else 1 + (fr (m % 1000)).length) := by
  unfold numS frT
  have e : (fr (m % 1000) = []) ↔ ((fr (m % 1000)).length = 0) := List.length_eq_zero_iff.symm
  by_cases h : fr (m % 1000) = []
  · rw [if_pos h, if_pos (e.1 h)]
    cases neg <;> simp <;> omega
  · rw [if_neg h, if_neg (fun h2 => h (e.2 h2))]
    cases neg <;> simp <;> omega

theorem nlen_numS (neg : Bool) (m : Nat) (u : List UInt8) (hu : Ends u) : nlen (numS neg m ++ u) = (numS neg m).length := by
  have hd := List.length_pos_iff.2 (dec_ne (m / 1000))
  unfold nlen
  rw [sgn_numS, whl_numS neg m u hu, bhd_numS neg m u hu, if_neg (by omega), numS_len]

theorem nabs_numS (neg : Bool) (m : Nat) (u : List UInt8) (hu : Ends u) (hm : m ≤ 1000000000) : nabs (numS neg m ++ u) = m := by
  unfold nabs
  have hf := fr_ok (m % 1000) (Nat.mod_lt _ (by decide))
  have hfp : fpart (numS neg m ++ u) = fr (m % 1000) := by
    unfold fpart
    rw [bhd_numS neg m u hu, ← List.drop_drop, ← List.drop_drop, numS_drop, whl_numS neg m u hu, List.drop_left]
    by_cases h : fr (m % 1000) = []
    · rw [h]; rfl
    · have : (fr (m % 1000)).length ≠ 0 := fun h2 => h (List.length_eq_zero_iff.1 h2)
      rw [if_neg this]
      unfold frT
      rw [if_neg h, List.cons_append, List.drop_succ_cons, List.drop_zero, List.take_left' rfl]
  rw [hfp, numS_drop, whl_numS neg m u hu, List.take_left' rfl, dec_fold _ (by omega), hf.2.2.1, hf.2.2.2.1, hf.2.2.2.2]
  rw [addD_ok (n := ((m / 1000 : Nat) : Int)) (d := m % 1000 / 100) (by omega) (by omega) (by omega)]
  rw [addD_ok (d := m % 1000 / 10 % 10) (by omega) (by omega) (by omega)]
  rw [addD_ok (d := m % 1000 % 10) (by omega) (by omega) (by omega)]
  omega

theorem nval_numS (neg : Bool) (m : Nat) (u : List UInt8) (hu : Ends u) (hm : m ≤ 1000000000) : nval (numS neg m ++ u) = if neg then -(m : Int) else m := by
  have hd := List.length_pos_iff.2 (dec_ne (m / 1000))
  unfold nval
  rw [whl_numS neg m u hu, bhd_numS neg m u hu, if_neg (by omega), nabs_numS neg m u hu hm]
  cases neg with
  | true => rfl
  | false =>
    have : (numS false m ++ u).getD 0 0 ≠ 45 := by
      unfold numS
      simp only [cond_false, List.nil_append, List.append_assoc]
      cases hd2 : Lib.decDigits (m / 1000) ++ (frT (m % 1000) ++ u) with
      | nil =>
        have := dec_ne (m / 1000)
        simp at hd2; exact absurd hd2.1 this
      | cons a l =>
        have := (dig_facts (dec_hd _ _ _ _ hd2)).2.1
        simpa using this
    rw [if_neg this]
    rfl

/-- A word that may be a unit: letters that stand for themselves. -/
def unitOk (u : List UInt8) : Bool := (u == []) || (u == [37]) || (bg u && (nm u).2.beq u.length && ((nm u).1.map lowB == u) && !(hd1 u 37))

theorem unit_ends (u : List UInt8) (h : unitOk u = true) (h2 : ∀ c, u.head? = some c → isDig c = false ∧ c ≠ 46) : Ends u := h2

theorem tok_numS (neg : Bool) (m : Nat) (u : List UInt8) (hu : Ends u) (hk : unitOk u = true) (hm : m ≤ 1000000000) :
    cutP (numS neg m ++ u) = [(7, numS neg m ++ u, u, if neg then -(m : Int) else m)] := by
  have hd := List.length_pos_iff.2 (dec_ne (m / 1000))
  have hpos : 0 < nlen (numS neg m ++ u) := by
    rw [nlen_numS neg m u hu, numS_len]; omega
  have hne : numS neg m ++ u ≠ [] := by
    intro h; rw [h] at hpos; exact absurd hpos (by decide)
  have e : tok1 (numS neg m ++ u) = (7, (numS neg m ++ u).length, u, if neg then -(m : Int) else m) := by
    rw [tok1_num _ hpos]
    unfold numT
    rw [nlen_numS neg m u hu, List.drop_left, nval_numS neg m u hu hm, List.length_append]
    unfold unitOk at hk
    simp only [Bool.or_eq_true, Bool.and_eq_true, beq_iff_eq, Nat.beq_eq, Bool.not_eq_true'] at hk
    rcases hk with (rfl | rfl) | ⟨⟨⟨h1, h2⟩, h3⟩, h4⟩
    · rfl
    · rfl
    · rw [h4, cond_false, h1, cond_true, h2, h3]
  rw [cutP_cons _ hne, e, List.drop_length]
  show [tokO _ _] = _
  unfold tokO
  rw [List.take_length]

theorem unit_all : ∀ i : Fin 7, unitOk (units.getD i.val []) = true ∧ ((units.getD i.val []).head?.all fun c => !isDig c && c != 46) = true := by decide +kernel

theorem unit_of (i : Nat) (h : i < 7) : unitOk (units.getD i []) = true ∧ Ends (units.getD i []) := by
  obtain ⟨h1, h2⟩ := unit_all ⟨i, h⟩
  refine ⟨h1, fun c hc => ?_⟩
  simp only at h2
  rw [hc] at h2
  simpa using h2

end Go.Ev.Tok
