/- RuleLarge's law, in plain words. No condition beyond those that each theorem names. -/
import Derived.Test.YtahodlnphioepaaDoorEvRuI
set_option linter.unusedVariables false
set_option linter.unusedSimpArgs false
namespace Go.Ev.Ru
open Go Go.Ev.Tok

def aaa (k : Nat) : List UInt8 := (List.replicate k ([97, 123, 125] : List UInt8)).flatten

theorem aaa_succ (i : Nat) : aaa (i + 1) = aaa i ++ [97, 123, 125] := by
  unfold aaa
  rw [List.replicate_succ', List.flatten_append]; rfl

theorem aaa_len : ∀ i : Nat, (aaa i).length = 3 * i
  | 0 => rfl
  | i + 1 => by rw [aaa_succ, List.length_append, aaa_len i]; simp only [List.length_cons, List.length_nil]; omega

theorem large1 (k : Nat) (f : Bool) (N b : Nat) (hN : N ≤ 80) (K : Bool → Int → Int → List UInt8 → Option Bool) : ∀ (n i : Nat), i ≤ N → N - i < n →
    clerestorykeep2_RuleLarge.c13 k n f (N : Int) (b : Int) (aaa i) (i : Int) K = K f (N : Int) (b : Int) (aaa N)
  | 0, i, _, h => by omega
  | n + 1, i, hi, hn => by
    unfold clerestorykeep2_RuleLarge.c13
    rcases Nat.lt_or_ge i N with h | h
    · have w1 : IntKind.wrap .i64 ((i : Int) + 1) = ((i + 1 : Nat) : Int) := by rw [wrap_i64 (by omega) (by omega)]; omega
      have hb : Nat.ble ((aaa i).length + ([97, 123, 125] : List UInt8).length) 9223372036854775807 = true := by rw [Nat.ble_eq, aaa_len]; simp only [List.length_cons, List.length_nil]; omega
      rw [cond_dec (by omega), hb]
      simp only [cond_true, w1]
      rw [← aaa_succ]
      exact large1 k f N b hN K n (i + 1) (by omega) (by omega)
    · have : i = N := by omega
      subst this
      rw [cond_ndec (by omega)]

theorem large2 (k : Nat) (f : Bool) (N b : Nat) (hN : N ≤ 80) (hb : b ≤ 3200) (K : Bool → Int → List UInt8 → Option Bool) : ∀ (n i : Nat), i ≤ b → b - i < n →
    clerestorykeep2_RuleLarge.c21 k n f (N : Int) (b : Int) (aaa N ++ List.replicate i (32 : UInt8)) (i : Int) K = K f (N : Int) (aaa N ++ List.replicate b (32 : UInt8))
  | 0, i, _, h => by omega
  | n + 1, i, hi, hn => by
    unfold clerestorykeep2_RuleLarge.c21
    rcases Nat.lt_or_ge i b with h | h
    · have w1 : IntKind.wrap .i64 ((i : Int) + 1) = ((i + 1 : Nat) : Int) := by rw [wrap_i64 (by omega) (by omega)]; omega
      have hl : Nat.ble ((aaa N ++ List.replicate i (32 : UInt8)).length + ([32] : List UInt8).length) 9223372036854775807 = true := by rw [Nat.ble_eq, List.length_append, aaa_len, List.length_replicate]; simp only [List.length_cons, List.length_nil]; omega
      rw [cond_dec (by omega), hl]
      simp only [cond_true, w1]
      have e : aaa N ++ List.replicate i (32 : UInt8) ++ [32] = aaa N ++ List.replicate (i + 1) (32 : UInt8) := by rw [List.append_assoc, ← List.replicate_succ']
      rw [e]
      exact large2 k f N b hN hb K n (i + 1) (by omega) (by omega)
    · have : i = b := by omega
      subst this
      rw [cond_ndec (by omega)]

theorem cnts_rep : ∀ n : Nat, cnts (List.replicate n rl0) = n ∧ lngs (List.replicate n rl0) = false
  | 0 => ⟨rfl, rfl⟩
  | n + 1 => by
    obtain ⟨h1, h2⟩ := cnts_rep n
    rw [List.replicate_succ]
    refine ⟨by rw [cnts, h1]; show 0 + 1 + n = n + 1; omega, by rw [lngs, h2]; rfl⟩

theorem large_law (k : Nat) (hk : k = 200011) (n b : Int) : clerestorykeep2_RuleLarge k n b = some true := by
  have hf : clerestorykeep2_ruleFact k = some true := by rw [hk]; kernel_rfl
  have hk' : 100010 < k := by omega
  have hmod : ∀ n : Int, IntKind.wrap .u64 n = n % 18446744073709551616 := wrap_u64
  have h0 : ∀ n : Int, 0 ≤ n % 18446744073709551616 := fun n => Int.emod_nonneg _ (by omega)
  have hv1 : Int.tmod (IntKind.wrap .u64 n) 80 = ((((n % 18446744073709551616) % 80).toNat : Nat) : Int) := by rw [hmod, tmod_u 80 (h0 n)]; omega
  have hv2 : Int.tmod (IntKind.wrap .u64 b) 3200 = ((((b % 18446744073709551616) % 3200).toNat : Nat) : Int) := by rw [hmod, tmod_u 3200 (h0 b)]; omega
  have hi1 : ((n % 18446744073709551616) % 80).toNat < 80 := by omega
  have hi2 : ((b % 18446744073709551616) % 3200).toNat < 3200 := by omega
  generalize ((n % 18446744073709551616) % 80).toNat = N at hv1 hi1
  generalize ((b % 18446744073709551616) % 3200).toNat = B at hv2 hi2
  unfold clerestorykeep2_RuleLarge
  rw [hf]
  simp only [Option.bind_some, hv1, hv2]
  rw [show (((80 : Int) != 0)) = true from rfl, show (((3200 : Int) != 0)) = true from rfl, cond_true, cond_true]
  have w1 : IntKind.wrap .i64 ((N : Nat) : Int) = ((N : Nat) : Int) := wrap_i64 (by omega) (by omega)
  have w2 : IntKind.wrap .i64 ((B : Nat) : Int) = ((B : Nat) : Int) := wrap_i64 (by omega) (by omega)
  rw [w1, w2]
  have l1 := large1 k true N B (by omega) (fun (y13 : Bool) (y14 : Int) (y15 : Int) (y16 : List UInt8) =>
    clerestorykeep2_RuleLarge.c21 k k y13 y14 y15 y16 (0 : Int) (fun (y23 : Bool) (y24 : Int) (y25 : List UInt8) =>
    (cssrule_Parse k y25).bind fun r26 =>
    let v27 : Bool := (decide ((y25.length : Int) > (3000 : Int)))
    let v28 : Bool := (cond (decide (y24 > (60 : Int))) true v27)
    cond v28 (
    let v29 : Bool := (cond y23 (r26.1 == (2 : Int)) false)
    let v30 : Bool := ((r26.2.length : Int) == (0 : Int))
    some (cond v29 v30 false)) (
    let v31 : Bool := (cond y23 (r26.1 == (0 : Int)) false)
    let v32 : Bool := (cond v31 ((r26.2.length : Int) == y24) false)
    some v32))) k 0 (by omega) (by omega)
  refine l1.trans ?_
  have l2 := large2 k true N B (by omega) (by omega) (fun (y23 : Bool) (y24 : Int) (y25 : List UInt8) =>
    (cssrule_Parse k y25).bind fun r26 =>
    let v27 : Bool := (decide ((y25.length : Int) > (3000 : Int)))
    let v28 : Bool := (cond (decide (y24 > (60 : Int))) true v27)
    cond v28 (
    let v29 : Bool := (cond y23 (r26.1 == (2 : Int)) false)
    let v30 : Bool := ((r26.2.length : Int) == (0 : Int))
    some (cond v29 v30 false)) (
    let v31 : Bool := (cond y23 (r26.1 == (0 : Int)) false)
    let v32 : Bool := (cond v31 ((r26.2.length : Int) == y24) false)
    some v32)) k 0 (by omega) (by omega)
  rw [List.replicate_zero, List.append_nil] at l2
  refine l2.trans ?_
  have hr : rls 3 (cutP (aaa N ++ List.replicate B (32 : UInt8))) = List.replicate N rl0 := by
    unfold aaa
    rw [large_many, large_blanks, List.append_nil]
  have hl : (aaa N ++ List.replicate B (32 : UInt8)).length = 3 * N + B := by rw [List.length_append, aaa_len, List.length_replicate]
  obtain ⟨c1, c2⟩ := cnts_rep N
  rw [Parse_eq k hk', hr, hl, c1, c2]
  simp only [Option.bind_some, Bool.false_or]
  by_cases h1 : 3000 < 3 * N + B
  · rw [decide_eq_true h1, decide_eq_true (show (((3 * N + B : Nat) : Int) > 3000) by omega)]
    simp only [Bool.true_or, cond_true]
    cases (decide ((N : Int) > 60)) <;> rfl
  · rw [decide_eq_false h1, decide_eq_false (show ¬ (((3 * N + B : Nat) : Int) > 3000) by omega)]
    simp only [Bool.false_or]
    by_cases h2 : 60 < N
    · rw [decide_eq_true h2, decide_eq_true (show ((N : Int) > 60) by omega)]
      rfl
    · rw [decide_eq_false h2, decide_eq_false (show ¬ ((N : Int) > 60) by omega)]
      simp only [cond_false, mrs_len, List.length_replicate, beq_self_eq_true, cond_true]

theorem large_ex (n b : Int) : ∃ k, clerestorykeep2_RuleLarge k n b = some true := ⟨200011, large_law 200011 rfl n b⟩

end Go.Ev.Ru
