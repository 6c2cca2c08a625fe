/- DeclImportant's law, in plain words. No condition beyond those that each theorem names. -/
import Derived.Test.YtahodlnphioepaaDoorEvRuW
import Derived.Test.YtahodlnphioepaaDoorEvTkK
set_option linter.unusedVariables false
set_option linter.unusedSimpArgs false
namespace Go.Ev.Ru
open Go Go.Ev.Tok

theorem important_law (k : Nat) (hk : k = 200011) (s : List UInt8) (n : Int) : clerestorykeep2_DeclImportant k s n = some true := by
  have hf : clerestorykeep2_ruleFact k = some true := by rw [hk]; kernel_rfl
  have hk' : 100010 < k := by omega
  unfold clerestorykeep2_DeclImportant
  rw [hf, Decls_is k hk' s]
  simp only [Option.bind_some]
  by_cases hb : decide (3000 < s.length) || decide (30 < (decs (cutP s)).length)
  · rw [hb]
    rfl
  · rw [Bool.not_eq_true] at hb
    rw [hb]
    rw [Bool.or_eq_false_iff, decide_eq_false_iff_not, decide_eq_false_iff_not] at hb
    obtain ⟨t1, t2⟩ := told_len s (by omega) (by omega)
    have hg := goods s
    generalize hL : decs (cutP s) = L at *
    match L with
    | [] => rfl
    | d :: e :: r =>
      have e1 : (((((d :: e :: r).map md).length : Nat) : Int) != 1) = true := bne_iff_ne.2 (by simp only [List.length_map, List.length_cons]; omega)
      have e2 : (decide (0 ≤ (0 : Int) ∧ (0 : Int) < ((((d :: e :: r).map md).length : Nat) : Int))) = true := decide_eq_true (by simp only [List.length_map, List.length_cons]; omega)
      simp only [cond_false, e1, e2, Bool.true_or, cond_true]
      rfl
    | [d] =>
      have hd := hg d (by simp)
      obtain ⟨l1, l2⟩ := t2 d (by simp)
      obtain ⟨nm, vl, ip⟩ := d
      simp only at l1 l2
      cases ip with
      | true => rfl
      | false =>
        have hmod : IntKind.wrap .u64 n = n % 18446744073709551616 := wrap_u64 n
        have h0 : 0 ≤ n % 18446744073709551616 := Int.emod_nonneg _ (by omega)
        have hv9 : Int.tmod (IntKind.wrap .u64 n) 4 = (n % 18446744073709551616) % 4 := by rw [hmod, tmod_u 4 h0]
        simp only [hv9]
        have key : ∀ (v : Int) (mark : List UInt8), mark.length ≤ 30 → Writ mark →
            cond (Nat.ble (nm.length + ([32, 58, 32] : List UInt8).length) 9223372036854775807) (
            cond (Nat.ble ((nm ++ [32, 58, 32]).length + vl.length) 9223372036854775807) (
            cond (Nat.ble ((nm ++ [32, 58, 32] ++ vl).length + mark.length) 9223372036854775807) (
            cond (Nat.ble ((nm ++ [32, 58, 32] ++ vl ++ mark).length + ([59] : List UInt8).length) 9223372036854775807) (
            (cssrule_Decls k (nm ++ [32, 58, 32] ++ vl ++ mark ++ [59])).bind fun r14 =>
            (clerestorykeep2_sameDecls k r14.2 [(⟨nm, vl, true⟩ : S58)]).bind fun r16 =>
            some (cond true (cond (r14.1 == (2 : Int)) true (cond (r14.1 == (0 : Int)) r16 false)) false)) none) none) none) none = some true := by
          intro v mark hm hw
          have b : ∀ x : Nat, x ≤ 9223372036854775807 → Nat.ble x 9223372036854775807 = true := fun x hx => by rw [Nat.ble_eq]; exact hx
          rw [b _ (by simp only [List.length_cons, List.length_nil]; omega), b _ (by simp only [List.length_append, List.length_cons, List.length_nil]; omega), b _ (by simp only [List.length_append, List.length_cons, List.length_nil]; omega),
            b _ (by simp only [List.length_append, List.length_cons, List.length_nil]; omega)]
          simp only [cond_true]
          rw [Decls_is k hk', way_law (nm, vl, false) hd mark hw]
          simp only [Option.bind_some]
          cases (decide (3000 < (nm ++ [32, 58, 32] ++ vl ++ mark ++ [59]).length) || decide (30 < [(nm, vl, true)].length)) with
          | true =>
            simp only [cond_true]
            rw [same_ne k _ _ (by simp)]
            rfl
          | false =>
            simp only [cond_false]
            rw [show [(nm, vl, true)].map md = [(⟨nm, vl, true⟩ : S58)] from rfl, same_eq k _ (by simp) (by simp; omega)]
            rfl
        have hq : n % 18446744073709551616 % 4 = 0 ∨ n % 18446744073709551616 % 4 = 1 ∨ n % 18446744073709551616 % 4 = 2 ∨ n % 18446744073709551616 % 4 = 3 := by omega
        rcases hq with e | e | e | e <;> rw [e]
        · exact key 0 _ (by decide) way0
        · exact key 1 _ (by decide) way1
        · exact key 2 _ (by decide) way2
        · exact key 3 _ (by decide) way3

theorem important_ex (s : List UInt8) (n : Int) : ∃ k, clerestorykeep2_DeclImportant k s n = some true := ⟨200011, important_law 200011 rfl s n⟩

end Go.Ev.Ru
