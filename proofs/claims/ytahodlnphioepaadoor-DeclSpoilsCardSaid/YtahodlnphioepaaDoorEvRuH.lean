/- DeclSpoils' law, in plain words. No condition beyond those that each theorem names. -/
import Derived.Test.YtahodlnphioepaaDoorEvRuW
import Derived.Test.YtahodlnphioepaaDoorEvTkL
set_option linter.unusedVariables false
set_option linter.unusedSimpArgs false
namespace Go.Ev.Ru
open Go Go.Ev.Tok

theorem bads_len : ∀ i < 12, (bads.getD i []).length ≤ 30 := by decide

theorem spoils_law (k : Nat) (hk : k = 200011) (s u : List UInt8) (n : Int) (hu : u.length ≤ 140737488351232) : clerestorykeep2_DeclSpoils k s u n = some true := by
  have hf : clerestorykeep2_ruleFact k = some true := by rw [hk]; kernel_rfl
  have hk' : 100010 < k := by omega
  have hmod : IntKind.wrap .u64 n = n % 18446744073709551616 := wrap_u64 n
  have h0 : 0 ≤ n % 18446744073709551616 := Int.emod_nonneg _ (by omega)
  have hv : Int.tmod (IntKind.wrap .u64 n) 12 = ((((n % 18446744073709551616) % 12).toNat : Nat) : Int) := by rw [hmod, tmod_u 12 h0]; omega
  have hi : ((n % 18446744073709551616) % 12).toNat < 12 := by omega
  generalize ((n % 18446744073709551616) % 12).toNat = i at hv hi
  have hbl := bads_len i hi
  have hsp := bads_spoil u i hi
  have e0 : ([([120] : List UInt8), ([49, 58, 32, 50] : List UInt8), ([97, 58, 32, 93] : List UInt8), ([97, 58, 32, 39, 98, 10] : List UInt8), ([98, 58] : List UInt8), ([99, 58, 32, 100, 123, 59, 125, 101] : List UInt8), ([58] : List UInt8), ([97, 32, 98, 58, 32, 99] : List UInt8), ([47, 42, 32, 59, 32, 42, 47] : List UInt8), ([97, 58, 32, 40, 93, 41] : List UInt8), ([97, 58, 32, 125] : List UInt8), ([97, 58, 32, 92, 10] : List UInt8)] : List (List UInt8)) = bads := rfl
  unfold clerestorykeep2_DeclSpoils
  rw [hf, Decls_is k hk' s, Decls_is k hk' u]
  simp only [Option.bind_some, e0, hv]
  have hb12 : (bads.length : Int) = 12 := rfl
  rw [show (((12 : Int) != 0)) = true from rfl, cond_true, cond_dec (by rw [hb12]; omega)]
  have e1 : ((i : Nat) : Int).toNat = i := rfl
  rw [e1]
  have b : ∀ x : Nat, x ≤ 9223372036854775807 → Nat.ble x 9223372036854775807 = true := fun x hx => by rw [Nat.ble_eq]; exact hx
  by_cases hb : (decide (3000 < s.length) || decide (30 < (decs (cutP s)).length)) = true
  · rw [hb]
    simp only [cond_true]
    have ht : clerestorykeep2_declText k ([] : List S58) = some [] := dtext_eq k [] (by simp) hk' (by simp [txts])
    rw [ht]
    simp only [Option.bind_some]
    rw [b _ (by simp only [List.length_nil]; omega), b _ (by simp only [List.length_append, List.length_cons, List.length_nil]; omega), b _ (by simp only [List.length_append, List.length_cons, List.length_nil]; omega)]
    simp only [cond_true]
    rw [Decls_is k hk']
    rfl
  · rw [Bool.not_eq_true] at hb
    rw [hb]
    rw [Bool.or_eq_false_iff, decide_eq_false_iff_not, decide_eq_false_iff_not] at hb
    obtain ⟨t1, t2⟩ := told_len s (by omega) (by omega)
    simp only [cond_false]
    rw [dtext_eq k _ (by omega) hk' (by omega)]
    simp only [Option.bind_some]
    rw [b _ (by omega), b _ (by simp only [List.length_append, List.length_cons, List.length_nil]; omega), b _ (by simp only [List.length_append, List.length_cons, List.length_nil]; omega)]
    simp only [cond_true]
    rw [Decls_is k hk']
    simp only [Option.bind_some]
    have ht := told (decs (cutP s)) (goods s) (bads.getD i [] ++ 59 :: u)
    rw [hsp] at ht
    have e2 : txts (decs (cutP s)) ++ bads.getD i [] ++ [59] ++ u = txts (decs (cutP s)) ++ (bads.getD i [] ++ 59 :: u) := by simp
    rw [e2, ht]
    by_cases hbu : (decide (3000 < u.length) || decide (30 < (decs (cutP u)).length)) = true
    · rw [hbu]
      rfl
    · rw [Bool.not_eq_true] at hbu
      rw [hbu]
      rw [Bool.or_eq_false_iff, decide_eq_false_iff_not, decide_eq_false_iff_not] at hbu
      by_cases hbk : (decide (3000 < (txts (decs (cutP s)) ++ (bads.getD i [] ++ 59 :: u)).length) || decide (30 < (decs (cutP s) ++ decs (cutP u)).length)) = true
      · rw [hbk]
        rfl
      · rw [Bool.not_eq_true] at hbk
        rw [hbk]
        simp only [cond_false]
        have hne : ((0 : Int) != 0) = false := rfl
        simp only [hne, cond_false]
        by_cases hl : 1000 < (txts (decs (cutP s))).length
        · rw [decide_eq_true (by omega)]
          rfl
        · rw [decide_eq_false (by omega)]
          simp only [cond_false]
          rw [cond_dec (by simp only [List.length_append, List.length_map, most]; omega), List.map_append, same_eq k _ (by simp only [List.length_append, List.length_map]; omega) (by simp only [List.length_append, List.length_map]; omega)]
          rfl

theorem spoils_ex (s u : List UInt8) (n : Int) (hs : s.length ≤ reachBytes) (hu : u.length ≤ reachBytes) : ∃ k, clerestorykeep2_DeclSpoils k s u n = some true := ⟨200011, spoils_law 200011 rfl s u n hu⟩

end Go.Ev.Ru
