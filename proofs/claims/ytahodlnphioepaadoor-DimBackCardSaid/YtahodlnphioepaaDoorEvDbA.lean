/- DimBack in plain words. No condition beyond those that each theorem names. -/
import Derived.Test.YtahodlnphioepaaDoorEvDbU
import Derived.Test.YtahodlnphioepaaDoorEvDbP
set_option linter.unusedVariables false
set_option linter.unusedSimpArgs false
namespace Go.Ev.Db
open Go Go.Ev.Tok

theorem itoa_eq (n : Int) (h0 : 0 ≤ n) (h1 : n ≤ 9223372036854775807) : itoaS n = some (Lib.decDigits n.toNat) := by
  unfold itoaS
  rw [cond_dec (by omega)]
  unfold Lib.itoa
  rw [if_neg (by omega)]

theorem trim0 (s : List UInt8) (hs : s.length ≤ 100000) (k : Nat) : strings_TrimRight k s ([48] : List UInt8) = some (Lib.trimRightS s [48]) := by
  unfold strings_TrimRight trimR
  have h : (asciiB [48] && (([48] : List UInt8).length).blt findMax) = true := by decide
  rw [h, Bool.true_and]
  have h2 : s.length.blt 9223372036854775807 = true := by rw [Nat.blt_eq]; omega
  rw [h2, cond_true]

theorem dec_len (u : Nat) (h : u ≤ 1000000000) : (Lib.decDigits u).length ≤ 10 := by
  rw [Lib.decDigits_length]
  have : Lib.nDigits u ≤ 10 := by
    by_cases h2 : Lib.nDigits u ≤ 10
    · exact h2
    · exfalso
      have key : ∀ (j v : Nat), v < 10 ^ (j + 1) → Lib.nDigits v ≤ j + 1 := by
        intro j
        induction j with
        | zero => intro v hv; rw [Lib.nDigits_small (by simpa using hv)]; exact Nat.le_refl _
        | succ j ih =>
          intro v hv
          by_cases hs : v < 10
          · rw [Lib.nDigits_small hs]; omega
          · rw [Lib.nDigits_big hs]
            have := ih (v / 10) (by rw [Nat.pow_succ] at hv; omega)
            omega
      exact h2 (key 9 u (by omega))
  exact this

theorem ble_ok {a b : Nat} (h : a + b ≤ 1000000) : Nat.ble (a + b) 9223372036854775807 = true := by rw [Nat.ble_eq]; omega

theorem text_c18 (k : Nat) (x y : List UInt8) (n : Int) (h : x.length + y.length ≤ 1000000) : dim_Text.c18 k x n y = some (x ++ y) := by
  unfold dim_Text.c18
  rw [ble_ok h, cond_true]

theorem text_c10 (k m : Nat) (hm : m ≤ 1000000000) (neg : Bool) (n : Int) (u : List UInt8) (hu : u.length ≤ 100) :
    dim_Text.c10 k (m : Int) (bif neg then [45] else []) n u = some (numS neg m ++ u) := by
  unfold dim_Text.c10
  have p : ((1000 : Int) != 0) = true := rfl
  have w1 : IntKind.wrap .i64 (Int.tdiv (m : Int) 1000) = ((m / 1000 : Nat) : Int) := by rw [tdiv_u _ (by omega), wrap_i64 (by omega) (by omega)]; omega
  have w2 : IntKind.wrap .i64 ((1000 : Int) + Int.tmod (m : Int) 1000) = ((1000 + m % 1000 : Nat) : Int) := by rw [tmod_u _ (by omega), wrap_i64 (by omega) (by omega)]; omega
  simp only [p, cond_true, w1, w2, strconv_Itoa]
  rw [itoa_eq _ (by omega) (by omega), itoa_eq _ (by omega) (by omega)]
  simp only [Option.bind_some, Int.toNat_natCast]
  rw [dec4 _ (Nat.mod_lt _ (by decide))]
  have hl := dec_len (m / 1000) (by omega)
  have hf := fr_ok (m % 1000) (Nat.mod_lt _ (by decide))
  have hsg : (bif neg then [45] else [] : List UInt8).length ≤ 1 := by cases neg <;> decide
  have ld3 : (d3 (m % 1000)).length = 3 := rfl
  rw [ble_ok (by omega), cond_true, cond_dec (by rw [List.length_cons, ld3]; decide)]
  have ed : (49 :: d3 (m % 1000)).drop (1 : Int).toNat = d3 (m % 1000) := rfl
  rw [ed, trim0 _ (by rw [ld3]; decide)]
  simp only [Option.bind_some]
  show cond (!(fr (m % 1000) == [])) _ _ = _
  by_cases h : fr (m % 1000) = []
  · rw [h]
    show dim_Text.c18 k _ n u = _
    rw [text_c18 _ _ _ _ (by rw [List.length_append]; omega)]
    unfold numS frT
    rw [if_pos h, List.append_nil]
  · have hb : (fr (m % 1000) == []) = false := by simpa using h
    rw [hb]
    show cond (Nat.ble (([46] : List UInt8).length + (fr (m % 1000)).length) 9223372036854775807) (cond (Nat.ble (((bif neg then [45] else []) ++ Lib.decDigits (m / 1000)).length + (([46] : List UInt8) ++ fr (m % 1000)).length) 9223372036854775807) (dim_Text.c18 k (((bif neg then [45] else []) ++ Lib.decDigits (m / 1000)) ++ (([46] : List UInt8) ++ fr (m % 1000))) n u) none) none = _
    rw [ble_ok (by simp; omega), cond_true, ble_ok (by simp; omega), cond_true, text_c18 _ _ _ _ (by simp; omega)]
    unfold numS frT
    rw [if_neg h]
    simp

/-- A number's text. -/
def txt (n : Int) (u : List UInt8) : List UInt8 := numS (decide (n < 0)) n.natAbs ++ u

theorem text_eq' (k : Nat) (n : Int) (h0 : -1000000000 ≤ n) (h1 : n ≤ 1000000000) (u : List UInt8) (hu : u.length ≤ 100) : dim_Text k n u = some (txt n u) := by
  unfold dim_Text
  have e1 : (if (-1000000000 : Int) > n then (-1000000000 : Int) else n) = n := by rw [if_neg (by omega)]
  have e2 : (if (1000000000 : Int) < n then (1000000000 : Int) else n) = n := by rw [if_neg (by omega)]
  simp only [e1, e2]
  by_cases h : n < 0
  · rw [cond_dec h, wrap_i64 (by omega) (by omega)]
    have e3 : (0 : Int) - n = ((n.natAbs : Nat) : Int) := by omega
    rw [e3]
    have := text_c10 k n.natAbs (by omega) true n u hu
    simp only [cond_true] at this
    rw [this]
    unfold txt
    rw [decide_eq_true h]
  · rw [cond_ndec h]
    have e3 : n = ((n.natAbs : Nat) : Int) := by omega
    have := text_c10 k n.natAbs (by omega) false n u hu
    simp only [cond_false] at this
    rw [← e3] at this
    rw [this]
    unfold txt
    rw [decide_eq_false h]

theorem numS_le (neg : Bool) (m : Nat) (hm : m ≤ 1000000000) : (numS neg m).length ≤ 20 := by
  rw [numS_len]
  have h1 := dec_len (m / 1000) (by omega)
  have h2 := (fr_ok (m % 1000) (Nat.mod_lt _ (by decide))).2.1
  split <;> split <;> omega

theorem units_len : ∀ i : Fin 7, (units.getD i.val []).length ≤ 3 := by decide

theorem index_loop (k : Nat) (l : List (List UInt8)) (x : List UInt8) (hl : l.length ≤ 100000) (j : Nat) (hj : l[j]? = some x) : ∀ (f i : Nat), i ≤ j → l.length - i < f →
    ∃ q : Nat, slices_Index___string_string_.c5 k f l x (l.length : Int) (i : Int) (some (-1)) = some (q : Int)
  | 0, i, _, h => by omega
  | f + 1, i, hi, h => by
    have hjl := (List.getElem?_eq_some_iff.1 hj).1
    unfold slices_Index___string_string_.c5
    rw [cond_dec (by omega), cond_dec (by omega)]
    simp only [Int.toNat_natCast]
    have w : IntKind.wrap .i64 ((i : Int) + 1) = ((i + 1 : Nat) : Int) := by rw [wrap_i64 (by omega) (by omega)]; omega
    cases he : (x == l.getD i []) with
    | true => exact ⟨i, rfl⟩
    | false =>
      rw [cond_false, w]
      refine index_loop k l x hl j hj f (i + 1) ?_ (by omega)
      by_cases hij : i = j
      · subst hij
        rw [List.getD_eq_getElem?_getD, hj] at he
        simp at he
      · omega

theorem contains_eq (k : Nat) (l : List (List UInt8)) (x : List UInt8) (hl : l.length ≤ 100000) (hk : l.length < k) (j : Nat) (hj : l[j]? = some x) : slices_Contains___string_string_ k l x = some true := by
  unfold slices_Contains___string_string_ slices_Index___string_string_
  obtain ⟨q, hq⟩ := index_loop k l x hl j hj k 0 (by omega) (by omega)
  rw [show ((0 : Nat) : Int) = 0 from rfl] at hq
  rw [hq]
  simp only [Option.bind_some]
  rw [decide_eq_true (by omega)]

theorem units_at (i : Nat) (h : i < 7) : g0_0[i]? = some (units.getD i []) := by
  have : g0_0 = units := rfl
  have hl : units.length = 7 := rfl
  rw [this, List.getD_eq_getElem?_getD, List.getElem?_eq_getElem (by omega)]
  rfl

/-- What was told is read. -/
theorem read_txt (k : Nat) (hk : 200 ≤ k) (n : Int) (h0 : -1000000000 ≤ n) (h1 : n ≤ 1000000000) (i : Nat) (hi : i < 7) : dim_Read k (txt n (units.getD i [])) = some (n, units.getD i [], 0) := by
  have hul := units_len ⟨i, hi⟩
  simp only at hul
  obtain ⟨hu1, hu2⟩ := unit_of i hi
  have hlen : (txt n (units.getD i [])).length ≤ 30 := by
    unfold txt
    have := numS_le (decide (n < 0)) n.natAbs (by omega)
    rw [List.length_append]; omega
  unfold dim_Read
  rw [Cut_eq k _ (by omega) (by omega)]
  have ht : toks (txt n (units.getD i [])) = [⟨7, txt n (units.getD i []), units.getD i [], n⟩] := by
    unfold toks txt
    rw [tok_numS _ _ _ hu2 hu1 (by omega)]
    simp only [List.map_cons, List.map_nil, mk]
    congr 2
    by_cases h : n < 0
    · rw [decide_eq_true h, if_pos rfl]; omega
    · rw [decide_eq_false h, if_neg (by decide)]; omega
  rw [ht]
  simp only [Option.bind_some]
  have hc := contains_eq k g0_0 _ (by decide) (by have : g0_0.length = 7 := rfl; omega) i (units_at i hi)
  show (slices_Contains___string_string_ k g0_0 (units.getD i [])).bind _ = _
  rw [hc]
  rfl

theorem half_eq (k : Nat) (hk : 200 ≤ k) : clerestorykeep2_half k = some true := by
  unfold clerestorykeep2_half dim_Read
  rw [Cut_eq k _ (by decide) (by simp only [List.length_cons, List.length_nil]; omega)]
  have ht : toks [49, 46, 53, 48, 101, 109] = [⟨7, [49, 46, 53, 48, 101, 109], [101, 109], 1500⟩] := by kernel_rfl
  rw [ht]
  have hc := contains_eq k g0_0 [101, 109] (by decide) (by have : g0_0.length = 7 := rfl; omega) 2 rfl
  simp only [Option.bind_some]
  show ((slices_Contains___string_string_ k g0_0 [101, 109]).bind _).bind _ = _
  rw [hc]
  rfl

theorem law (k : Nat) (hk : 200 ≤ k) (a b : Int) : clerestorykeep2_DimBack k a b = some true := by
  unfold clerestorykeep2_DimBack
  rw [half_eq k hk]
  have p1 : ((1000000001 : Int) != 0) = true := rfl
  have p2 : ((7 : Int) != 0) = true := rfl
  have hn : -1000000000 ≤ Int.tmod a 1000000001 ∧ Int.tmod a 1000000001 ≤ 1000000000 := by
    have h1 := Int.tmod_lt_of_pos a (show (0 : Int) < 1000000001 by decide)
    have h2 : -1000000001 < Int.tmod a 1000000001 := by
      have := Int.lt_tmod_of_pos a (show (0 : Int) < 1000000001 by decide)
      exact this
    omega
  obtain ⟨i, hi, he⟩ : ∃ i : Nat, i < 7 ∧ Int.tmod (IntKind.wrap .u64 b) 7 = (i : Int) := by
    rw [wrap_u64, tmod_u _ (by omega)]
    generalize b % 18446744073709551616 = q
    exact ⟨(q % 7).toNat, by omega, by omega⟩
  simp only [Option.bind_some, p1, p2, cond_true, he]
  generalize Int.tmod a 1000000001 = n at *
  have eu : ([([] : List UInt8), ([112, 120] : List UInt8), ([101, 109] : List UInt8), ([114, 101, 109] : List UInt8), ([118, 119] : List UInt8), ([118, 104] : List UInt8), ([37] : List UInt8)]) = units := rfl
  rw [eu]
  have hl : units.length = 7 := rfl
  rw [cond_dec (by rw [hl]; omega), Int.toNat_natCast]
  have hul := units_len ⟨i, hi⟩
  simp only at hul
  rw [text_eq' k n hn.1 hn.2 _ (by omega)]
  simp only [Option.bind_some]
  rw [read_txt k hk n hn.1 hn.2 i hi]
  simp

theorem law_ex (a b : Int) : ∃ k, clerestorykeep2_DimBack k a b = some true := ⟨200, law 200 (Nat.le_refl _) a b⟩

end Go.Ev.Db
