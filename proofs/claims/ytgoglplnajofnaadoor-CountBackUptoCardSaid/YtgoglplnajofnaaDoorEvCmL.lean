/- The natives of marks, in plain words: turning a list, letters, great letters. No condition beyond those that each theorem names. -/
import Derived.Test.YtgoglplnajofnaaDoorEvCm
import Derived.Test.YtgoglplnajofnaaDoorEvNum
set_option linter.unusedVariables false
set_option linter.unusedSimpArgs false
set_option maxRecDepth 100000
namespace Go.Ev.Cm
open Go.Ev

/-- A list that is turned from its ends on. -/
theorem turn_loop (k : Nat) (l : List Int) (hl : l.length ≤ 1000000) (K : List Int → Option (List Int)) : ∀ (f i : Nat) (x : List Int), x.length = l.length → i ≤ l.length →
    (∀ p, x[p]? = if p < i ∨ (l.length ≤ p + i ∧ p < l.length) then l[l.length - 1 - p]? else l[p]?) → l.length < f + i →
    slices_Reverse___byte_byte__v2.c3 k f (i : Int) ((l.length : Int) - 1 - i) x K = K l.reverse
  | 0, i, x, hx, hi, hp, hf => by omega
  | f + 1, i, x, hx, hi, hp, hf => by
    unfold slices_Reverse___byte_byte__v2.c3
    by_cases hlt : (i : Int) < (l.length : Int) - 1 - i
    · rw [cond_dec hlt, cond_dec (by omega), cond_dec (by omega), cond_dec (by omega)]
      have e1 : ((l.length : Int) - 1 - i).toNat = l.length - 1 - i := by omega
      have w1 : IntKind.wrap .i64 ((i : Int) + 1) = ((i + 1 : Nat) : Int) := by rw [wrap_i64 (by omega) (by omega)]; omega
      have w2 : IntKind.wrap .i64 ((l.length : Int) - 1 - i - 1) = (l.length : Int) - 1 - ((i + 1 : Nat) : Int) := by rw [wrap_i64 (by omega) (by omega)]; omega
      simp only [e1, w1, w2, Int.toNat_natCast]
      rw [cond_dec (by rw [List.length_set]; omega)]
      refine turn_loop k l hl K f (i + 1) _ (by rw [List.length_set, List.length_set]; exact hx) (by omega) (fun p => ?_) (by omega)
      have hi1 : x.getD i 0 = l.getD i 0 := by
        rw [List.getD_eq_getElem?_getD, List.getD_eq_getElem?_getD, hp i, if_neg (by omega)]
      have hj1 : x.getD (l.length - 1 - i) 0 = l.getD (l.length - 1 - i) 0 := by
        rw [List.getD_eq_getElem?_getD, List.getD_eq_getElem?_getD, hp, if_neg (by omega)]
      rw [hi1, hj1, List.getElem?_set, List.getElem?_set, List.length_set]
      by_cases c1 : l.length - 1 - i = p
      · subst c1
        rw [if_pos rfl, if_pos (by omega), if_pos (by omega), show l.length - 1 - (l.length - 1 - i) = i by omega, List.getD_eq_getElem?_getD, List.getElem?_eq_getElem (by omega)]
        rfl
      · rw [if_neg c1]
        by_cases c2 : i = p
        · subst c2
          rw [if_pos rfl, if_pos (by omega), if_pos (by omega), List.getD_eq_getElem?_getD, List.getElem?_eq_getElem (by omega)]
          rfl
        · rw [if_neg c2, hp p]
          by_cases c3 : p < i ∨ (l.length ≤ p + i ∧ p < l.length)
          · rw [if_pos c3, if_pos (by omega)]
          · rw [if_neg c3, if_neg (by omega)]
    · rw [cond_ndec hlt]
      congr 1
      apply List.ext_getElem?
      intro p
      rw [hp p]
      by_cases hpl : p < l.length
      · rw [List.getElem?_reverse hpl]
        split
        · rfl
        · have : l.length - 1 - p = p := by omega
          rw [this]
      · rw [if_neg (by omega), List.getElem?_eq_none (by omega), List.getElem?_eq_none (by simp; omega)]

theorem turn_eq (k : Nat) (l : List Int) (hl : l.length ≤ 1000000) (hk : l.length < k) : slices_Reverse___byte_byte__v2 k l = some l.reverse := by
  unfold slices_Reverse___byte_byte__v2
  have w : IntKind.wrap .i64 ((l.length : Int) - 1) = (l.length : Int) - 1 - ((0 : Nat) : Int) := by rw [wrap_i64 (by omega) (by omega)]; omega
  simp only [w]
  exact turn_loop k l hl (fun y => some y) k 0 l rfl (by omega) (fun p => by rw [if_neg (by omega)]) (by omega)

/-- The letters of a number, the last one ahead. -/
def letF : Nat → Nat → List UInt8
  | 0, _ => []
  | _ + 1, 0 => []
  | f + 1, n + 1 => UInt8.ofNat (97 + n % 26) :: letF f (n / 26)

theorem letF_len : ∀ f n, (letF f n).length ≤ f
  | 0, _ => Nat.le_refl _
  | _ + 1, 0 => Nat.zero_le _
  | f + 1, n + 1 => by unfold letF; rw [List.length_cons]; exact Nat.succ_le_succ (letF_len f (n / 26))

/-- A fuel that is enough, and more of it. -/
theorem letF_more : ∀ (f g n : Nat), n < 26 ^ f → f ≤ g → letF g n = letF f n
  | 0, g, n, h, _ => by
    have : n = 0 := by simpa using h
    subst this
    cases g <;> rfl
  | f + 1, 0, n, _, hg => by omega
  | f + 1, g + 1, 0, _, _ => rfl
  | f + 1, g + 1, n + 1, h, hg => by
    unfold letF
    rw [letF_more f g (n / 26) (by rw [Nat.pow_succ] at h; omega) (by omega)]

theorem letter_byte (n : Nat) : IntKind.wrap .u8 (((97 + n % 26 : Nat)) : Int) = ((UInt8.ofNat (97 + n % 26)).toNat : Int) := by
  rw [wrap_u8, UInt8.toNat_ofNat']
  omega

theorem let_loop (k : Nat) (K : List Int → Option (List UInt8)) : ∀ (f g n : Nat) (acc : List UInt8), f ≤ g → n ≤ 1000000000 → n < 26 ^ f → acc.length + f ≤ 1000 →
    count_letters.c5 k (g + 1) (n : Int) (bytesI acc) K = K (bytesI (acc ++ letF f n))
  | f, g, 0, acc, _, _, _, _ => by
    have : letF f 0 = [] := by cases f <;> rfl
    unfold count_letters.c5
    rw [cond_ndec (by omega), this, List.append_nil]
  | 0, g, n + 1, acc, _, _, h, _ => by simp at h
  | f + 1, 0, n + 1, acc, hg, _, _, _ => by omega
  | f + 1, g + 1, n + 1, acc, hg, hn, h, ha => by
    unfold count_letters.c5
    have w1 : IntKind.wrap .i64 (((n + 1 : Nat) : Int) - 1) = (n : Int) := by rw [wrap_i64 (by omega) (by omega)]; omega
    have w2 : IntKind.wrap .i64 ((97 : Int) + Int.tmod (n : Int) 26) = ((97 + n % 26 : Nat) : Int) := by rw [tmod_u _ (by omega), wrap_i64 (by omega) (by omega)]; omega
    have w3 : IntKind.wrap .i64 (Int.tdiv (n : Int) 26) = ((n / 26 : Nat) : Int) := by rw [tdiv_u _ (by omega), wrap_i64 (by omega) (by omega)]; omega
    have p : ((26 : Int) != 0) = true := rfl
    simp only [w1, w2, w3, p, cond_true, letter_byte]
    rw [cond_dec (by omega)]
    have e : bytesI acc ++ [((UInt8.ofNat (97 + n % 26)).toNat : Int)] = bytesI (acc ++ [UInt8.ofNat (97 + n % 26)]) := by simp [bytesI]
    rw [e]
    have hl : (bytesI (acc ++ [UInt8.ofNat (97 + n % 26)])).length < most := by
      simp only [bytesI, List.length_map, List.length_append, List.length_cons, List.length_nil]; unfold most; omega
    rw [cond_dec hl, let_loop k K f g (n / 26) _ (by omega) (by omega) (by rw [Nat.pow_succ] at h; omega) (by simp only [List.length_append, List.length_cons, List.length_nil]; omega)]
    rw [List.append_assoc]
    rfl

/-- The letters of a number. -/
def letS (n : Nat) : List UInt8 := (letF 8 n).reverse

theorem bytesU_I (l : List UInt8) : bytesU (bytesI l) = l := by
  unfold bytesU bytesI
  rw [List.map_map]
  conv => rhs; rw [← List.map_id l]
  apply List.map_congr_left
  intro a _
  simp

theorem letters_eq (k : Nat) (hk : 20 ≤ k) (n : Nat) (hn : n ≤ 1000000000) : count_letters k (n : Int) = some (letS n) := by
  unfold count_letters
  obtain ⟨m, rfl⟩ : ∃ m, k = m + 1 := ⟨k - 1, by omega⟩
  have := let_loop (m + 1) (fun (y9 : List Int) => (slices_Reverse___byte_byte__v2 (m + 1) y9).bind fun r10 => some (bytesU r10)) 8 m n [] (by omega) hn (by omega) (by simp)
  have h0 : bytesI ([] : List UInt8) = [] := rfl
  rw [h0] at this
  rw [this, List.nil_append]
  have hl := letF_len 8 n
  rw [turn_eq _ _ (by simp [bytesI]; omega) (by simp [bytesI]; omega)]
  simp only [Option.bind_some]
  have : (bytesI (letF 8 n)).reverse = bytesI (letF 8 n).reverse := by simp [bytesI]
  rw [this, bytesU_I]
  rfl

/-- Great letters of small ones. -/
def upB (c : UInt8) : UInt8 := bif decide (97 ≤ c.toNat) && decide (c.toNat ≤ 122) then c - 32 else c
def isLo (c : UInt8) : Bool := decide (97 ≤ c.toNat) && decide (c.toNat ≤ 122)

theorem low_eq (c : UInt8) : (cond (decide ((97 : Int) ≤ ((c.toNat : Nat) : Int))) (decide (((c.toNat : Nat) : Int) ≤ 122)) false) = isLo c := by
  unfold isLo
  have a : decide ((97 : Int) ≤ ((c.toNat : Nat) : Int)) = decide (97 ≤ c.toNat) := decide_eq_decide.2 (by omega)
  have b : decide (((c.toNat : Nat) : Int) ≤ 122) = decide (c.toNat ≤ 122) := decide_eq_decide.2 (by omega)
  rw [a, b]
  cases decide (97 ≤ c.toNat) <;> rfl

theorem upB_lo {c : UInt8} (h : isLo c = true) : IntKind.wrap .u8 (((c.toNat : Nat) : Int) - 32) = ((upB c).toNat : Int) := by
  have hh := h
  unfold isLo at h
  simp only [Bool.and_eq_true, decide_eq_true_eq] at h
  unfold upB
  rw [show (decide (97 ≤ c.toNat) && decide (c.toNat ≤ 122)) = true from hh, cond_true, wrap_u8, UInt8.toNat_sub]
  simp only [UInt8.toNat_ofNat]
  omega

theorem upB_not {c : UInt8} (h : isLo c = false) : upB c = c := by
  unfold upB
  rw [show (decide (97 ≤ c.toNat) && decide (c.toNat ≤ 122)) = false from h]; rfl

/-- The Roman digits of a number, one kind behind the other. -/
def romF : List (Nat × List UInt8) → Nat → List UInt8
  | [], _ => []
  | (d, s) :: ds, n => (List.replicate (n / d) s).flatten ++ romF ds (n % d)
def romT : List (Nat × List UInt8) := [(1000, [109]), (900, [99, 109]), (500, [100]), (400, [99, 100]), (100, [99]), (90, [120, 99]), (50, [108]), (40, [120, 108]), (10, [120]), (9, [105, 120]), (5, [118]), (4, [105, 118]), (1, [105])]
def romS (n : Nat) : List UInt8 := romF romT n

theorem rom_inner (k : Nat) (a0 : Int) (b0 : List UInt8) (a1 : Int) (b1 : List UInt8) (a2 : Int) (b2 : List UInt8) (a3 : Int) (b3 : List UInt8) (a4 : Int) (b4 : List UInt8) (a5 : Int) (b5 : List UInt8) (a6 : Int) (b6 : List UInt8) (a7 : Int) (b7 : List UInt8) (a8 : Int) (b8 : List UInt8) (a9 : Int) (b9 : List UInt8) (a10 : Int) (b10 : List UInt8) (a11 : Int) (b11 : List UInt8) (a12 : Int) (b12 : List UInt8) (ix : Int) (d : Nat) (t : List UInt8) (hd : 0 < d) (ht : t.length ≤ 2)
    (K : Int → Int → List UInt8 → Int → List UInt8 → Int → List UInt8 → Int → List UInt8 → Int → List UInt8 → Int → List UInt8 → Int → List UInt8 → Int → List UInt8 → Int → List UInt8 → Int → List UInt8 → Int → List UInt8 → Int → List UInt8 → Int → List UInt8 → Int → List UInt8 → Option (List UInt8)) : ∀ (f n : Nat) (acc : List UInt8), n ≤ 10000 → n / d < f → acc.length + 2 * n ≤ 100000 →
    count_roman.c11 k f (n : Int) a0 b0 a1 b1 a2 b2 a3 b3 a4 b4 a5 b5 a6 b6 a7 b7 a8 b8 a9 b9 a10 b10 a11 b11 a12 b12 ix acc (d : Int) t K = K ((n % d : Nat) : Int) a0 b0 a1 b1 a2 b2 a3 b3 a4 b4 a5 b5 a6 b6 a7 b7 a8 b8 a9 b9 a10 b10 a11 b11 a12 b12 ix (acc ++ (List.replicate (n / d) t).flatten)
  | 0, n, acc, _, h, _ => absurd h (Nat.not_lt_zero _)
  | f + 1, n, acc, hn, h, ha => by
    unfold count_roman.c11
    by_cases hlt : d ≤ n
    · rw [cond_dec (show ((n : Nat) : Int) ≥ ((d : Nat) : Int) by omega)]
      unfold f__strings_Builder__WriteString
      rw [wStr_ok acc t (by unfold blMax; omega)]
      have w : IntKind.wrap .i64 ((n : Int) - (d : Int)) = ((n - d : Nat) : Int) := by rw [wrap_i64 (by omega) (by omega)]; omega
      simp only [Option.map_some, Option.bind_some, w]
      have hdiv : n / d = (n - d) / d + 1 := by
        have := Nat.sub_add_cancel hlt
        conv => lhs; rw [← this]
        exact Nat.add_div_right _ hd
      have hmod : (n - d) % d = n % d := by
        conv => rhs; rw [← Nat.sub_add_cancel hlt]
        exact (Nat.add_mod_right _ _).symm
      rw [rom_inner k a0 b0 a1 b1 a2 b2 a3 b3 a4 b4 a5 b5 a6 b6 a7 b7 a8 b8 a9 b9 a10 b10 a11 b11 a12 b12 ix d t hd ht K f (n - d) _ (by omega) (by omega) (by rw [List.length_append]; omega), hmod, hdiv, List.replicate_succ, List.flatten_cons, List.append_assoc]
    · have hnd : n < d := by omega
      rw [cond_ndec (by omega), Nat.mod_eq_of_lt hnd, Nat.div_eq_of_lt hnd]
      simp

theorem rom_step0 (k f n : Nat) (hf : 10005 ≤ k) (hn : n ≤ 10000) (acc : List UInt8) (ha : acc.length + 2 * n ≤ 100000) (K : List UInt8 → Option (List UInt8)) :
    count_roman.c7 k (f + 1) (n : Int) (1000 : Int) ([109] : List UInt8) (900 : Int) ([99, 109] : List UInt8) (500 : Int) ([100] : List UInt8) (400 : Int) ([99, 100] : List UInt8) (100 : Int) ([99] : List UInt8) (90 : Int) ([120, 99] : List UInt8) (50 : Int) ([108] : List UInt8) (40 : Int) ([120, 108] : List UInt8) (10 : Int) ([120] : List UInt8) (9 : Int) ([105, 120] : List UInt8) (5 : Int) ([118] : List UInt8) (4 : Int) ([105, 118] : List UInt8) (1 : Int) ([105] : List UInt8) (0 : Int) acc K = count_roman.c7 k f ((n % 1000 : Nat) : Int) (1000 : Int) ([109] : List UInt8) (900 : Int) ([99, 109] : List UInt8) (500 : Int) ([100] : List UInt8) (400 : Int) ([99, 100] : List UInt8) (100 : Int) ([99] : List UInt8) (90 : Int) ([120, 99] : List UInt8) (50 : Int) ([108] : List UInt8) (40 : Int) ([120, 108] : List UInt8) (10 : Int) ([120] : List UInt8) (9 : Int) ([105, 120] : List UInt8) (5 : Int) ([118] : List UInt8) (4 : Int) ([105, 118] : List UInt8) (1 : Int) ([105] : List UInt8) (1 : Int) (acc ++ (List.replicate (n / 1000) [109]).flatten) K := by
  rw [count_roman.c7]
  refine (rom_inner k 1000 [109] 900 [99, 109] 500 [100] 400 [99, 100] 100 [99] 90 [120, 99] 50 [108] 40 [120, 108] 10 [120] 9 [105, 120] 5 [118] 4 [105, 118] 1 [105] (0 : Int) 1000 [109] (by decide) (by decide) _ k n acc hn (by have := Nat.div_le_self n 1000; omega) ha).trans ?_
  rfl

theorem rom_step1 (k f n : Nat) (hf : 10005 ≤ k) (hn : n ≤ 10000) (acc : List UInt8) (ha : acc.length + 2 * n ≤ 100000) (K : List UInt8 → Option (List UInt8)) :
    count_roman.c7 k (f + 1) (n : Int) (1000 : Int) ([109] : List UInt8) (900 : Int) ([99, 109] : List UInt8) (500 : Int) ([100] : List UInt8) (400 : Int) ([99, 100] : List UInt8) (100 : Int) ([99] : List UInt8) (90 : Int) ([120, 99] : List UInt8) (50 : Int) ([108] : List UInt8) (40 : Int) ([120, 108] : List UInt8) (10 : Int) ([120] : List UInt8) (9 : Int) ([105, 120] : List UInt8) (5 : Int) ([118] : List UInt8) (4 : Int) ([105, 118] : List UInt8) (1 : Int) ([105] : List UInt8) (1 : Int) acc K = count_roman.c7 k f ((n % 900 : Nat) : Int) (1000 : Int) ([109] : List UInt8) (900 : Int) ([99, 109] : List UInt8) (500 : Int) ([100] : List UInt8) (400 : Int) ([99, 100] : List UInt8) (100 : Int) ([99] : List UInt8) (90 : Int) ([120, 99] : List UInt8) (50 : Int) ([108] : List UInt8) (40 : Int) ([120, 108] : List UInt8) (10 : Int) ([120] : List UInt8) (9 : Int) ([105, 120] : List UInt8) (5 : Int) ([118] : List UInt8) (4 : Int) ([105, 118] : List UInt8) (1 : Int) ([105] : List UInt8) (2 : Int) (acc ++ (List.replicate (n / 900) [99, 109]).flatten) K := by
  rw [count_roman.c7]
  refine (rom_inner k 1000 [109] 900 [99, 109] 500 [100] 400 [99, 100] 100 [99] 90 [120, 99] 50 [108] 40 [120, 108] 10 [120] 9 [105, 120] 5 [118] 4 [105, 118] 1 [105] (1 : Int) 900 [99, 109] (by decide) (by decide) _ k n acc hn (by have := Nat.div_le_self n 900; omega) ha).trans ?_
  rfl

theorem rom_step2 (k f n : Nat) (hf : 10005 ≤ k) (hn : n ≤ 10000) (acc : List UInt8) (ha : acc.length + 2 * n ≤ 100000) (K : List UInt8 → Option (List UInt8)) :
    count_roman.c7 k (f + 1) (n : Int) (1000 : Int) ([109] : List UInt8) (900 : Int) ([99, 109] : List UInt8) (500 : Int) ([100] : List UInt8) (400 : Int) ([99, 100] : List UInt8) (100 : Int) ([99] : List UInt8) (90 : Int) ([120, 99] : List UInt8) (50 : Int) ([108] : List UInt8) (40 : Int) ([120, 108] : List UInt8) (10 : Int) ([120] : List UInt8) (9 : Int) ([105, 120] : List UInt8) (5 : Int) ([118] : List UInt8) (4 : Int) ([105, 118] : List UInt8) (1 : Int) ([105] : List UInt8) (2 : Int) acc K = count_roman.c7 k f ((n % 500 : Nat) : Int) (1000 : Int) ([109] : List UInt8) (900 : Int) ([99, 109] : List UInt8) (500 : Int) ([100] : List UInt8) (400 : Int) ([99, 100] : List UInt8) (100 : Int) ([99] : List UInt8) (90 : Int) ([120, 99] : List UInt8) (50 : Int) ([108] : List UInt8) (40 : Int) ([120, 108] : List UInt8) (10 : Int) ([120] : List UInt8) (9 : Int) ([105, 120] : List UInt8) (5 : Int) ([118] : List UInt8) (4 : Int) ([105, 118] : List UInt8) (1 : Int) ([105] : List UInt8) (3 : Int) (acc ++ (List.replicate (n / 500) [100]).flatten) K := by
  rw [count_roman.c7]
  refine (rom_inner k 1000 [109] 900 [99, 109] 500 [100] 400 [99, 100] 100 [99] 90 [120, 99] 50 [108] 40 [120, 108] 10 [120] 9 [105, 120] 5 [118] 4 [105, 118] 1 [105] (2 : Int) 500 [100] (by decide) (by decide) _ k n acc hn (by have := Nat.div_le_self n 500; omega) ha).trans ?_
  rfl

theorem rom_step3 (k f n : Nat) (hf : 10005 ≤ k) (hn : n ≤ 10000) (acc : List UInt8) (ha : acc.length + 2 * n ≤ 100000) (K : List UInt8 → Option (List UInt8)) :
    count_roman.c7 k (f + 1) (n : Int) (1000 : Int) ([109] : List UInt8) (900 : Int) ([99, 109] : List UInt8) (500 : Int) ([100] : List UInt8) (400 : Int) ([99, 100] : List UInt8) (100 : Int) ([99] : List UInt8) (90 : Int) ([120, 99] : List UInt8) (50 : Int) ([108] : List UInt8) (40 : Int) ([120, 108] : List UInt8) (10 : Int) ([120] : List UInt8) (9 : Int) ([105, 120] : List UInt8) (5 : Int) ([118] : List UInt8) (4 : Int) ([105, 118] : List UInt8) (1 : Int) ([105] : List UInt8) (3 : Int) acc K = count_roman.c7 k f ((n % 400 : Nat) : Int) (1000 : Int) ([109] : List UInt8) (900 : Int) ([99, 109] : List UInt8) (500 : Int) ([100] : List UInt8) (400 : Int) ([99, 100] : List UInt8) (100 : Int) ([99] : List UInt8) (90 : Int) ([120, 99] : List UInt8) (50 : Int) ([108] : List UInt8) (40 : Int) ([120, 108] : List UInt8) (10 : Int) ([120] : List UInt8) (9 : Int) ([105, 120] : List UInt8) (5 : Int) ([118] : List UInt8) (4 : Int) ([105, 118] : List UInt8) (1 : Int) ([105] : List UInt8) (4 : Int) (acc ++ (List.replicate (n / 400) [99, 100]).flatten) K := by
  rw [count_roman.c7]
  refine (rom_inner k 1000 [109] 900 [99, 109] 500 [100] 400 [99, 100] 100 [99] 90 [120, 99] 50 [108] 40 [120, 108] 10 [120] 9 [105, 120] 5 [118] 4 [105, 118] 1 [105] (3 : Int) 400 [99, 100] (by decide) (by decide) _ k n acc hn (by have := Nat.div_le_self n 400; omega) ha).trans ?_
  rfl

theorem rom_step4 (k f n : Nat) (hf : 10005 ≤ k) (hn : n ≤ 10000) (acc : List UInt8) (ha : acc.length + 2 * n ≤ 100000) (K : List UInt8 → Option (List UInt8)) :
    count_roman.c7 k (f + 1) (n : Int) (1000 : Int) ([109] : List UInt8) (900 : Int) ([99, 109] : List UInt8) (500 : Int) ([100] : List UInt8) (400 : Int) ([99, 100] : List UInt8) (100 : Int) ([99] : List UInt8) (90 : Int) ([120, 99] : List UInt8) (50 : Int) ([108] : List UInt8) (40 : Int) ([120, 108] : List UInt8) (10 : Int) ([120] : List UInt8) (9 : Int) ([105, 120] : List UInt8) (5 : Int) ([118] : List UInt8) (4 : Int) ([105, 118] : List UInt8) (1 : Int) ([105] : List UInt8) (4 : Int) acc K = count_roman.c7 k f ((n % 100 : Nat) : Int) (1000 : Int) ([109] : List UInt8) (900 : Int) ([99, 109] : List UInt8) (500 : Int) ([100] : List UInt8) (400 : Int) ([99, 100] : List UInt8) (100 : Int) ([99] : List UInt8) (90 : Int) ([120, 99] : List UInt8) (50 : Int) ([108] : List UInt8) (40 : Int) ([120, 108] : List UInt8) (10 : Int) ([120] : List UInt8) (9 : Int) ([105, 120] : List UInt8) (5 : Int) ([118] : List UInt8) (4 : Int) ([105, 118] : List UInt8) (1 : Int) ([105] : List UInt8) (5 : Int) (acc ++ (List.replicate (n / 100) [99]).flatten) K := by
  rw [count_roman.c7]
  refine (rom_inner k 1000 [109] 900 [99, 109] 500 [100] 400 [99, 100] 100 [99] 90 [120, 99] 50 [108] 40 [120, 108] 10 [120] 9 [105, 120] 5 [118] 4 [105, 118] 1 [105] (4 : Int) 100 [99] (by decide) (by decide) _ k n acc hn (by have := Nat.div_le_self n 100; omega) ha).trans ?_
  rfl

theorem rom_step5 (k f n : Nat) (hf : 10005 ≤ k) (hn : n ≤ 10000) (acc : List UInt8) (ha : acc.length + 2 * n ≤ 100000) (K : List UInt8 → Option (List UInt8)) :
    count_roman.c7 k (f + 1) (n : Int) (1000 : Int) ([109] : List UInt8) (900 : Int) ([99, 109] : List UInt8) (500 : Int) ([100] : List UInt8) (400 : Int) ([99, 100] : List UInt8) (100 : Int) ([99] : List UInt8) (90 : Int) ([120, 99] : List UInt8) (50 : Int) ([108] : List UInt8) (40 : Int) ([120, 108] : List UInt8) (10 : Int) ([120] : List UInt8) (9 : Int) ([105, 120] : List UInt8) (5 : Int) ([118] : List UInt8) (4 : Int) ([105, 118] : List UInt8) (1 : Int) ([105] : List UInt8) (5 : Int) acc K = count_roman.c7 k f ((n % 90 : Nat) : Int) (1000 : Int) ([109] : List UInt8) (900 : Int) ([99, 109] : List UInt8) (500 : Int) ([100] : List UInt8) (400 : Int) ([99, 100] : List UInt8) (100 : Int) ([99] : List UInt8) (90 : Int) ([120, 99] : List UInt8) (50 : Int) ([108] : List UInt8) (40 : Int) ([120, 108] : List UInt8) (10 : Int) ([120] : List UInt8) (9 : Int) ([105, 120] : List UInt8) (5 : Int) ([118] : List UInt8) (4 : Int) ([105, 118] : List UInt8) (1 : Int) ([105] : List UInt8) (6 : Int) (acc ++ (List.replicate (n / 90) [120, 99]).flatten) K := by
  rw [count_roman.c7]
  refine (rom_inner k 1000 [109] 900 [99, 109] 500 [100] 400 [99, 100] 100 [99] 90 [120, 99] 50 [108] 40 [120, 108] 10 [120] 9 [105, 120] 5 [118] 4 [105, 118] 1 [105] (5 : Int) 90 [120, 99] (by decide) (by decide) _ k n acc hn (by have := Nat.div_le_self n 90; omega) ha).trans ?_
  rfl

theorem rom_step6 (k f n : Nat) (hf : 10005 ≤ k) (hn : n ≤ 10000) (acc : List UInt8) (ha : acc.length + 2 * n ≤ 100000) (K : List UInt8 → Option (List UInt8)) :
    count_roman.c7 k (f + 1) (n : Int) (1000 : Int) ([109] : List UInt8) (900 : Int) ([99, 109] : List UInt8) (500 : Int) ([100] : List UInt8) (400 : Int) ([99, 100] : List UInt8) (100 : Int) ([99] : List UInt8) (90 : Int) ([120, 99] : List UInt8) (50 : Int) ([108] : List UInt8) (40 : Int) ([120, 108] : List UInt8) (10 : Int) ([120] : List UInt8) (9 : Int) ([105, 120] : List UInt8) (5 : Int) ([118] : List UInt8) (4 : Int) ([105, 118] : List UInt8) (1 : Int) ([105] : List UInt8) (6 : Int) acc K = count_roman.c7 k f ((n % 50 : Nat) : Int) (1000 : Int) ([109] : List UInt8) (900 : Int) ([99, 109] : List UInt8) (500 : Int) ([100] : List UInt8) (400 : Int) ([99, 100] : List UInt8) (100 : Int) ([99] : List UInt8) (90 : Int) ([120, 99] : List UInt8) (50 : Int) ([108] : List UInt8) (40 : Int) ([120, 108] : List UInt8) (10 : Int) ([120] : List UInt8) (9 : Int) ([105, 120] : List UInt8) (5 : Int) ([118] : List UInt8) (4 : Int) ([105, 118] : List UInt8) (1 : Int) ([105] : List UInt8) (7 : Int) (acc ++ (List.replicate (n / 50) [108]).flatten) K := by
  rw [count_roman.c7]
  refine (rom_inner k 1000 [109] 900 [99, 109] 500 [100] 400 [99, 100] 100 [99] 90 [120, 99] 50 [108] 40 [120, 108] 10 [120] 9 [105, 120] 5 [118] 4 [105, 118] 1 [105] (6 : Int) 50 [108] (by decide) (by decide) _ k n acc hn (by have := Nat.div_le_self n 50; omega) ha).trans ?_
  rfl

theorem rom_step7 (k f n : Nat) (hf : 10005 ≤ k) (hn : n ≤ 10000) (acc : List UInt8) (ha : acc.length + 2 * n ≤ 100000) (K : List UInt8 → Option (List UInt8)) :
    count_roman.c7 k (f + 1) (n : Int) (1000 : Int) ([109] : List UInt8) (900 : Int) ([99, 109] : List UInt8) (500 : Int) ([100] : List UInt8) (400 : Int) ([99, 100] : List UInt8) (100 : Int) ([99] : List UInt8) (90 : Int) ([120, 99] : List UInt8) (50 : Int) ([108] : List UInt8) (40 : Int) ([120, 108] : List UInt8) (10 : Int) ([120] : List UInt8) (9 : Int) ([105, 120] : List UInt8) (5 : Int) ([118] : List UInt8) (4 : Int) ([105, 118] : List UInt8) (1 : Int) ([105] : List UInt8) (7 : Int) acc K = count_roman.c7 k f ((n % 40 : Nat) : Int) (1000 : Int) ([109] : List UInt8) (900 : Int) ([99, 109] : List UInt8) (500 : Int) ([100] : List UInt8) (400 : Int) ([99, 100] : List UInt8) (100 : Int) ([99] : List UInt8) (90 : Int) ([120, 99] : List UInt8) (50 : Int) ([108] : List UInt8) (40 : Int) ([120, 108] : List UInt8) (10 : Int) ([120] : List UInt8) (9 : Int) ([105, 120] : List UInt8) (5 : Int) ([118] : List UInt8) (4 : Int) ([105, 118] : List UInt8) (1 : Int) ([105] : List UInt8) (8 : Int) (acc ++ (List.replicate (n / 40) [120, 108]).flatten) K := by
  rw [count_roman.c7]
  refine (rom_inner k 1000 [109] 900 [99, 109] 500 [100] 400 [99, 100] 100 [99] 90 [120, 99] 50 [108] 40 [120, 108] 10 [120] 9 [105, 120] 5 [118] 4 [105, 118] 1 [105] (7 : Int) 40 [120, 108] (by decide) (by decide) _ k n acc hn (by have := Nat.div_le_self n 40; omega) ha).trans ?_
  rfl

theorem rom_step8 (k f n : Nat) (hf : 10005 ≤ k) (hn : n ≤ 10000) (acc : List UInt8) (ha : acc.length + 2 * n ≤ 100000) (K : List UInt8 → Option (List UInt8)) :
    count_roman.c7 k (f + 1) (n : Int) (1000 : Int) ([109] : List UInt8) (900 : Int) ([99, 109] : List UInt8) (500 : Int) ([100] : List UInt8) (400 : Int) ([99, 100] : List UInt8) (100 : Int) ([99] : List UInt8) (90 : Int) ([120, 99] : List UInt8) (50 : Int) ([108] : List UInt8) (40 : Int) ([120, 108] : List UInt8) (10 : Int) ([120] : List UInt8) (9 : Int) ([105, 120] : List UInt8) (5 : Int) ([118] : List UInt8) (4 : Int) ([105, 118] : List UInt8) (1 : Int) ([105] : List UInt8) (8 : Int) acc K = count_roman.c7 k f ((n % 10 : Nat) : Int) (1000 : Int) ([109] : List UInt8) (900 : Int) ([99, 109] : List UInt8) (500 : Int) ([100] : List UInt8) (400 : Int) ([99, 100] : List UInt8) (100 : Int) ([99] : List UInt8) (90 : Int) ([120, 99] : List UInt8) (50 : Int) ([108] : List UInt8) (40 : Int) ([120, 108] : List UInt8) (10 : Int) ([120] : List UInt8) (9 : Int) ([105, 120] : List UInt8) (5 : Int) ([118] : List UInt8) (4 : Int) ([105, 118] : List UInt8) (1 : Int) ([105] : List UInt8) (9 : Int) (acc ++ (List.replicate (n / 10) [120]).flatten) K := by
  rw [count_roman.c7]
  refine (rom_inner k 1000 [109] 900 [99, 109] 500 [100] 400 [99, 100] 100 [99] 90 [120, 99] 50 [108] 40 [120, 108] 10 [120] 9 [105, 120] 5 [118] 4 [105, 118] 1 [105] (8 : Int) 10 [120] (by decide) (by decide) _ k n acc hn (by have := Nat.div_le_self n 10; omega) ha).trans ?_
  rfl

theorem rom_step9 (k f n : Nat) (hf : 10005 ≤ k) (hn : n ≤ 10000) (acc : List UInt8) (ha : acc.length + 2 * n ≤ 100000) (K : List UInt8 → Option (List UInt8)) :
    count_roman.c7 k (f + 1) (n : Int) (1000 : Int) ([109] : List UInt8) (900 : Int) ([99, 109] : List UInt8) (500 : Int) ([100] : List UInt8) (400 : Int) ([99, 100] : List UInt8) (100 : Int) ([99] : List UInt8) (90 : Int) ([120, 99] : List UInt8) (50 : Int) ([108] : List UInt8) (40 : Int) ([120, 108] : List UInt8) (10 : Int) ([120] : List UInt8) (9 : Int) ([105, 120] : List UInt8) (5 : Int) ([118] : List UInt8) (4 : Int) ([105, 118] : List UInt8) (1 : Int) ([105] : List UInt8) (9 : Int) acc K = count_roman.c7 k f ((n % 9 : Nat) : Int) (1000 : Int) ([109] : List UInt8) (900 : Int) ([99, 109] : List UInt8) (500 : Int) ([100] : List UInt8) (400 : Int) ([99, 100] : List UInt8) (100 : Int) ([99] : List UInt8) (90 : Int) ([120, 99] : List UInt8) (50 : Int) ([108] : List UInt8) (40 : Int) ([120, 108] : List UInt8) (10 : Int) ([120] : List UInt8) (9 : Int) ([105, 120] : List UInt8) (5 : Int) ([118] : List UInt8) (4 : Int) ([105, 118] : List UInt8) (1 : Int) ([105] : List UInt8) (10 : Int) (acc ++ (List.replicate (n / 9) [105, 120]).flatten) K := by
  rw [count_roman.c7]
  refine (rom_inner k 1000 [109] 900 [99, 109] 500 [100] 400 [99, 100] 100 [99] 90 [120, 99] 50 [108] 40 [120, 108] 10 [120] 9 [105, 120] 5 [118] 4 [105, 118] 1 [105] (9 : Int) 9 [105, 120] (by decide) (by decide) _ k n acc hn (by have := Nat.div_le_self n 9; omega) ha).trans ?_
  rfl

theorem rom_step10 (k f n : Nat) (hf : 10005 ≤ k) (hn : n ≤ 10000) (acc : List UInt8) (ha : acc.length + 2 * n ≤ 100000) (K : List UInt8 → Option (List UInt8)) :
    count_roman.c7 k (f + 1) (n : Int) (1000 : Int) ([109] : List UInt8) (900 : Int) ([99, 109] : List UInt8) (500 : Int) ([100] : List UInt8) (400 : Int) ([99, 100] : List UInt8) (100 : Int) ([99] : List UInt8) (90 : Int) ([120, 99] : List UInt8) (50 : Int) ([108] : List UInt8) (40 : Int) ([120, 108] : List UInt8) (10 : Int) ([120] : List UInt8) (9 : Int) ([105, 120] : List UInt8) (5 : Int) ([118] : List UInt8) (4 : Int) ([105, 118] : List UInt8) (1 : Int) ([105] : List UInt8) (10 : Int) acc K = count_roman.c7 k f ((n % 5 : Nat) : Int) (1000 : Int) ([109] : List UInt8) (900 : Int) ([99, 109] : List UInt8) (500 : Int) ([100] : List UInt8) (400 : Int) ([99, 100] : List UInt8) (100 : Int) ([99] : List UInt8) (90 : Int) ([120, 99] : List UInt8) (50 : Int) ([108] : List UInt8) (40 : Int) ([120, 108] : List UInt8) (10 : Int) ([120] : List UInt8) (9 : Int) ([105, 120] : List UInt8) (5 : Int) ([118] : List UInt8) (4 : Int) ([105, 118] : List UInt8) (1 : Int) ([105] : List UInt8) (11 : Int) (acc ++ (List.replicate (n / 5) [118]).flatten) K := by
  rw [count_roman.c7]
  refine (rom_inner k 1000 [109] 900 [99, 109] 500 [100] 400 [99, 100] 100 [99] 90 [120, 99] 50 [108] 40 [120, 108] 10 [120] 9 [105, 120] 5 [118] 4 [105, 118] 1 [105] (10 : Int) 5 [118] (by decide) (by decide) _ k n acc hn (by have := Nat.div_le_self n 5; omega) ha).trans ?_
  rfl

theorem rom_step11 (k f n : Nat) (hf : 10005 ≤ k) (hn : n ≤ 10000) (acc : List UInt8) (ha : acc.length + 2 * n ≤ 100000) (K : List UInt8 → Option (List UInt8)) :
    count_roman.c7 k (f + 1) (n : Int) (1000 : Int) ([109] : List UInt8) (900 : Int) ([99, 109] : List UInt8) (500 : Int) ([100] : List UInt8) (400 : Int) ([99, 100] : List UInt8) (100 : Int) ([99] : List UInt8) (90 : Int) ([120, 99] : List UInt8) (50 : Int) ([108] : List UInt8) (40 : Int) ([120, 108] : List UInt8) (10 : Int) ([120] : List UInt8) (9 : Int) ([105, 120] : List UInt8) (5 : Int) ([118] : List UInt8) (4 : Int) ([105, 118] : List UInt8) (1 : Int) ([105] : List UInt8) (11 : Int) acc K = count_roman.c7 k f ((n % 4 : Nat) : Int) (1000 : Int) ([109] : List UInt8) (900 : Int) ([99, 109] : List UInt8) (500 : Int) ([100] : List UInt8) (400 : Int) ([99, 100] : List UInt8) (100 : Int) ([99] : List UInt8) (90 : Int) ([120, 99] : List UInt8) (50 : Int) ([108] : List UInt8) (40 : Int) ([120, 108] : List UInt8) (10 : Int) ([120] : List UInt8) (9 : Int) ([105, 120] : List UInt8) (5 : Int) ([118] : List UInt8) (4 : Int) ([105, 118] : List UInt8) (1 : Int) ([105] : List UInt8) (12 : Int) (acc ++ (List.replicate (n / 4) [105, 118]).flatten) K := by
  rw [count_roman.c7]
  refine (rom_inner k 1000 [109] 900 [99, 109] 500 [100] 400 [99, 100] 100 [99] 90 [120, 99] 50 [108] 40 [120, 108] 10 [120] 9 [105, 120] 5 [118] 4 [105, 118] 1 [105] (11 : Int) 4 [105, 118] (by decide) (by decide) _ k n acc hn (by have := Nat.div_le_self n 4; omega) ha).trans ?_
  rfl

theorem rom_step12 (k f n : Nat) (hf : 10005 ≤ k) (hn : n ≤ 10000) (acc : List UInt8) (ha : acc.length + 2 * n ≤ 100000) (K : List UInt8 → Option (List UInt8)) :
    count_roman.c7 k (f + 1) (n : Int) (1000 : Int) ([109] : List UInt8) (900 : Int) ([99, 109] : List UInt8) (500 : Int) ([100] : List UInt8) (400 : Int) ([99, 100] : List UInt8) (100 : Int) ([99] : List UInt8) (90 : Int) ([120, 99] : List UInt8) (50 : Int) ([108] : List UInt8) (40 : Int) ([120, 108] : List UInt8) (10 : Int) ([120] : List UInt8) (9 : Int) ([105, 120] : List UInt8) (5 : Int) ([118] : List UInt8) (4 : Int) ([105, 118] : List UInt8) (1 : Int) ([105] : List UInt8) (12 : Int) acc K = count_roman.c7 k f ((n % 1 : Nat) : Int) (1000 : Int) ([109] : List UInt8) (900 : Int) ([99, 109] : List UInt8) (500 : Int) ([100] : List UInt8) (400 : Int) ([99, 100] : List UInt8) (100 : Int) ([99] : List UInt8) (90 : Int) ([120, 99] : List UInt8) (50 : Int) ([108] : List UInt8) (40 : Int) ([120, 108] : List UInt8) (10 : Int) ([120] : List UInt8) (9 : Int) ([105, 120] : List UInt8) (5 : Int) ([118] : List UInt8) (4 : Int) ([105, 118] : List UInt8) (1 : Int) ([105] : List UInt8) (13 : Int) (acc ++ (List.replicate (n / 1) [105]).flatten) K := by
  rw [count_roman.c7]
  refine (rom_inner k 1000 [109] 900 [99, 109] 500 [100] 400 [99, 100] 100 [99] 90 [120, 99] 50 [108] 40 [120, 108] 10 [120] 9 [105, 120] 5 [118] 4 [105, 118] 1 [105] (12 : Int) 1 [105] (by decide) (by decide) _ k n acc hn (by have := Nat.div_le_self n 1; omega) ha).trans ?_
  rfl

theorem rom_rep (n d : Nat) (t : List UInt8) (ht : t.length ≤ 2) : (List.replicate (n / d) t).flatten.length ≤ 2 * (n / d) := by
  rw [List.length_flatten, List.map_replicate, List.sum_replicate_nat]
  exact Nat.le_trans (Nat.mul_le_mul_left _ ht) (by omega)

theorem roman_eq (k n : Nat) (hk : 10020 ≤ k) (hn : n ≤ 10000) : count_roman k (n : Int) = some (romS n) := by
  unfold count_roman
  obtain ⟨m, rfl⟩ : ∃ m, k = m + 14 := ⟨k - 14, by omega⟩
  have L : ∀ (n d : Nat) (t : List UInt8), t.length ≤ 2 → (List.replicate (n / d) t).flatten.length ≤ 2 * (n / d) := fun n d t h => rom_rep n d t h
  have D : ∀ (n d : Nat), 2 * (n % d) + 2 * (n / d) ≤ 2 * n := fun n d => by
    rcases Nat.eq_zero_or_pos d with rfl | h
    · simp
    · have h1 := Nat.mod_add_div n d
      have h2 : n / d ≤ d * (n / d) := Nat.le_mul_of_pos_left _ h
      omega
  have e0 : ∃ (n0 : Nat) (s0 : List UInt8), n0 = n ∧ s0 = [] ∧ s0.length + 2 * n0 ≤ 20000 := ⟨n, [], rfl, rfl, by simp; omega⟩
  obtain ⟨n0, s0, hn0, hs0, hb0⟩ := e0
  obtain ⟨n1, hn1⟩ : ∃ x, x = n0 % 1000 := ⟨_, rfl⟩
  obtain ⟨s1, hs1⟩ : ∃ x, x = s0 ++ (List.replicate (n0 / 1000) [109]).flatten := ⟨_, rfl⟩
  have hb1 : s1.length + 2 * n1 ≤ 20000 := by
    rw [hs1, hn1, List.length_append]
    have h1 := L n0 1000 [109] (by decide)
    have h2 := D n0 1000
    omega
  obtain ⟨n2, hn2⟩ : ∃ x, x = n1 % 900 := ⟨_, rfl⟩
  obtain ⟨s2, hs2⟩ : ∃ x, x = s1 ++ (List.replicate (n1 / 900) [99, 109]).flatten := ⟨_, rfl⟩
  have hb2 : s2.length + 2 * n2 ≤ 20000 := by
    rw [hs2, hn2, List.length_append]
    have h1 := L n1 900 [99, 109] (by decide)
    have h2 := D n1 900
    omega
  obtain ⟨n3, hn3⟩ : ∃ x, x = n2 % 500 := ⟨_, rfl⟩
  obtain ⟨s3, hs3⟩ : ∃ x, x = s2 ++ (List.replicate (n2 / 500) [100]).flatten := ⟨_, rfl⟩
  have hb3 : s3.length + 2 * n3 ≤ 20000 := by
    rw [hs3, hn3, List.length_append]
    have h1 := L n2 500 [100] (by decide)
    have h2 := D n2 500
    omega
  obtain ⟨n4, hn4⟩ : ∃ x, x = n3 % 400 := ⟨_, rfl⟩
  obtain ⟨s4, hs4⟩ : ∃ x, x = s3 ++ (List.replicate (n3 / 400) [99, 100]).flatten := ⟨_, rfl⟩
  have hb4 : s4.length + 2 * n4 ≤ 20000 := by
    rw [hs4, hn4, List.length_append]
    have h1 := L n3 400 [99, 100] (by decide)
    have h2 := D n3 400
    omega
  obtain ⟨n5, hn5⟩ : ∃ x, x = n4 % 100 := ⟨_, rfl⟩
  obtain ⟨s5, hs5⟩ : ∃ x, x = s4 ++ (List.replicate (n4 / 100) [99]).flatten := ⟨_, rfl⟩
  have hb5 : s5.length + 2 * n5 ≤ 20000 := by
    rw [hs5, hn5, List.length_append]
    have h1 := L n4 100 [99] (by decide)
    have h2 := D n4 100
    omega
  obtain ⟨n6, hn6⟩ : ∃ x, x = n5 % 90 := ⟨_, rfl⟩
  obtain ⟨s6, hs6⟩ : ∃ x, x = s5 ++ (List.replicate (n5 / 90) [120, 99]).flatten := ⟨_, rfl⟩
  have hb6 : s6.length + 2 * n6 ≤ 20000 := by
    rw [hs6, hn6, List.length_append]
    have h1 := L n5 90 [120, 99] (by decide)
    have h2 := D n5 90
    omega
  obtain ⟨n7, hn7⟩ : ∃ x, x = n6 % 50 := ⟨_, rfl⟩
  obtain ⟨s7, hs7⟩ : ∃ x, x = s6 ++ (List.replicate (n6 / 50) [108]).flatten := ⟨_, rfl⟩
  have hb7 : s7.length + 2 * n7 ≤ 20000 := by
    rw [hs7, hn7, List.length_append]
    have h1 := L n6 50 [108] (by decide)
    have h2 := D n6 50
    omega
  obtain ⟨n8, hn8⟩ : ∃ x, x = n7 % 40 := ⟨_, rfl⟩
  obtain ⟨s8, hs8⟩ : ∃ x, x = s7 ++ (List.replicate (n7 / 40) [120, 108]).flatten := ⟨_, rfl⟩
  have hb8 : s8.length + 2 * n8 ≤ 20000 := by
    rw [hs8, hn8, List.length_append]
    have h1 := L n7 40 [120, 108] (by decide)
    have h2 := D n7 40
    omega
  obtain ⟨n9, hn9⟩ : ∃ x, x = n8 % 10 := ⟨_, rfl⟩
  obtain ⟨s9, hs9⟩ : ∃ x, x = s8 ++ (List.replicate (n8 / 10) [120]).flatten := ⟨_, rfl⟩
  have hb9 : s9.length + 2 * n9 ≤ 20000 := by
    rw [hs9, hn9, List.length_append]
    have h1 := L n8 10 [120] (by decide)
    have h2 := D n8 10
    omega
  obtain ⟨n10, hn10⟩ : ∃ x, x = n9 % 9 := ⟨_, rfl⟩
  obtain ⟨s10, hs10⟩ : ∃ x, x = s9 ++ (List.replicate (n9 / 9) [105, 120]).flatten := ⟨_, rfl⟩
  have hb10 : s10.length + 2 * n10 ≤ 20000 := by
    rw [hs10, hn10, List.length_append]
    have h1 := L n9 9 [105, 120] (by decide)
    have h2 := D n9 9
    omega
  obtain ⟨n11, hn11⟩ : ∃ x, x = n10 % 5 := ⟨_, rfl⟩
  obtain ⟨s11, hs11⟩ : ∃ x, x = s10 ++ (List.replicate (n10 / 5) [118]).flatten := ⟨_, rfl⟩
  have hb11 : s11.length + 2 * n11 ≤ 20000 := by
    rw [hs11, hn11, List.length_append]
    have h1 := L n10 5 [118] (by decide)
    have h2 := D n10 5
    omega
  obtain ⟨n12, hn12⟩ : ∃ x, x = n11 % 4 := ⟨_, rfl⟩
  obtain ⟨s12, hs12⟩ : ∃ x, x = s11 ++ (List.replicate (n11 / 4) [105, 118]).flatten := ⟨_, rfl⟩
  have hb12 : s12.length + 2 * n12 ≤ 20000 := by
    rw [hs12, hn12, List.length_append]
    have h1 := L n11 4 [105, 118] (by decide)
    have h2 := D n11 4
    omega
  obtain ⟨n13, hn13⟩ : ∃ x, x = n12 % 1 := ⟨_, rfl⟩
  obtain ⟨s13, hs13⟩ : ∃ x, x = s12 ++ (List.replicate (n12 / 1) [105]).flatten := ⟨_, rfl⟩
  have hb13 : s13.length + 2 * n13 ≤ 20000 := by
    rw [hs13, hn13, List.length_append]
    have h1 := L n12 1 [105] (by decide)
    have h2 := D n12 1
    omega
  have hz : romS n = s13 := by
    unfold romS romT
    simp only [romF]
    rw [hs13, hs12, hs11, hs10, hs9, hs8, hs7, hs6, hs5, hs4, hs3, hs2, hs1, hs0, hn12, hn11, hn10, hn9, hn8, hn7, hn6, hn5, hn4, hn3, hn2, hn1, hn0]
    simp only [List.append_assoc, List.nil_append, List.append_nil]
  have fin : ∀ K : List UInt8 → Option (List UInt8), count_roman.c7 (m + 14) (m + 14) (n0 : Int) (1000 : Int) ([109] : List UInt8) (900 : Int) ([99, 109] : List UInt8) (500 : Int) ([100] : List UInt8) (400 : Int) ([99, 100] : List UInt8) (100 : Int) ([99] : List UInt8) (90 : Int) ([120, 99] : List UInt8) (50 : Int) ([108] : List UInt8) (40 : Int) ([120, 108] : List UInt8) (10 : Int) ([120] : List UInt8) (9 : Int) ([105, 120] : List UInt8) (5 : Int) ([118] : List UInt8) (4 : Int) ([105, 118] : List UInt8) (1 : Int) ([105] : List UInt8) (0 : Int) s0 K = K s13 := by
    intro K
    rw [rom_step0 (m + 14) (m + 13) n0 (by omega) (by omega) s0 (by omega) K, ← hn1, ← hs1]
    rw [rom_step1 (m + 14) (m + 12) n1 (by omega) (by omega) s1 (by omega) K, ← hn2, ← hs2]
    rw [rom_step2 (m + 14) (m + 11) n2 (by omega) (by omega) s2 (by omega) K, ← hn3, ← hs3]
    rw [rom_step3 (m + 14) (m + 10) n3 (by omega) (by omega) s3 (by omega) K, ← hn4, ← hs4]
    rw [rom_step4 (m + 14) (m + 9) n4 (by omega) (by omega) s4 (by omega) K, ← hn5, ← hs5]
    rw [rom_step5 (m + 14) (m + 8) n5 (by omega) (by omega) s5 (by omega) K, ← hn6, ← hs6]
    rw [rom_step6 (m + 14) (m + 7) n6 (by omega) (by omega) s6 (by omega) K, ← hn7, ← hs7]
    rw [rom_step7 (m + 14) (m + 6) n7 (by omega) (by omega) s7 (by omega) K, ← hn8, ← hs8]
    rw [rom_step8 (m + 14) (m + 5) n8 (by omega) (by omega) s8 (by omega) K, ← hn9, ← hs9]
    rw [rom_step9 (m + 14) (m + 4) n9 (by omega) (by omega) s9 (by omega) K, ← hn10, ← hs10]
    rw [rom_step10 (m + 14) (m + 3) n10 (by omega) (by omega) s10 (by omega) K, ← hn11, ← hs11]
    rw [rom_step11 (m + 14) (m + 2) n11 (by omega) (by omega) s11 (by omega) K, ← hn12, ← hs12]
    rw [rom_step12 (m + 14) (m + 1) n12 (by omega) (by omega) s12 (by omega) K, ← hn13, ← hs13]
    rw [count_roman.c7]
    rfl
  rw [hn0, hs0] at fin
  rw [fin, hz]
  rfl

end Go.Ev.Cm
