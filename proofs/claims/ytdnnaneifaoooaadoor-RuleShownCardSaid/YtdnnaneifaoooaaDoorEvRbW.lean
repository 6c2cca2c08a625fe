/- EvRuT, EvRuU, EvRuC, EvRuD, EvRuE, EvRuF in one: no condition beyond those that each theorem names. -/
import Derived.Test.YtdnnaneifaoooaaDoorEvRb
import Derived.Test.YtdnnaneifaoooaaDoorEvTkS
import Derived.Test.YtdnnaneifaoooaaDoorEvTkW
-- from EvRuT
set_option linter.unusedVariables false
set_option linter.unusedSimpArgs false
set_option linter.constructorNameAsVariable false
set_option maxRecDepth 100000
namespace Go.Ev.Rb
open Go.Ev Go.Ev.Tok

theorem starts_eq (k : Nat) (c : UInt8) : csstok_starts k (c.toNat : Int) = some (isSt c) := by
  have h : ∀ n : Fin 256, csstok_starts 0 ((n.val : Nat) : Int) = some (isSt (UInt8.ofNat n.val)) := by decide +kernel
  have := h ⟨c.toNat, c.toNat_lt⟩
  show csstok_starts 0 _ = _
  simpa using this

theorem digit_eq (k : Nat) (c : UInt8) : csstok_digit k (c.toNat : Int) = some (isDig c) := by
  have h : ∀ n : Fin 256, csstok_digit 0 ((n.val : Nat) : Int) = some (isDig (UInt8.ofNat n.val)) := by decide +kernel
  have := h ⟨c.toNat, c.toNat_lt⟩
  show csstok_digit 0 _ = _
  simpa using this

theorem byte_eq (c d : UInt8) : (((c.toNat : Nat) : Int) == ((d.toNat : Nat) : Int)) = (c == d) := by
  by_cases h : c = d
  · subst h; simp
  · have h2 : c.toNat ≠ d.toNat := fun e => h (UInt8.toNat_inj.1 e)
    have e1 : (((c.toNat : Nat) : Int) == ((d.toNat : Nat) : Int)) = false := by simp; omega
    have e2 : (c == d) = false := by simpa using h
    rw [e1, e2]

theorem sign_eq (k : Nat) (c : UInt8) : csstok_sign k (c.toNat : Int) = some (isSg c) := by
  unfold csstok_sign isSg
  simp only [starts_eq, digit_eq, Option.bind_some]
  have e : (((c.toNat : Nat) : Int) == (45 : Int)) = (c == 45) := byte_eq c 45
  rw [e]
  cases isSt c <;> simp

theorem get_at (s : List UInt8) (i : Nat) (c : UInt8) (r : List UInt8) (h : s.drop i = c :: r) : i < s.length ∧ s.getD i 0 = c ∧ s.drop (i + 1) = r := by
  have hi : i < s.length := by
    rcases Nat.lt_or_ge i s.length with h1 | h1
    · exact h1
    · rw [List.drop_eq_nil_of_le h1] at h; cases h
  rw [List.drop_eq_getElem_cons hi] at h
  simp only [List.cons.injEq] at h
  exact ⟨hi, by rw [List.getD_eq_getElem?_getD, List.getElem?_eq_getElem hi]; simpa using h.1, h.2⟩

theorem escape_eq (k : Nat) (s : List UInt8) : csstok_escape k s = some (esc s) := by
  unfold csstok_escape
  match s with
  | [] => rfl
  | [a] => simp [esc]
  | a :: b :: r =>
    have e1 : (((a.toNat : Nat) : Int) == (92 : Int)) = (a == 92) := byte_eq a 92
    have e2 : (((b.toNat : Nat) : Int) != (10 : Int)) = (b != 10) := by
      show (!(((b.toNat : Nat) : Int) == (10 : Int))) = !(b == 10)
      rw [show (((b.toNat : Nat) : Int) == (10 : Int)) = (b == 10) from byte_eq b 10]
    have h1 : decide (((a :: b :: r).length : Int) > 1) = true := by simp; omega
    have h2 : decide (0 ≤ (0 : Int) ∧ (0 : Int) < ((a :: b :: r).length : Int)) = true := by simp; omega
    have h3 : decide (0 ≤ (1 : Int) ∧ (1 : Int) < ((a :: b :: r).length : Int)) = true := by simp; omega
    simp only [h1, h2, h3, Bool.true_or, cond_true]
    show some (cond (((a.toNat : Nat) : Int) == (92 : Int)) (((b.toNat : Nat) : Int) != (10 : Int)) false) = _
    rw [e1, e2]
    simp only [esc]
    cases (a == 92) <;> rfl

theorem wByte_at (s : List UInt8) (c : UInt8) (h : s.length < 1000000) : wByte s ((c.toNat : Nat) : Int) = some (s ++ [c]) := wByte_ok s c (by unfold blMax; omega)

theorem name_loop (k : Nat) (s : List UInt8) (hs : s.length ≤ 100000) : ∀ (n i : Nat) (acc : List UInt8), i ≤ s.length → s.length - i < n → acc.length ≤ i →
    csstok_name.c7 k n s (i : Int) acc (fun (y17 : Int) (y18 : List UInt8) => (f__strings_Builder__String k y18).bind fun r19 => some (r19.1, y17)) = some (acc ++ (nm (s.drop i)).1, ((i + (nm (s.drop i)).2 : Nat) : Int))
  | 0, i, acc, _, h, _ => by omega
  | n + 1, i, acc, h1, h2, h3 => by
    rw [csstok_name.c7]
    match hd : s.drop i with
    | [] =>
      have : ¬ (i : Int) < (s.length : Int) := by
        intro hlt
        have : s.drop i ≠ [] := by simp; omega
        exact this hd
      simp only []
      rw [cond_ndec this]
      simp [f__strings_Builder__String, nm]
    | c :: r =>
      obtain ⟨g1, g2, g3⟩ := get_at s i c r hd
      have l1 : (i : Int) < (s.length : Int) := by omega
      have l2 : 0 ≤ (i : Int) ∧ (i : Int) ≤ (s.length : Int) := by omega
      have l3 : 0 ≤ (i : Int) ∧ (i : Int) < (s.length : Int) := by omega
      have w1 : IntKind.wrap .i64 ((i : Int) + 1) = ((i + 1 : Nat) : Int) := wrap_i64 (by omega) (by omega)
      have w2 : IntKind.wrap .i64 ((i : Int) + 2) = ((i + 2 : Nat) : Int) := wrap_i64 (by omega) (by omega)
      simp only [w1, w2, Int.toNat_natCast, g2]
      rw [cond_dec l1, cond_dec l2, escape_eq]
      simp only [Option.bind_some]
      match r, g3 with
      | [], g3 =>
        simp only [esc, cond_false, sign_eq, Option.bind_some, f__strings_Builder__WriteByte, wByte_at acc c (by omega)]
        rw [cond_dec l3]
        cases hsg : isSg c with
        | true =>
          simp only [cond_true]
          rw [cond_dec l3, name_loop k s hs n (i + 1) (acc ++ [c]) (by omega) (by omega) (by simp; omega), g3]
          simp [nm, hsg]
        | false => simp [nm, hsg, f__strings_Builder__String]
      | d :: r', g3 =>
        obtain ⟨g4, g5, g6⟩ := get_at s (i + 1) d r' g3
        simp only [esc]
        cases he : (c == 92 && d != 10) with
        | true =>
          simp only [cond_true, g5, f__strings_Builder__WriteByte, wByte_at acc d (by omega), Option.bind_some]
          rw [cond_dec (by omega), name_loop k s hs n (i + 2) (acc ++ [d]) (by omega) (by omega) (by simp; omega), g6]
          simp [nm, he]
          omega
        | false =>
          simp only [cond_false, sign_eq, Option.bind_some, f__strings_Builder__WriteByte, wByte_at acc c (by omega)]
          rw [cond_dec l3]
          cases hsg : isSg c with
          | true =>
            simp only [cond_true]
            rw [cond_dec l3, name_loop k s hs n (i + 1) (acc ++ [c]) (by omega) (by omega) (by simp; omega), g3]
            simp [nm, he, hsg]
            omega
          | false => simp [nm, he, hsg, f__strings_Builder__String]

theorem name_eq (k : Nat) (s : List UInt8) (hs : s.length ≤ 100000) (hk : s.length < k) : csstok_name k s = some ((nm s).1, ((nm s).2 : Int)) := by
  unfold csstok_name
  have := name_loop k s hs k 0 [] (by omega) (by omega) (by simp)
  simpa using this

theorem bne_eq (c d : UInt8) : (((c.toNat : Nat) : Int) != ((d.toNat : Nat) : Int)) = (c != d) := by
  show (!(((c.toNat : Nat) : Int) == ((d.toNat : Nat) : Int))) = !(c == d)
  rw [byte_eq]

theorem begins_eq (k : Nat) (s : List UInt8) : csstok_begins k s = some (bg s) := by
  unfold csstok_begins
  match s with
  | [] => rfl
  | [a] =>
    have h1 : (([a] : List UInt8) == []) = false := rfl
    have e1 : (((a.toNat : Nat) : Int) == (45 : Int)) = (a == 45) := byte_eq a 45
    have e2 : decide ((([a] : List UInt8).length : Int) > 1) = false := by simp
    have e3 : (cond (a == 45) false false) = false := by cases (a == 45) <;> rfl
    have d0 : decide (0 ≤ (0 : Int) ∧ (0 : Int) < (([a] : List UInt8).length : Int)) = true := by simp
    have g0 : ([a] : List UInt8).getD (0 : Int).toNat 0 = a := rfl
    simp only [h1, cond_false, d0, g0, e1, e2, e3, cond_true, starts_eq, escape_eq, Option.bind_some, esc, bg]
    cases isSt a <;> rfl
  | a :: b :: r =>
    have h1 : ((a :: b :: r) == ([] : List UInt8)) = false := rfl
    have e1 : (((a.toNat : Nat) : Int) == (45 : Int)) = (a == 45) := byte_eq a 45
    have e4 : (((b.toNat : Nat) : Int) == (45 : Int)) = (b == 45) := byte_eq b 45
    have d0 : decide (0 ≤ (0 : Int) ∧ (0 : Int) < ((a :: b :: r).length : Int)) = true := by simp; omega
    have d1 : decide (0 ≤ (1 : Int) ∧ (1 : Int) < ((a :: b :: r).length : Int)) = true := by simp; omega
    have d2 : decide (0 ≤ (1 : Int) ∧ (1 : Int) ≤ ((a :: b :: r).length : Int)) = true := by simp; omega
    have d3 : decide (((a :: b :: r).length : Int) > 1) = true := by simp; omega
    have g0 : (a :: b :: r).getD (0 : Int).toNat 0 = a := rfl
    have g1 : (a :: b :: r).getD (1 : Int).toNat 0 = b := rfl
    have g2 : (a :: b :: r).drop (1 : Int).toNat = b :: r := rfl
    simp only [h1, cond_false, d0, d1, d2, d3, g0, g1, g2, e1, e4, cond_true, Bool.true_or, starts_eq, escape_eq, Option.bind_some, bg]
    cases (a == 45) <;> cases (b == 45) <;> cases (isSt a) <;> cases (isSt b) <;> simp

theorem str_ret (k : Nat) (s : List UInt8) : f__strings_Builder__String k s = some (s, s) := rfl

theorem text_loop (k : Nat) (s : List UInt8) (q : UInt8) (hs : s.length ≤ 100000) (h0 : 0 < s.length) (hq : s.getD 0 0 = q) : ∀ (n i : Nat) (acc : List UInt8), i ≤ s.length → s.length - i < n → acc.length ≤ i →
    csstok_text.c7 k n s (i : Int) 0 [] [] 0 acc (fun (y23 : List UInt8) (y24 : Int) (y25 : List UInt8) (y26 : List UInt8) (y27 : Int) => some ((6 : Int), y23, [], (0 : Int))) =
      some (bif (tx q (s.drop i)).1 then ((5 : Int), s.take (i + (tx q (s.drop i)).2.1), acc ++ (tx q (s.drop i)).2.2, (0 : Int)) else ((6 : Int), s.take (i + (tx q (s.drop i)).2.1), [], (0 : Int)))
  | 0, i, acc, _, h, _ => by omega
  | n + 1, i, acc, h1, h2, h3 => by
    rw [csstok_text.c7]
    match hd : s.drop i with
    | [] =>
      have hi : i = s.length := by
        have := congrArg List.length hd
        simp at this; omega
      simp only []
      rw [cond_ndec (show ¬ (i : Int) < (s.length : Int) by omega)]
      simp [tx, hi]
    | c :: r =>
      obtain ⟨g1, g2, g3⟩ := get_at s i c r hd
      have l1 : (i : Int) < (s.length : Int) := by omega
      have l3 : 0 ≤ (i : Int) ∧ (i : Int) < (s.length : Int) := by omega
      have l4 : 0 ≤ (0 : Int) ∧ (0 : Int) < (s.length : Int) := by omega
      have w1 : IntKind.wrap .i64 ((i : Int) + 1) = ((i + 1 : Nat) : Int) := wrap_i64 (by omega) (by omega)
      have w2 : IntKind.wrap .i64 (((i + 1 : Nat) : Int) + 1) = ((i + 2 : Nat) : Int) := wrap_i64 (by omega) (by omega)
      have q0 : s.getD (0 : Int).toNat 0 = q := hq
      simp only [w1, w2, Int.toNat_natCast, g2, q0, byte_eq c q]
      rw [cond_dec l1, cond_dec l3, cond_dec l4]
      have e10 : (((c.toNat : Nat) : Int) == (10 : Int)) = (c == 10) := byte_eq c 10
      have e92 : (((c.toNat : Nat) : Int) == (92 : Int)) = (c == 92) := byte_eq c 92
      rw [e10, e92]
      have lA : 0 ≤ ((i + 1 : Nat) : Int) ∧ ((i + 1 : Nat) : Int) ≤ (s.length : Int) := by omega
      have lB : 0 ≤ (i : Int) ∧ (i : Int) ≤ (s.length : Int) := by omega
      match r, g3 with
      | [], g3 =>
        have hl : i + 1 = s.length := by
          have := congrArg List.length g3
          simp at this; omega
        have e15 : decide (((i + 1 : Nat) : Int) < (s.length : Int)) = false := by simp; omega
        have e16 : (cond (c == 92) false false) = false := by cases (c == 92) <;> rfl
        cases hcq : (c == q) with
        | true =>
          simp only [cond_true, str_ret, Option.bind_some, decide_eq_true lA]
          simp [tx, hcq]
        | false =>
          cases h10 : (c == 10) with
          | true =>
            simp only [cond_true, cond_false, decide_eq_true lB]
            simp [tx, hcq, h10]
          | false =>
            simp only [e15, e16, cond_false, f__strings_Builder__WriteByte, wByte_at acc c (by omega), Option.bind_some]
            rw [text_loop k s q hs h0 hq n (i + 1) (acc ++ [c]) (by omega) (by omega) (by simp; omega), g3]
            simp [tx, hcq, h10]
      | d :: r', g3 =>
        obtain ⟨g4, g5, g6⟩ := get_at s (i + 1) d r' g3
        have e15 : decide (((i + 1 : Nat) : Int) < (s.length : Int)) = true := by simp; omega
        have lC : 0 ≤ ((i + 1 : Nat) : Int) ∧ ((i + 1 : Nat) : Int) < (s.length : Int) := by omega
        cases hcq : (c == q) with
        | true =>
          simp only [cond_true, str_ret, Option.bind_some, decide_eq_true lA]
          simp [tx, hcq]
        | false =>
          cases h10 : (c == 10) with
          | true =>
            simp only [cond_true, cond_false, decide_eq_true lB]
            simp [tx, hcq, h10]
          | false =>
            cases h92 : (c == 92) with
            | true =>
              simp only [e15, cond_true, cond_false, decide_eq_true lC, g5, f__strings_Builder__WriteByte, wByte_at acc d (by omega), Option.bind_some]
              rw [text_loop k s q hs h0 hq n (i + 2) (acc ++ [d]) (by omega) (by omega) (by simp; omega), g6]
              simp only [tx, hcq, h10, h92, cond_true, cond_false, List.append_assoc, List.singleton_append]
              rw [show i + 2 + (tx q r').2.1 = i + ((tx q r').2.1 + 2) by omega]
            | false =>
              simp only [e15, cond_false, f__strings_Builder__WriteByte, wByte_at acc c (by omega), Option.bind_some]
              rw [text_loop k s q hs h0 hq n (i + 1) (acc ++ [c]) (by omega) (by omega) (by simp; omega), g3]
              simp only [tx, hcq, h10, h92, cond_true, cond_false, List.append_assoc, List.singleton_append]
              rw [show i + 1 + (tx q (d :: r')).2.1 = i + ((tx q (d :: r')).2.1 + 1) by omega]

theorem dig_set (c : UInt8) : ([48, 49, 50, 51, 52, 53, 54, 55, 56, 57] : List UInt8).contains c = isDig c := by
  have h : ∀ n : Fin 256, ([48, 49, 50, 51, 52, 53, 54, 55, 56, 57] : List UInt8).contains (UInt8.ofNat n.val) = isDig (UInt8.ofNat n.val) := by decide +kernel
  have := h ⟨c.toNat, c.toNat_lt⟩
  simpa using this

theorem bl_set (c : UInt8) : ([32, 9, 10, 12, 13] : List UInt8).contains c = isBlank c := by
  have h : ∀ n : Fin 256, ([32, 9, 10, 12, 13] : List UInt8).contains (UInt8.ofNat n.val) = isBlank (UInt8.ofNat n.val) := by decide +kernel
  have := h ⟨c.toNat, c.toNat_lt⟩
  simpa using this

theorem trim_dig (k : Nat) (s : List UInt8) : strings_TrimLeft k s ([48, 49, 50, 51, 52, 53, 54, 55, 56, 57] : List UInt8) = some (s.dropWhile isDig) := by
  unfold strings_TrimLeft trimL
  have h : (asciiB [48, 49, 50, 51, 52, 53, 54, 55, 56, 57] && (([48, 49, 50, 51, 52, 53, 54, 55, 56, 57] : List UInt8).length).blt findMax) = true := by decide
  rw [h, cond_true]
  congr 2
  funext c
  exact dig_set c

theorem trim_bl (k : Nat) (s : List UInt8) : strings_TrimLeft k s ([32, 9, 10, 12, 13] : List UInt8) = some (s.dropWhile isBlank) := by
  unfold strings_TrimLeft trimL
  have h : (asciiB [32, 9, 10, 12, 13] && (([32, 9, 10, 12, 13] : List UInt8).length).blt findMax) = true := by decide
  rw [h, cond_true]
  congr 2
  funext c
  exact bl_set c

theorem digits_eq (k : Nat) (s : List UInt8) (hs : s.length ≤ 100000) : csstok_digits k s = some ((cnt isDig s : Nat) : Int) := by
  unfold csstok_digits
  rw [trim_dig]
  simp only [Option.bind_some]
  have h1 := cnt_drop isDig s
  have h2 := cnt_le isDig s
  rw [wrap_i64 (by omega) (by omega)]
  congr 1
  omega

theorem pre_eq (k : Nat) (s : List UInt8) (c : UInt8) : strings_HasPrefix k s [c] = some (match s with | a :: _ => a == c | [] => false) := by
  unfold strings_HasPrefix stringslite_HasPrefix
  match s with
  | [] => rfl
  | a :: r =>
    have h1 : decide (((a :: r).length : Int) ≥ (([c] : List UInt8).length : Int)) = true := by simp; omega
    have h2 : decide (0 ≤ (([c] : List UInt8).length : Int) ∧ (([c] : List UInt8).length : Int) ≤ ((a :: r).length : Int)) = true := by simp; omega
    simp only [h1, h2, Bool.true_or, cond_true, Option.bind_some]
    show some ([a] == [c]) = _
    cases h : a == c
    · have : ([a] == [c]) = false := by simpa using h
      rw [this]
    · have : ([a] == [c]) = true := by simpa using h
      rw [this]

theorem add_eq (k : Nat) (c : UInt8) (n : Int) (h0 : 0 ≤ n) (h1 : n ≤ 1000000000) : csstok_Number_1 k ((c.toNat : Nat) : Int) n = some (addD n c) := by
  unfold csstok_Number_1
  simp only []
  rw [wrap_i64 (n := 10 * n) (by omega) (by omega), wrap_u8, wrap_i64 (n := (((c.toNat : Nat) : Int) - 48) % 256) (by omega) (by omega), wrap_i64 (n := 10 * n + (((c.toNat : Nat) : Int) - 48) % 256) (by omega) (by omega)]
  rfl

theorem get_bytes (l : List UInt8) (i : Nat) (hi : i < l.length) : (bytesI l).getD i 0 = ((l.getD i 0).toNat : Int) := by
  unfold bytesI
  simp [List.getD_eq_getElem?_getD, List.getElem?_eq_getElem hi]

theorem whole_loop (k : Nat) (a b c d : Int) (s l : List UInt8) (hl : l.length ≤ 100000) (K : List UInt8 → Int → Int → Int → Int → Option (Int × Int)) : ∀ (n i : Nat) (m : Int), i ≤ l.length → l.length - i < n → 0 ≤ m → m ≤ 1000000000 →
    csstok_Number.c29 k n s a b c ((bytesI l).length : Int) (i : Int) m (bytesI l) K = K s a b c ((l.drop i).foldl addD m)
  | 0, i, m, _, h, _, _ => by omega
  | n + 1, i, m, h1, h2, h3, h4 => by
    have hlen : (bytesI l).length = l.length := by simp [bytesI]
    rw [csstok_Number.c29]
    match hd : l.drop i with
    | [] =>
      have hi : i = l.length := by
        have := congrArg List.length hd
        simp at this; omega
      rw [cond_ndec (by omega)]
      rfl
    | x :: r =>
      obtain ⟨g1, g2, g3⟩ := get_at l i x r hd
      rw [cond_dec (by omega), cond_dec (by omega)]
      simp only [Int.toNat_natCast, get_bytes l i g1, g2, add_eq k x m h3 h4, Option.bind_some]
      rw [wrap_i64 (n := (i : Int) + 1) (by omega) (by omega)]
      have hb := addD_bd x h3
      have ih := whole_loop k a b c d s l hl K n (i + 1) (addD m x) (by omega) (by omega) hb.1 hb.2
      rw [g3] at ih
      rw [show (i : Int) + 1 = ((i + 1 : Nat) : Int) by omega, ih]
      rfl

theorem frac_step (k n : Nat) (s f : List UInt8) (a m : Int) (i : Nat) (K : List UInt8 → Int → Int → Option (Int × Int)) (hi : i < 3) (h0 : 0 ≤ m) (h1 : m ≤ 1000000000) :
    csstok_Number.c49 k (n + 1) s a f (i : Int) m K = csstok_Number.c49 k n s a f ((i + 1 : Nat) : Int) (addD m (f.getD i 48)) K := by
  rw [csstok_Number.c49, cond_dec (by omega)]
  have w : IntKind.wrap .i64 ((i : Int) + 1) = ((i + 1 : Nat) : Int) := wrap_i64 (by omega) (by omega)
  simp only [w, Int.toNat_natCast]
  by_cases hl : i < f.length
  · rw [cond_dec (by omega), cond_dec (by omega)]
    have e : f.getD i 0 = f.getD i 48 := by rw [List.getD_eq_getElem?_getD, List.getD_eq_getElem?_getD, List.getElem?_eq_getElem hl]; rfl
    rw [e, add_eq k _ m h0 h1]
    rfl
  · rw [cond_ndec (by omega)]
    have e : f.getD i 48 = 48 := by rw [List.getD_eq_getElem?_getD, List.getElem?_eq_none (by omega)]; rfl
    have := add_eq k 48 m h0 h1
    rw [show (((48 : UInt8).toNat : Nat) : Int) = 48 from rfl] at this
    rw [e, this]
    rfl

theorem frac_loop (k n : Nat) (s f : List UInt8) (a m : Int) (K : List UInt8 → Int → Int → Option (Int × Int)) (h0 : 0 ≤ m) (h1 : m ≤ 1000000000) :
    csstok_Number.c49 k (n + 4) s a f 0 m K = K s a (addD (addD (addD m (f.getD 0 48)) (f.getD 1 48)) (f.getD 2 48)) := by
  have b1 := addD_bd (f.getD 0 48) h0
  have b2 := addD_bd (f.getD 1 48) b1.1
  have s0 := frac_step k (n + 3) s f a m 0 K (by omega) h0 h1
  have s1 := frac_step k (n + 2) s f a _ 1 K (by omega) b1.1 b1.2
  have s2 := frac_step k (n + 1) s f a _ 2 K (by omega) b2.1 b2.2
  rw [show ((0 : Nat) : Int) = 0 from rfl] at s0
  rw [s0, s1, s2, csstok_Number.c49, cond_ndec (by omega)]

/-- Behind both parts' digits. -/
theorem num_end (k : Nat) (s f : List UInt8) (m : Int) (e : Nat) (hk : 4 ≤ k) (hs : s ≠ []) (h0 : 0 ≤ m) (h1 : m ≤ 1000000000) :
    csstok_Number.c46 k s (e : Int) f m = some (if s.getD 0 0 = 45 then - addD (addD (addD m (f.getD 0 48)) (f.getD 1 48)) (f.getD 2 48) else addD (addD (addD m (f.getD 0 48)) (f.getD 1 48)) (f.getD 2 48), (e : Int)) := by
  obtain ⟨k, rfl⟩ : ∃ n, k = n + 4 := ⟨k - 4, by omega⟩
  unfold csstok_Number.c46
  rw [frac_loop (k + 4) k s f (e : Int) m _ h0 h1]
  have b1 := addD_bd (f.getD 0 48) h0
  have b2 := addD_bd (f.getD 1 48) b1.1
  have b3 := addD_bd (f.getD 2 48) b2.1
  have hl : 0 < s.length := List.length_pos_iff.2 hs
  obtain ⟨r, hr⟩ : ∃ r, r = addD (addD (addD m (f.getD 0 48)) (f.getD 1 48)) (f.getD 2 48) := ⟨_, rfl⟩
  rw [← hr] at b3 ⊢
  rw [cond_dec (by omega)]
  show cond ((((s.getD 0 0).toNat : Nat) : Int) == (45 : Int)) _ _ = _
  rw [show ((((s.getD 0 0).toNat : Nat) : Int) == (45 : Int)) = (s.getD 0 0 == 45) from byte_eq (s.getD 0 0) 45]
  by_cases h45 : s.getD 0 0 = 45
  · rw [if_pos h45, h45]
    show some (IntKind.wrap .i64 (0 - r), (e : Int)) = _
    rw [wrap_i64 (by omega) (by omega)]
    congr 2
    omega
  · rw [if_neg h45]
    have : (s.getD 0 0 == 45) = false := by simpa using h45
    rw [this]
    rfl

theorem Number_c18 (k : Nat) (s : List UInt8) (g : Nat) (hg : g = sgn s) (hs : s.length ≤ 100000) (hk : s.length + 4 < k) (hne : s ≠ []) :
    csstok_Number.c18 k s (g : Int) ((whl s : Nat) : Int) ((bhd s : Nat) : Int) = some (nval s, ((nlen s : Nat) : Int)) := by
  subst hg
  have hw := whl_le s
  have hb := bhd_le s
  have hbl : bhd s ≤ 100000 := by
    by_cases h : bhd s = 0
    · omega
    · have := hb h; omega
  unfold csstok_Number.c18
  have w1 : IntKind.wrap .i64 (((whl s : Nat) : Int) + ((bhd s : Nat) : Int)) = ((whl s + bhd s : Nat) : Int) := wrap_i64 (by omega) (by omega)
  have w2 : IntKind.wrap .i64 (((sgn s : Nat) : Int) + ((whl s : Nat) : Int)) = ((sgn s + whl s : Nat) : Int) := wrap_i64 (by omega) (by omega)
  simp only [w1, w2]
  by_cases h0 : whl s + bhd s = 0
  · rw [h0]
    unfold nval nlen
    rw [if_pos h0, if_pos h0]
    rfl
  · have hz : (((whl s + bhd s : Nat) : Int) == (0 : Int)) = false := by simp; omega
    rw [hz, cond_false, cond_dec (by omega)]
    have hl : (s.take (((sgn s + whl s : Nat) : Int)).toNat).drop (((sgn s : Nat) : Int)).toNat = (s.drop (sgn s)).take (whl s) := by
      simp only [Int.toNat_natCast]
      rw [List.drop_take]
      congr 1
      omega
    rw [hl]
    have hll : ((s.drop (sgn s)).take (whl s)).length ≤ 100000 := by simp; omega
    have hlk : ((s.drop (sgn s)).take (whl s)).length < k := by simp; omega
    have hwl := fun K => whole_loop k ((sgn s : Nat) : Int) ((whl s : Nat) : Int) ((bhd s : Nat) : Int) 0 s ((s.drop (sgn s)).take (whl s)) hll K k 0 0 (by omega) (by omega) (by omega) (by omega)
    have hf := fold_bd ((s.drop (sgn s)).take (whl s)) 0 (by omega) (by omega)
    refine (hwl _).trans ?_
    simp only [List.drop_zero, w2]
    have hv : nval s = if s.getD 0 0 = 45 then - nabs s else nabs s := by unfold nval; rw [if_neg h0]
    by_cases hb0 : bhd s = 0
    · rw [hb0, cond_ndec (by omega), num_end k s [] _ _ (by omega) hne hf.1 hf.2]
      have hfp : fpart s = [] := by unfold fpart; rw [if_pos hb0]
      have hn : nlen s = sgn s + whl s := by unfold nlen; rw [if_neg h0, if_pos hb0]; rfl
      rw [hv, hn]
      unfold nabs
      rw [hfp]
    · have hbb := hb hb0
      have w3 : IntKind.wrap .i64 (((sgn s + whl s : Nat) : Int) + 1) = ((sgn s + whl s + 1 : Nat) : Int) := wrap_i64 (by omega) (by omega)
      have w4 : IntKind.wrap .i64 (((sgn s + whl s + 1 : Nat) : Int) + ((bhd s : Nat) : Int)) = ((sgn s + whl s + 1 + bhd s : Nat) : Int) := wrap_i64 (by omega) (by omega)
      have w5 : IntKind.wrap .i64 ((1 : Int) + ((bhd s : Nat) : Int)) = ((1 + bhd s : Nat) : Int) := wrap_i64 (by omega) (by omega)
      have w6 : IntKind.wrap .i64 (((sgn s + whl s : Nat) : Int) + ((1 + bhd s : Nat) : Int)) = ((sgn s + whl s + (1 + bhd s) : Nat) : Int) := wrap_i64 (by omega) (by omega)
      rw [cond_dec (by omega)]
      simp only [w3, w4, w5, w6]
      rw [cond_dec (by omega)]
      have hfp : (s.take (((sgn s + whl s + 1 + bhd s : Nat) : Int)).toNat).drop (((sgn s + whl s + 1 : Nat) : Int)).toNat = fpart s := by
        unfold fpart
        rw [if_neg hb0]
        simp only [Int.toNat_natCast]
        rw [List.drop_take]
        congr 1
        omega
      rw [hfp, num_end k s (fpart s) _ _ (by omega) hne hf.1 hf.2]
      have hn : nlen s = sgn s + whl s + (1 + bhd s) := by unfold nlen; rw [if_neg h0, if_neg hb0]
      rw [hv, hn]
      rfl

theorem Number_c8 (k : Nat) (s : List UInt8) (g : Nat) (hg : g = sgn s) (hs : s.length ≤ 100000) (hk : s.length + 4 < k) (hne : s ≠ []) :
    csstok_Number.c8 k s (g : Int) = some (nval s, ((nlen s : Nat) : Int)) := by
  have hw := whl_le s
  unfold csstok_Number.c8
  rw [cond_dec (by have := (sgn_le s).1; omega)]
  simp only [Int.toNat_natCast]
  rw [digits_eq k _ (by simp; omega)]
  simp only [Option.bind_some]
  have e1 : cnt isDig (s.drop g) = whl s := by rw [hg]; rfl
  rw [e1]
  have w2 : IntKind.wrap .i64 ((g : Int) + ((whl s : Nat) : Int)) = ((g + whl s : Nat) : Int) := wrap_i64 (by omega) (by omega)
  simp only [w2, Int.toNat_natCast]
  rw [cond_dec (by omega), pre_eq]
  simp only [Option.bind_some]
  have hbd : bhd s = frc (s.drop (g + whl s)) := by rw [hg]; rfl
  cases hd : s.drop (g + whl s) with
  | nil =>
    have hb : bhd s = 0 := by rw [hbd, hd]; rfl
    have := Number_c18 k s g hg hs hk hne
    rw [hb] at this
    exact this
  | cons a r =>
    have hl := congrArg List.length hd
    simp only [List.length_drop, List.length_cons] at hl
    cases h46 : (a == 46) with
    | false =>
      have hb : bhd s = 0 := by rw [hbd, hd]; simp [frc, h46]
      have := Number_c18 k s g hg hs hk hne
      rw [hb] at this
      show cond (a == 46) _ _ = _
      rw [h46]
      exact this
    | true =>
      have hb : bhd s = cnt isDig r := by rw [hbd, hd]; simp [frc, h46]
      show cond (a == 46) _ _ = _
      rw [h46, cond_true, cond_dec (by simp; omega)]
      show ((csstok_digits k r).bind _) = _
      rw [digits_eq k r (by omega)]
      simp only [Option.bind_some]
      rw [← hb]
      exact Number_c18 k s g hg hs hk hne

theorem Number_eq (k : Nat) (s : List UInt8) (hs : s.length ≤ 100000) (hk : s.length + 4 < k) (hne : s ≠ []) :
    csstok_Number k s = some (nval s, ((nlen s : Nat) : Int)) := by
  unfold csstok_Number
  match s, hne with
  | a :: r, hne =>
    have h1 : ((a :: r) == ([] : List UInt8)) = false := rfl
    have d0 : decide (0 ≤ (0 : Int) ∧ (0 : Int) < ((a :: r).length : Int)) = true := by simp
    have g0 : (a :: r).getD (0 : Int).toNat 0 = a := rfl
    have e43 : (((a.toNat : Nat) : Int) == (43 : Int)) = (a == 43) := byte_eq a 43
    have e45 : (((a.toNat : Nat) : Int) == (45 : Int)) = (a == 45) := byte_eq a 45
    simp only [h1, d0, g0, e43, e45, Bool.true_or, cond_true, Bool.not_false]
    have hc : (cond (a == 43) true (a == 45)) = (a == 43 || a == 45) := by cases (a == 43) <;> rfl
    rw [hc]
    cases hs' : (a == 43 || a == 45) with
    | true => exact Number_c8 k (a :: r) 1 (by simp [sgn, hs']) hs hk hne
    | false => exact Number_c8 k (a :: r) 0 (by simp [sgn, hs']) hs hk hne

theorem text_eq (k : Nat) (s : List UInt8) (hs : s.length ≤ 100000) (hk : s.length < k) (h0 : 0 < s.length) :
    csstok_text k s = some (bif (tx (s.getD 0 0) (s.drop 1)).1 then ((5 : Int), s.take (1 + (tx (s.getD 0 0) (s.drop 1)).2.1), (tx (s.getD 0 0) (s.drop 1)).2.2, (0 : Int)) else ((6 : Int), s.take (1 + (tx (s.getD 0 0) (s.drop 1)).2.1), [], (0 : Int))) := by
  unfold csstok_text
  have := text_loop k s (s.getD 0 0) hs h0 rfl k 1 [] (by omega) (by omega) (by simp)
  simpa using this

theorem lowB_eq (c : UInt8) : (bif (cond (decide (((c.toNat : Nat) : Int) ≥ 65)) (decide (((c.toNat : Nat) : Int) ≤ 90)) false) then IntKind.wrap .u8 (((c.toNat : Nat) : Int) + 32) else ((c.toNat : Nat) : Int)) = (((lowB c).toNat : Nat) : Int) := by
  have h : ∀ n : Fin 256, (bif (cond (decide (((n.val : Nat) : Int) ≥ 65)) (decide (((n.val : Nat) : Int) ≤ 90)) false) then IntKind.wrap .u8 (((n.val : Nat) : Int) + 32) else ((n.val : Nat) : Int)) = (((lowB (UInt8.ofNat n.val)).toNat : Nat) : Int) := by decide +kernel
  have := h ⟨c.toNat, c.toNat_lt⟩
  simpa using this

theorem bytesU_I (l : List UInt8) : bytesU (bytesI l) = l := by
  unfold bytesU bytesI
  rw [List.map_map]
  conv => rhs; rw [← List.map_id l]
  congr 1
  funext c
  simp

theorem lower_loop (k : Nat) (l : List UInt8) (hl : l.length ≤ 100000) : ∀ (n i : Nat), i ≤ l.length → l.length - i < n →
    csstok_lower.c7 k n ((bytesI l).length : Int) (i : Int) (bytesI ((l.take i).map lowB ++ l.drop i)) (fun y10 => some (bytesU y10)) = some (l.map lowB)
  | 0, i, _, h => by omega
  | n + 1, i, h1, h2 => by
    have hlen : (bytesI l).length = l.length := by simp [bytesI]
    rw [csstok_lower.c7]
    match hd : l.drop i with
    | [] =>
      have hi : i = l.length := by
        have := congrArg List.length hd
        simp at this; omega
      rw [cond_ndec (by omega)]
      subst hi
      simp [bytesU_I]
    | c :: r =>
      obtain ⟨g1, g2, g3⟩ := get_at l i c r hd
      have hll : (bytesI ((l.take i).map lowB ++ c :: r)).length = l.length := by
        have := congrArg List.length hd
        simp at this
        simp [bytesI]; omega
      have htl : ((l.take i).map lowB).length = i := by simp; omega
      have hg : (bytesI ((l.take i).map lowB ++ c :: r)).getD i 0 = ((c.toNat : Nat) : Int) := by
        rw [get_bytes _ i (by simp; omega), List.getD_eq_getElem?_getD, List.getElem?_append_right (by omega), htl]
        simp
      rw [cond_dec (by omega), cond_dec (by omega)]
      simp only [Int.toNat_natCast, hg]
      rw [wrap_i64 (n := (i : Int) + 1) (by omega) (by omega)]
      have hset : (bytesI ((l.take i).map lowB ++ c :: r)).set i (((lowB c).toNat : Nat) : Int) = bytesI ((l.take (i + 1)).map lowB ++ l.drop (i + 1)) := by
        rw [g3]
        unfold bytesI
        rw [List.map_append, List.set_append_right _ _ (by simp; omega)]
        have : i - (((l.take i).map lowB).map fun b => ((b.toNat : Nat) : Int)).length = 0 := by simp; omega
        rw [this]
        have ht : l.take (i + 1) = l.take i ++ [c] := by
          rw [List.take_add_one, List.getElem?_eq_getElem g1]
          rw [List.getD_eq_getElem?_getD, List.getElem?_eq_getElem g1] at g2
          simp at g2
          simp [g2]
        rw [ht]
        simp
      have hlow := lowB_eq c
      have ih := lower_loop k l hl n (i + 1) (by omega) (by omega)
      rw [show ((i + 1 : Nat) : Int) = (i : Int) + 1 by omega] at ih
      cases hb : (cond (decide (((c.toNat : Nat) : Int) ≥ 65)) (decide (((c.toNat : Nat) : Int) ≤ 90)) false) with
      | true =>
        rw [hb, cond_true] at hlow
        rw [cond_true, cond_dec (by omega), hlow, hset]
        exact ih
      | false =>
        rw [hb, cond_false] at hlow
        rw [cond_false]
        have hc : c = lowB c := UInt8.toNat_inj.1 (by omega)
        have e : bytesI ((l.take i).map lowB ++ c :: r) = bytesI ((l.take (i + 1)).map lowB ++ l.drop (i + 1)) := by
          rw [← hset, ← hlow, ← hg]
          apply List.ext_getElem
          · simp
          · intro j hj hj'
            rw [List.getElem_set]
            split
            · rename_i hij; subst hij
              rw [List.getD_eq_getElem?_getD, List.getElem?_eq_getElem hj]; rfl
            · rfl
        rw [e]
        exact ih

theorem lower_eq (k : Nat) (l : List UInt8) (hl : l.length ≤ 100000) (hk : l.length < k) : csstok_lower k l = some (l.map lowB) := by
  unfold csstok_lower
  have := lower_loop k l hl k 0 (by omega) (by omega)
  simpa using this

theorem pre_hd (k : Nat) (s : List UInt8) (c : UInt8) : strings_HasPrefix k s [c] = some (hd1 s c) := pre_eq k s c

theorem hd1_len {s : List UInt8} {c : UInt8} (h : hd1 s c = true) : 0 < s.length := by
  cases s with
  | nil => simp [hd1] at h
  | cons a r => simp

theorem number_eq (k : Nat) (s : List UInt8) (hs : s.length ≤ 100000) (hk : s.length < k) :
    csstok_number k s (nval s) ((nlen s : Nat) : Int) = some ((numT s).1, s.take (numT s).2.1, (numT s).2.2.1, (numT s).2.2.2) := by
  have hn := nlen_le s
  unfold csstok_number
  rw [cond_dec (by omega), cond_dec (by omega)]
  simp only [Int.toNat_natCast]
  rw [pre_hd]
  simp only [Option.bind_some]
  unfold numT
  cases h37 : hd1 (s.drop (nlen s)) 37 with
  | true =>
    have := hd1_len h37
    simp only [List.length_drop] at this
    have w : IntKind.wrap .i64 (((nlen s : Nat) : Int) + 1) = ((nlen s + 1 : Nat) : Int) := wrap_i64 (by omega) (by omega)
    simp only [cond_true, w]
    rw [cond_dec (by omega)]
    rfl
  | false =>
    simp only [cond_false, begins_eq, Option.bind_some]
    cases hb : bg (s.drop (nlen s)) with
    | true =>
      have h1 := nm_le (s.drop (nlen s))
      have h2 := nm_len (s.drop (nlen s))
      simp only [List.length_drop] at h1
      have w : IntKind.wrap .i64 (((nlen s : Nat) : Int) + (((nm (s.drop (nlen s))).2 : Nat) : Int)) = ((nlen s + (nm (s.drop (nlen s))).2 : Nat) : Int) := wrap_i64 (by omega) (by omega)
      simp only [cond_true]
      rw [name_eq k _ (by simp; omega) (by simp; omega)]
      simp only [Option.bind_some, w]
      rw [cond_dec (by omega), lower_eq k _ (by omega) (by omega)]
      rfl
    | false => rfl

theorem named_eq (k : Nat) (s : List UInt8) (kind : Int) (a : Nat) (ha : a ≤ s.length) (hs : s.length ≤ 100000) (hk : s.length < k) :
    csstok_named k kind s (a : Int) = some (kind, s.take (a + (nm (s.drop a)).2), (nm (s.drop a)).1, 0) := by
  unfold csstok_named
  have h1 := nm_le (s.drop a)
  simp only [List.length_drop] at h1
  rw [cond_dec (by omega)]
  simp only [Int.toNat_natCast]
  rw [name_eq k _ (by simp; omega) (by simp; omega)]
  have w : IntKind.wrap .i64 ((a : Int) + (((nm (s.drop a)).2 : Nat) : Int)) = ((a + (nm (s.drop a)).2 : Nat) : Int) := wrap_i64 (by omega) (by omega)
  simp only [Option.bind_some, w]
  rw [cond_dec (by omega)]
  rfl

theorem nameT_eq (k : Nat) (s : List UInt8) (hs : s.length ≤ 100000) (hk : s.length < k) :
    ((csstok_named k (1 : Int) s (0 : Int)).bind fun r28 =>
      cond (decide (0 ≤ (r28.2.1.length : Int) ∧ (r28.2.1.length : Int) ≤ (s.length : Int))) (
      let v29 : List UInt8 := (s.drop (r28.2.1.length : Int).toNat)
      (strings_HasPrefix k v29 ([40] : List UInt8)).bind fun r30 =>
      cond r30 (
      let v31 : Int := (IntKind.wrap .i64 ((r28.2.1.length : Int) + (1 : Int)))
      cond (decide (0 ≤ v31 ∧ v31 ≤ (s.length : Int))) (
      csstok_first.c52 k (0 : Int) ([]) ([]) (0 : Int) (2 : Int) (s.take v31.toNat) r28.2.2.1 r28.2.2.2) none) (
      csstok_first.c52 k (0 : Int) ([]) ([]) (0 : Int) r28.1 r28.2.1 r28.2.2.1 r28.2.2.2)) none) = some ((nameT s).1, s.take (nameT s).2.1, (nameT s).2.2.1, (nameT s).2.2.2) := by
  have h1 := nm_le s
  have hn := named_eq k s 1 0 (Nat.zero_le _) hs hk
  rw [show ((0 : Nat) : Int) = 0 from rfl] at hn
  rw [hn]
  have hl : (s.take (0 + (nm (s.drop 0)).2)).length = (nm s).2 := by simp; omega
  simp only [Option.bind_some, hl, Int.toNat_natCast]
  rw [cond_dec (by omega), pre_hd]
  simp only [Option.bind_some]
  unfold nameT
  cases h40 : hd1 (s.drop (nm s).2) 40 with
  | true =>
    have := hd1_len h40
    simp only [List.length_drop] at this
    have w : IntKind.wrap .i64 (((nm s).2 : Int) + 1) = (((nm s).2 + 1 : Nat) : Int) := wrap_i64 (by omega) (by omega)
    simp only [cond_true, w]
    rw [cond_dec (by omega)]
    simp [csstok_first.c52]
  | false => simp [csstok_first.c52]

/-- A token, as the cutter gives it. -/
theorem one_eq (k : Nat) (kind : Int) (s : List UInt8) (h : 0 < s.length) : csstok_first_1 k kind s = some (kind, s.take 1, [], 0, s) := by
  unfold csstok_first_1
  rw [cond_dec (by omega)]
  rfl

theorem c76_eq (k : Nat) (a b : Int) (x y : List UInt8) (s : List UInt8) (h : 0 < s.length) : csstok_first.c76 k a x y b s = some (12, s.take 1, [], 0) := by
  unfold csstok_first.c76
  rw [one_eq k 12 s h]
  rfl

theorem cut_eq2 (k : Nat) (s : List UInt8) (c d : UInt8) : strings_CutPrefix k s [c, d] = some (bif hd1 s c && hd1 (s.drop 1) d then (s.drop 2, true) else (s, false)) := by
  unfold strings_CutPrefix stringslite_CutPrefix stringslite_HasPrefix
  match s with
  | [] => rfl
  | [a] => 
    have h1 : decide ((([a] : List UInt8).length : Int) ≥ (([c, d] : List UInt8).length : Int)) = false := by simp
    have h2 : decide (0 ≤ (([c, d] : List UInt8).length : Int) ∧ (([c, d] : List UInt8).length : Int) ≤ (([a] : List UInt8).length : Int)) = false := by simp
    simp only [h1, h2, Bool.not_false, Bool.or_true, cond_true, Option.bind_some, cond_false]
    show some (([a] : List UInt8), false) = _
    have : hd1 ([a].drop 1) d = false := rfl
    rw [this, Bool.and_false, cond_false]
  | a :: b :: r =>
    have h1 : decide (((a :: b :: r).length : Int) ≥ (([c, d] : List UInt8).length : Int)) = true := by simp; omega
    have h2 : decide (0 ≤ (([c, d] : List UInt8).length : Int) ∧ (([c, d] : List UInt8).length : Int) ≤ ((a :: b :: r).length : Int)) = true := by simp; omega
    simp only [h1, h2, Bool.true_or, cond_true, Option.bind_some]
    have e : ((a :: b :: r).take ((([c, d] : List UInt8).length : Int)).toNat == [c, d]) = (a == c && b == d) := by
      show ([a, b] == [c, d]) = _
      cases h : (a == c) <;> cases h' : (b == d) <;> simp_all
    have hR : (hd1 (a :: b :: r) c && hd1 ((a :: b :: r).drop 1) d) = (a == c && b == d) := rfl
    rw [e, hR]
    cases (a == c && b == d) <;> rfl

def numB (k : Nat) (a1 : List UInt8) : Option (Int × (List UInt8) × (List UInt8) × Int) :=
(csstok_Number k a1).bind fun r25 =>
cond (decide (r25.2 > (0 : Int))) (
(csstok_number k a1 r25.1 r25.2).bind fun r26 =>
some (r26.1, r26.2.1, r26.2.2.1, r26.2.2.2)) (
(csstok_begins k a1).bind fun r27 =>
cond r27 (
(csstok_named k (1 : Int) a1 (0 : Int)).bind fun r28 =>
cond (decide (0 ≤ (r28.2.1.length : Int) ∧ (r28.2.1.length : Int) ≤ (a1.length : Int))) (
let v29 : List UInt8 := (a1.drop (r28.2.1.length : Int).toNat)
(strings_HasPrefix k v29 ([40] : List UInt8)).bind fun r30 =>
cond r30 (
let v31 : Int := (IntKind.wrap .i64 ((r28.2.1.length : Int) + (1 : Int)))
cond (decide (0 ≤ v31 ∧ v31 ≤ (a1.length : Int))) (
csstok_first.c52 k (0 : Int) ([]) ([]) (0 : Int) (2 : Int) (a1.take v31.toNat) r28.2.2.1 r28.2.2.2) none) (
csstok_first.c52 k (0 : Int) ([]) ([]) (0 : Int) r28.1 r28.2.1 r28.2.2.1 r28.2.2.2)) none) (
cond (decide (0 ≤ (0 : Int) ∧ (0 : Int) < (a1.length : Int))) (
let v40 : Int := ((a1.getD (0 : Int).toNat 0).toNat : Int)
cond (v40 == (40 : Int)) (
cond (v40 == (40 : Int)) (
(csstok_first_1 k (10 : Int) a1).bind fun r41 =>
some (r41.1, r41.2.1, r41.2.2.1, r41.2.2.2.1)) (
cond (v40 == (41 : Int)) (
cond (v40 == (41 : Int)) (
(csstok_first_1 k (11 : Int) a1).bind fun r42 =>
some (r42.1, r42.2.1, r42.2.2.1, r42.2.2.2.1)) (
cond (v40 == (92 : Int)) (
(csstok_first_1 k (6 : Int) a1).bind fun r43 =>
some (r43.1, r43.2.1, r43.2.2.1, r43.2.2.2.1)) (
csstok_first.c76 k (0 : Int) ([]) ([]) (0 : Int) a1))) (
cond (v40 == (93 : Int)) (
cond (v40 == (93 : Int)) (
(csstok_first_1 k (11 : Int) a1).bind fun r50 =>
some (r50.1, r50.2.1, r50.2.2.1, r50.2.2.2.1)) (
cond (v40 == (92 : Int)) (
(csstok_first_1 k (6 : Int) a1).bind fun r51 =>
some (r51.1, r51.2.1, r51.2.2.1, r51.2.2.2.1)) (
csstok_first.c76 k (0 : Int) ([]) ([]) (0 : Int) a1))) (
cond (v40 == (125 : Int)) (
(csstok_first_1 k (11 : Int) a1).bind fun r52 =>
some (r52.1, r52.2.1, r52.2.2.1, r52.2.2.2.1)) (
cond (v40 == (92 : Int)) (
(csstok_first_1 k (6 : Int) a1).bind fun r53 =>
some (r53.1, r53.2.1, r53.2.2.1, r53.2.2.2.1)) (
csstok_first.c76 k (0 : Int) ([]) ([]) (0 : Int) a1)))))) (
cond (v40 == (91 : Int)) (
cond (v40 == (91 : Int)) (
(csstok_first_1 k (10 : Int) a1).bind fun r54 =>
some (r54.1, r54.2.1, r54.2.2.1, r54.2.2.2.1)) (
cond (v40 == (41 : Int)) (
cond (v40 == (41 : Int)) (
(csstok_first_1 k (11 : Int) a1).bind fun r55 =>
some (r55.1, r55.2.1, r55.2.2.1, r55.2.2.2.1)) (
cond (v40 == (92 : Int)) (
(csstok_first_1 k (6 : Int) a1).bind fun r56 =>
some (r56.1, r56.2.1, r56.2.2.1, r56.2.2.2.1)) (
csstok_first.c76 k (0 : Int) ([]) ([]) (0 : Int) a1))) (
cond (v40 == (93 : Int)) (
cond (v40 == (93 : Int)) (
(csstok_first_1 k (11 : Int) a1).bind fun r57 =>
some (r57.1, r57.2.1, r57.2.2.1, r57.2.2.2.1)) (
cond (v40 == (92 : Int)) (
(csstok_first_1 k (6 : Int) a1).bind fun r58 =>
some (r58.1, r58.2.1, r58.2.2.1, r58.2.2.2.1)) (
csstok_first.c76 k (0 : Int) ([]) ([]) (0 : Int) a1))) (
cond (v40 == (125 : Int)) (
(csstok_first_1 k (11 : Int) a1).bind fun r59 =>
some (r59.1, r59.2.1, r59.2.2.1, r59.2.2.2.1)) (
cond (v40 == (92 : Int)) (
(csstok_first_1 k (6 : Int) a1).bind fun r60 =>
some (r60.1, r60.2.1, r60.2.2.1, r60.2.2.2.1)) (
csstok_first.c76 k (0 : Int) ([]) ([]) (0 : Int) a1)))))) (
cond (v40 == (123 : Int)) (
(csstok_first_1 k (10 : Int) a1).bind fun r61 =>
some (r61.1, r61.2.1, r61.2.2.1, r61.2.2.2.1)) (
cond (v40 == (41 : Int)) (
cond (v40 == (41 : Int)) (
(csstok_first_1 k (11 : Int) a1).bind fun r62 =>
some (r62.1, r62.2.1, r62.2.2.1, r62.2.2.2.1)) (
cond (v40 == (92 : Int)) (
(csstok_first_1 k (6 : Int) a1).bind fun r63 =>
some (r63.1, r63.2.1, r63.2.2.1, r63.2.2.2.1)) (
csstok_first.c76 k (0 : Int) ([]) ([]) (0 : Int) a1))) (
cond (v40 == (93 : Int)) (
cond (v40 == (93 : Int)) (
(csstok_first_1 k (11 : Int) a1).bind fun r64 =>
some (r64.1, r64.2.1, r64.2.2.1, r64.2.2.2.1)) (
cond (v40 == (92 : Int)) (
(csstok_first_1 k (6 : Int) a1).bind fun r65 =>
some (r65.1, r65.2.1, r65.2.2.1, r65.2.2.2.1)) (
csstok_first.c76 k (0 : Int) ([]) ([]) (0 : Int) a1))) (
cond (v40 == (125 : Int)) (
(csstok_first_1 k (11 : Int) a1).bind fun r66 =>
some (r66.1, r66.2.1, r66.2.2.1, r66.2.2.2.1)) (
cond (v40 == (92 : Int)) (
(csstok_first_1 k (6 : Int) a1).bind fun r67 =>
some (r67.1, r67.2.1, r67.2.2.1, r67.2.2.2.1)) (
csstok_first.c76 k (0 : Int) ([]) ([]) (0 : Int) a1)))))))) none))

def tailB (k : Nat) (a1 : List UInt8) (v12 : Int) : Option (Int × (List UInt8) × (List UInt8) × Int) :=
cond ((decide (0 ≤ (1 : Int) ∧ (1 : Int) ≤ (a1.length : Int))) || !(v12 == (64 : Int))) (
(cond (v12 == (64 : Int)) (csstok_begins k (a1.drop (1 : Int).toNat)) (some false)).bind fun r22 =>
let v23 : Bool := (cond (v12 == (64 : Int)) r22 false)
cond v23 (
(csstok_named k (3 : Int) a1 (1 : Int)).bind fun r24 =>
some (r24.1, r24.2.1, r24.2.2.1, r24.2.2.2)) (
numB k a1)) none

def hashB (k : Nat) (a1 : List UInt8) (v12 : Int) : Option (Int × (List UInt8) × (List UInt8) × Int) :=
let v15 : Bool := (decide ((a1.length : Int) > (1 : Int)))
let v16 : Bool := (cond (v12 == (35 : Int)) v15 false)
cond ((decide (0 ≤ (1 : Int) ∧ (1 : Int) < (a1.length : Int))) || !v16) (
let v17 : Int := ((a1.getD (1 : Int).toNat 0).toNat : Int)
(cond v16 (csstok_sign k v17) (some false)).bind fun r18 =>
cond ((decide (0 ≤ (1 : Int) ∧ (1 : Int) ≤ (a1.length : Int))) || !(v16 && (!r18))) (
(cond (v16 && (!r18)) (csstok_escape k (a1.drop (1 : Int).toNat)) (some false)).bind fun r19 =>
let v20 : Bool := (cond v16 (cond r18 true r19) false)
cond v20 (
(csstok_named k (4 : Int) a1 (1 : Int)).bind fun r21 =>
some (r21.1, r21.2.1, r21.2.2.1, r21.2.2.2)) (
tailB k a1 v12)) none) none

theorem numB_eq (k : Nat) (s : List UInt8) (hs : s.length ≤ 100000) (hk : s.length + 4 < k) (hne : s ≠ []) :
    numB k s = some (tokO s (if nlen s > 0 then numT s else bif bg s then nameT s else (oneK (s.getD 0 0), 1, [], 0))) := by
  have hl : 0 < s.length := List.length_pos_iff.2 hne
  unfold numB
  rw [Number_eq k s hs hk hne]
  simp only [Option.bind_some]
  by_cases hn : nlen s > 0
  · rw [if_pos hn, cond_dec (by omega), number_eq k s hs (by omega)]
    rfl
  · rw [if_neg hn, cond_ndec (by omega), begins_eq]
    simp only [Option.bind_some]
    cases hb : bg s with
    | true =>
      simp only [cond_true]
      exact nameT_eq k s hs (by omega)
    | false =>
      simp only [cond_false]
      rw [cond_dec (by omega)]
      obtain ⟨c, hc⟩ : ∃ c, c = s.getD 0 0 := ⟨_, rfl⟩
      have e40 : (((c.toNat : Nat) : Int) == (40 : Int)) = (c == 40) := byte_eq c 40
      have e41 : (((c.toNat : Nat) : Int) == (41 : Int)) = (c == 41) := byte_eq c 41
      have e92 : (((c.toNat : Nat) : Int) == (92 : Int)) = (c == 92) := byte_eq c 92
      have e91 : (((c.toNat : Nat) : Int) == (91 : Int)) = (c == 91) := byte_eq c 91
      have e93 : (((c.toNat : Nat) : Int) == (93 : Int)) = (c == 93) := byte_eq c 93
      have e123 : (((c.toNat : Nat) : Int) == (123 : Int)) = (c == 123) := byte_eq c 123
      have e125 : (((c.toNat : Nat) : Int) == (125 : Int)) = (c == 125) := byte_eq c 125
      have g0 : s.getD (0 : Int).toNat 0 = c := hc.symm
      simp only [g0, ← hc, e40, e41, e92, e91, e93, e123, e125, one_eq k _ s hl, c76_eq k _ _ _ _ s hl, Option.bind_some]
      unfold oneK tokO
      by_cases h1 : c = 40
      · subst h1; rfl
      by_cases h2 : c = 41
      · subst h2; rfl
      by_cases h3 : c = 92
      · subst h3; rfl
      by_cases h4 : c = 91
      · subst h4; rfl
      by_cases h5 : c = 93
      · subst h5; rfl
      by_cases h6 : c = 123
      · subst h6; rfl
      by_cases h7 : c = 125
      · subst h7; rfl
      have n1 : (c == 40) = false := by simpa using h1
      have n2 : (c == 41) = false := by simpa using h2
      have n3 : (c == 92) = false := by simpa using h3
      have n4 : (c == 91) = false := by simpa using h4
      have n5 : (c == 93) = false := by simpa using h5
      have n6 : (c == 123) = false := by simpa using h6
      have n7 : (c == 125) = false := by simpa using h7
      rw [n1, n2, n3, n4, n5, n6, n7]
      rfl

theorem tailB_eq (k : Nat) (a : UInt8) (r : List UInt8) (hs : (a :: r).length ≤ 100000) (hk : (a :: r).length + 4 < k) :
    tailB k (a :: r) ((a.toNat : Nat) : Int) = some (tokO (a :: r) (bif hd1 (a :: r) 64 && bg ((a :: r).drop 1) then (3, 1 + (nm ((a :: r).drop 1)).2, (nm ((a :: r).drop 1)).1, 0)
      else if nlen (a :: r) > 0 then numT (a :: r) else bif bg (a :: r) then nameT (a :: r) else (oneK ((a :: r).getD 0 0), 1, [], 0))) := by
  unfold tailB
  have e64 : (((a.toNat : Nat) : Int) == (64 : Int)) = (a == 64) := byte_eq a 64
  have d2 : decide (0 ≤ (1 : Int) ∧ (1 : Int) ≤ ((a :: r).length : Int)) = true := by simp; omega
  have hh : hd1 (a :: r) 64 = (a == 64) := rfl
  simp only [e64, d2, Bool.true_or, cond_true, hh, numB_eq k (a :: r) hs hk (by simp)]
  have hn := named_eq k (a :: r) 3 1 (by simp) hs (by omega)
  rw [show ((1 : Nat) : Int) = 1 from rfl] at hn
  cases h : (a == 64) with
  | false => rfl
  | true =>
    simp only [cond_true, begins_eq, Option.bind_some, Bool.true_and]
    show cond (bg ((a :: r).drop 1)) _ _ = _
    cases hb : bg ((a :: r).drop 1) with
    | true =>
      simp only [cond_true, hn, Option.bind_some]
      rfl
    | false => rfl

theorem hashB_eq (k : Nat) (a : UInt8) (r : List UInt8) (hs : (a :: r).length ≤ 100000) (hk : (a :: r).length + 4 < k) :
    hashB k (a :: r) ((a.toNat : Nat) : Int) = some (tokO (a :: r) (bif hd1 (a :: r) 35 && decide (1 < (a :: r).length) && (isSg ((a :: r).getD 1 0) || esc ((a :: r).drop 1)) then (4, 1 + (nm ((a :: r).drop 1)).2, (nm ((a :: r).drop 1)).1, 0)
      else bif hd1 (a :: r) 64 && bg ((a :: r).drop 1) then (3, 1 + (nm ((a :: r).drop 1)).2, (nm ((a :: r).drop 1)).1, 0)
      else if nlen (a :: r) > 0 then numT (a :: r) else bif bg (a :: r) then nameT (a :: r) else (oneK ((a :: r).getD 0 0), 1, [], 0))) := by
  unfold hashB
  have e35 : (((a.toNat : Nat) : Int) == (35 : Int)) = (a == 35) := byte_eq a 35
  have hh : hd1 (a :: r) 35 = (a == 35) := rfl
  have hn := named_eq k (a :: r) 4 1 (by simp) hs (by omega)
  rw [show ((1 : Nat) : Int) = 1 from rfl] at hn
  simp only [e35, hh, tailB_eq k a r hs hk, hn]
  match r with
  | [] =>
    have hd : decide ((([a] : List UInt8).length : Int) > 1) = false := by simp
    have hd' : decide (1 < ([a] : List UInt8).length) = false := by simp
    have hc : (cond (a == 35) false false) = false := by cases (a == 35) <;> rfl
    simp only [hd, hd', hc, Bool.not_false, Bool.or_true, cond_true, cond_false, Bool.false_and, Option.bind_some, Bool.and_false]
  | b :: r =>
    have hd : decide (((a :: b :: r).length : Int) > 1) = true := by simp; omega
    have hd' : decide (1 < (a :: b :: r).length) = true := by simp
    have d1 : decide (0 ≤ (1 : Int) ∧ (1 : Int) < ((a :: b :: r).length : Int)) = true := by simp; omega
    have d2 : decide (0 ≤ (1 : Int) ∧ (1 : Int) ≤ ((a :: b :: r).length : Int)) = true := by simp; omega
    have g1 : (a :: b :: r).getD (1 : Int).toNat 0 = b := rfl
    have g1' : (a :: b :: r).getD 1 0 = b := rfl
    have g2 : (a :: b :: r).drop (1 : Int).toNat = b :: r := rfl
    have g2' : (a :: b :: r).drop 1 = b :: r := rfl
    simp only [hd, hd', d1, d2, g1, g1', g2, g2', Bool.true_or, cond_true, sign_eq, escape_eq, Bool.and_true]
    cases (a == 35) with
    | false => rfl
    | true =>
      cases hsg : isSg b with
      | true => rfl
      | false =>
        cases he : esc (b :: r) with
        | true => rfl
        | false => rfl

theorem first_eq (k : Nat) (s : List UInt8) (hs : s.length ≤ 100000) (hk : s.length + 4 < k) (hne : s ≠ []) : csstok_first k s = some (tokO s (tok1 s)) := by
  have hl : 0 < s.length := List.length_pos_iff.2 hne
  unfold csstok_first
  rw [trim_bl]
  have hc1 := cnt_drop isBlank s
  have hc2 := cnt_le isBlank s
  have w : IntKind.wrap .i64 ((s.length : Int) - ((s.dropWhile isBlank).length : Int)) = ((cnt isBlank s : Nat) : Int) := by
    rw [wrap_i64 (by omega) (by omega)]; omega
  simp only [Option.bind_some, w]
  unfold tok1
  by_cases hb : cnt isBlank s > 0
  · rw [if_pos hb, cond_dec (by omega), cond_dec (by omega)]
    rfl
  · rw [if_neg hb, cond_ndec (by omega), cut_eq2]
    simp only [Option.bind_some]
    cases hn : (hd1 s 47 && hd1 (s.drop 1) 42) with
    | true =>
      simp only [cond_true]
      have hlen : 2 ≤ s.length := by
        rw [Bool.and_eq_true] at hn
        have := hd1_len hn.2
        simp at this; omega
      have hi : strings_Index k (s.drop 2) [42, 47] = some (Go.Lib.index (s.drop 2) [42, 47]) := by
        unfold strings_Index findS
        have : (s.drop 2).length.blt findMax = true := by simp [Nat.blt_eq, findMax]; omega
        rw [this]; rfl
      rw [hi]
      simp only [Option.bind_some]
      by_cases hx : Go.Lib.index (s.drop 2) [42, 47] ≥ 0
      · have hle := idx_le _ hx
        simp only [List.length_drop] at hle
        have w2 : IntKind.wrap .i64 (Go.Lib.index (s.drop 2) [42, 47] + 4) = Go.Lib.index (s.drop 2) [42, 47] + 4 := wrap_i64 (by omega) (by omega)
        rw [cond_dec hx]
        simp only [w2]
        rw [cond_dec (by omega)]
        have e : (Go.Lib.index (s.drop 2) [42, 47] + 4).toNat = noteN s := by
          unfold noteN; rw [if_pos hx]; omega
        rw [e]
        rfl
      · rw [cond_ndec hx]
        have e : noteN s = s.length := by unfold noteN; rw [if_neg hx]
        unfold csstok_first.c20 tokO
        simp [e]
    | false =>
      simp only [cond_false]
      rw [cond_dec (by omega)]
      match s, hne with
      | a :: r, hne =>
        have g0 : (a :: r).getD (0 : Int).toNat 0 = a := rfl
        have g0' : (a :: r).getD 0 0 = a := rfl
        have e39 : (((a.toNat : Nat) : Int) == (39 : Int)) = (a == 39) := byte_eq a 39
        have e34 : (((a.toNat : Nat) : Int) == (34 : Int)) = (a == 34) := byte_eq a 34
        simp only [g0, e39, e34]
        have hq : (cond (a == 39) true (a == 34)) = (hd1 (a :: r) 39 || hd1 (a :: r) 34) := by
          show _ = ((a == 39) || (a == 34))
          cases (a == 39) <;> rfl
        rw [hq]
        cases hqq : (hd1 (a :: r) 39 || hd1 (a :: r) 34) with
        | true =>
          simp only [cond_true]
          rw [text_eq k _ hs (by omega) hl]
          simp only [Option.bind_some, g0']
          cases (tx a ((a :: r).drop 1)).1 <;> rfl
        | false =>
          simp only [cond_false]
          exact hashB_eq k a r hs hk

end Go.Ev.Rb

-- from EvRuU
set_option linter.unusedVariables false
namespace Go.Ev.Rb
open Go Go.Ev.Tok

def mk (t : Int × List UInt8 × List UInt8 × Int) : S106 := ⟨t.1, t.2.1, t.2.2.1, t.2.2.2⟩
def toks (s : List UInt8) : List S106 := (cutP s).map mk

theorem toks_len (s : List UInt8) : (toks s).length ≤ s.length := by
  unfold toks; rw [List.length_map]; exact cutP_len _ s (Nat.le_refl _)

theorem cut_loop (k : Nat) (K : List S106 → Option (List S106)) : ∀ (n : Nat) (s : List UInt8) (acc : List S106), s.length ≤ 100000 → s.length + 4 < k → s.length < n → acc.length + s.length ≤ 100000 →
    csstok_Cut.c5 k n s acc K = K (acc ++ toks s)
  | 0, s, acc, _, _, h, _ => by omega
  | n + 1, [], acc, _, _, _, _ => by
    unfold csstok_Cut.c5
    show K acc = K (acc ++ [])
    rw [List.append_nil]
  | n + 1, a :: r, acc, hs, hk, hn, ha => by
    have h1 := tok1_ok (a :: r) (by simp)
    generalize hsr : (a :: r) = s at *
    have hne : s ≠ [] := by subst hsr; simp
    unfold csstok_Cut.c5
    have e0 : (!(s == ([] : List UInt8))) = true := by subst hsr; rfl
    rw [e0, cond_true, first_eq k s hs hk hne]
    simp only [Option.bind_some]
    have hl : (tokO s (tok1 s)).2.1.length = (tok1 s).2.1 := by
      show (s.take (tok1 s).2.1).length = _
      rw [List.length_take]; omega
    rw [hl, cond_dec (by rw [List.length_append]; simp only [List.length_cons, List.length_nil, most]; omega), cond_dec (by omega)]
    have e3 : ((tok1 s).2.1 : Int).toNat = (tok1 s).2.1 := rfl
    rw [e3, cut_loop k K n _ _ (by rw [List.length_drop]; omega) (by rw [List.length_drop]; omega) (by rw [List.length_drop]; omega)
      (by rw [List.length_drop, List.length_append]; simp only [List.length_cons, List.length_nil]; omega)]
    have e4 : toks s = mk (tokO s (tok1 s)) :: toks (s.drop (tok1 s).2.1) := by
      unfold toks; rw [cutP_cons s hne]; rfl
    rw [e4, List.append_assoc]
    rfl

theorem Cut_eq (k : Nat) (s : List UInt8) (hs : s.length ≤ 100000) (hk : s.length + 4 < k) : csstok_Cut k s = some (toks s) := by
  unfold csstok_Cut
  rw [cut_loop k _ k s [] hs hk (by omega) (by simpa using hs)]
  rfl

end Go.Ev.Rb

-- from EvRuC
set_option linter.unusedVariables false
set_option linter.unusedSimpArgs false
namespace Go.Ev.Rb
open Go Go.Ev.Tok

theorem at' (L : List Tk) (i : Nat) (t : Tk) (r : List Tk) (h : L.drop i = t :: r) :
    i < L.length ∧ (L.map mk).getD i S106.d = mk t ∧ L.drop (i + 1) = r ∧ t ∈ L := by
  have hi : i < L.length := by
    rcases Nat.lt_or_ge i L.length with h1 | h1
    · exact h1
    · rw [List.drop_eq_nil_of_le h1] at h; cases h
  rw [List.drop_eq_getElem_cons hi] at h
  simp only [List.cons.injEq] at h
  refine ⟨hi, ?_, h.2, ?_⟩
  · rw [List.getD_eq_getElem?_getD, List.getElem?_map, List.getElem?_eq_getElem hi, h.1]; rfl
  · rw [← h.1]; exact List.getElem_mem hi

theorem silent_eq (k : Nat) (t : Tk) : cssrule_silent k t.1 t.2.1 t.2.2.1 t.2.2.2 = some (silT t) := by
  unfold cssrule_silent silT
  cases t.1 == 8 <;> rfl

theorem opens_eq (k : Nat) (t : Tk) : cssrule_opens k t.1 t.2.1 t.2.2.1 t.2.2.2 = some (opT t) := by
  unfold cssrule_opens opT
  cases t.1 == 10 <;> rfl

theorem raw_eq (k : Nat) (t : Tk) (a : Int) (s : List UInt8) : cssrule_raw k t.1 t.2.1 t.2.2.1 t.2.2.2 a s = some (rawT t a s) := by
  unfold cssrule_raw rawT
  cases t.1 == a <;> rfl

theorem brace_eq (k : Nat) (t : Tk) : cssrule_brace k t.1 t.2.1 t.2.2.1 t.2.2.2 = some (brcT t) := by unfold cssrule_brace; rw [raw_eq]; rfl
theorem semi_eq (k : Nat) (t : Tk) : cssrule_semi k t.1 t.2.1 t.2.2.1 t.2.2.2 = some (semT t) := by unfold cssrule_semi; rw [raw_eq]; rfl
theorem colon_eq (k : Nat) (t : Tk) : cssrule_colon k t.1 t.2.1 t.2.2.1 t.2.2.2 = some (colT t) := by unfold cssrule_colon; rw [raw_eq]; rfl
theorem mark_eq (k : Nat) (t : Tk) : cssrule_mark k t.1 t.2.1 t.2.2.1 t.2.2.2 = some (mrkT t) := by unfold cssrule_mark; rw [raw_eq]; rfl
theorem bad_eq (k : Nat) (t : Tk) : cssrule_bad k t.1 t.2.1 t.2.2.1 t.2.2.2 = some (badT t) := rfl

theorem closer_eq (k : Nat) (t : Tk) (h : t.2.1 ≠ []) (hl : t.2.1.length ≤ 100000) : cssrule_closer k t.1 t.2.1 t.2.2.1 t.2.2.2 = some (clo t) := by
  unfold cssrule_closer clo
  have hp : 0 < t.2.1.length := List.length_pos_iff.2 h
  have w : IntKind.wrap .i64 ((t.2.1.length : Int) - 1) = ((t.2.1.length - 1 : Nat) : Int) := by rw [wrap_i64 (by omega) (by omega)]; omega
  simp only [w]
  rw [cond_dec (by omega)]
  have e : t.2.1.getD (((t.2.1.length - 1 : Nat) : Int)).toNat 0 = t.2.1.getLastD 0 := by
    show t.2.1.getD (t.2.1.length - 1) 0 = _
    rw [List.getD_eq_getElem?_getD, List.getLastD_eq_getLast?, List.getLast?_eq_getElem?]
  rw [e, show ((((t.2.1.getLastD 0).toNat : Nat) : Int) == (91 : Int)) = (t.2.1.getLastD 0 == 91) from byte_eq _ 91,
    show ((((t.2.1.getLastD 0).toNat : Nat) : Int) == (123 : Int)) = (t.2.1.getLastD 0 == 123) from byte_eq _ 123]
  cases t.2.1.getLastD 0 == 91
  · cases t.2.1.getLastD 0 == 123 <;> rfl
  · rfl

/-- Tokens that can be read: none is without bytes, none is too long, and there are not too many. -/
structure Fit (L : List Tk) : Prop where
  ne : ∀ t ∈ L, t.2.1 ≠ []
  sz : ∀ t ∈ L, t.2.1.length ≤ 100000
  va : ∀ t ∈ L, t.2.2.1.length ≤ 100000
  len : L.length ≤ 100000

theorem Fit.sub {L M : List Tk} (h : Fit L) (hs : M.Sublist L) : Fit M :=
  ⟨fun t ht => h.ne t (hs.subset ht), fun t ht => h.sz t (hs.subset ht), fun t ht => h.va t (hs.subset ht), Nat.le_trans hs.length_le h.len⟩

theorem Fit.drop {L : List Tk} (h : Fit L) (n : Nat) : Fit (L.drop n) := h.sub (List.drop_sublist n L)
theorem Fit.take {L : List Tk} (h : Fit L) (n : Nat) : Fit (L.take n) := h.sub (List.take_sublist n L)

theorem block_loop (k : Nat) (L : List Tk) (h : Fit L) (K : List S106 → Option (Int × Bool)) : ∀ (n i : Nat) (w : List (List UInt8)), w ≠ [] → i ≤ L.length → L.length - i < n → w.length + (L.length - i) ≤ 200000 →
    cssrule_block.c7 k n (L.map mk) (i : Int) w K = bif (blk w.reverse (L.drop i)).2 then some (((i + (blk w.reverse (L.drop i)).1 : Nat) : Int), true) else K (L.map mk)
  | 0, i, w, _, _, h, _ => by omega
  | n + 1, i, w, hw, hi, hn, hm => by
    have hl := h.len
    unfold cssrule_block.c7
    simp only [List.length_map, Int.toNat_natCast]
    match hd : L.drop i with
    | [] =>
      have hi2 : i = L.length := by
        have := congrArg List.length hd
        simp at this; omega
      rw [cond_ndec (by omega)]
      rfl
    | t :: r =>
      obtain ⟨h1, h2, h3, h4⟩ := at' L i t r hd
      have w1 : IntKind.wrap .i64 ((i : Int) + 1) = ((i + 1 : Nat) : Int) := by rw [wrap_i64 (by omega) (by omega)]; omega
      rw [cond_dec (by omega), cond_dec (by omega), h2, show cssrule_opens k (mk t).Kind (mk t).Raw (mk t).Value (mk t).Num = some (opT t) from opens_eq k t,
        show cssrule_closer k (mk t).Kind (mk t).Raw (mk t).Value (mk t).Num = some (clo t) from closer_eq k t (h.ne t h4) (h.sz t h4)]
      simp only [Option.bind_some, w1]
      rw [blk]
      cases ho : opT t with
      | true =>
        simp only [cond_true]
        rw [cond_dec (by omega), cond_dec (by rw [List.length_append]; simp only [List.length_cons, List.length_nil, most]; omega)]
        rw [block_loop k L h K n (i + 1) (w ++ [clo t]) (by simp) (by omega) (by omega) (by rw [List.length_append]; simp only [List.length_cons, List.length_nil]; omega), h3]
        rw [List.reverse_append, List.reverse_singleton, List.singleton_append]
        have : i + 1 + (blk (clo t :: w.reverse) r).1 = i + ((blk (clo t :: w.reverse) r).1 + 1) := by omega
        rw [this]
      | false =>
        simp only [cond_false]
        have hwl : 0 < w.length := List.length_pos_iff.2 hw
        have w2 : IntKind.wrap .i64 ((w.length : Int) - 1) = ((w.length - 1 : Nat) : Int) := by rw [wrap_i64 (by omega) (by omega)]; omega
        simp only [w2, Int.toNat_natCast]
        rw [cond_dec (by omega), show (decide (0 ≤ (i : Int) ∧ (i : Int) < (L.length : Int))) = true from decide_eq_true (by omega), Bool.true_or, cond_true,
          show (decide (0 ≤ ((w.length - 1 : Nat) : Int) ∧ ((w.length - 1 : Nat) : Int) < (w.length : Int))) = true from decide_eq_true (by omega), Bool.true_or, cond_true]
        have hg : w.getD (w.length - 1) [] = w.reverse.headD [] := by
          rw [List.getD_eq_getElem?_getD, List.headD_eq_head?_getD, List.head?_reverse, List.getLast?_eq_getElem?]
        have hb : (cond ((mk t).Kind == 11) ((mk t).Raw == w.getD (w.length - 1) []) false) = (clT t && t.2.1 == w.reverse.headD []) := by
          rw [hg]
          show (cond (t.1 == 11) (t.2.1 == w.reverse.headD []) false) = ((t.1 == 11) && _)
          cases t.1 == 11 <;> rfl
        rw [hb]
        obtain ⟨w0, c, hw0⟩ : ∃ w0 c, w = w0 ++ [c] := ⟨w.dropLast, w.getLast hw, (List.dropLast_concat_getLast hw).symm⟩
        have hlen : w.length - 1 = w0.length := by rw [hw0, List.length_append]; simp
        have hrev : w.reverse = c :: w0.reverse := by rw [hw0, List.reverse_append]; rfl
        have htk : (w.drop 0).take (w.length - 1) = w0 := by rw [List.drop_zero, hlen, hw0, List.take_left' rfl]
        have hz : ((((w.length - 1 : Nat) : Int)) == (0 : Int)) = w.reverse.tail.isEmpty := by
          rw [hlen, hrev]
          cases w0 with
          | nil => rfl
          | cons a b =>
            have h0 : (((a :: b).length : Nat) : Int) ≠ 0 := by simp only [List.length_cons]; omega
            rw [beq_eq_false_iff_ne.2 h0]
            simp
        cases hc : (clT t && t.2.1 == w.reverse.headD []) with
        | false =>
          simp only [cond_false]
          rw [block_loop k L h K n (i + 1) w hw (by omega) (by omega) (by omega), h3]
          have : i + 1 + (blk w.reverse r).1 = i + ((blk w.reverse r).1 + 1) := by omega
          rw [this]
        | true =>
          simp only [cond_true]
          rw [cond_dec (by omega), hz, htk]
          cases he : w.reverse.tail.isEmpty with
          | true => rfl
          | false =>
            simp only [cond_false]
            have hw0n : w0 ≠ [] := by
              intro e
              rw [hrev, e] at he
              simp at he
            rw [block_loop k L h K n (i + 1) w0 hw0n (by omega) (by omega) (by omega), h3]
            have ht : w.reverse.tail = w0.reverse := by rw [hrev]; rfl
            rw [ht]
            have : i + 1 + (blk w0.reverse r).1 = i + ((blk w0.reverse r).1 + 1) := by omega
            rw [this]

/-- The block at a place: where it ends, and if it does. -/
theorem block_eq (k : Nat) (hk : 100001 < k) (L : List Tk) (h : Fit L) (i : Nat) (t : Tk) (r : List Tk) (hd : L.drop i = t :: r) :
    cssrule_block k (L.map mk) (i : Int) = some (((i + 1 + (blk [clo t] r).1 : Nat) : Int), (blk [clo t] r).2) := by
  have hl := h.len
  obtain ⟨h1, h2, h3, h4⟩ := at' L i t r hd
  have w1 : IntKind.wrap .i64 ((i : Int) + 1) = ((i + 1 : Nat) : Int) := by rw [wrap_i64 (by omega) (by omega)]; omega
  unfold cssrule_block
  simp only [List.length_map, Int.toNat_natCast]
  rw [cond_dec (by omega), h2, show cssrule_closer k (mk t).Kind (mk t).Raw (mk t).Value (mk t).Num = some (clo t) from closer_eq k t (h.ne t h4) (h.sz t h4)]
  simp only [Option.bind_some, w1]
  rw [block_loop k L h _ k (i + 1) [clo t] (by simp) (by omega) (by omega) (by simp; omega), h3, List.reverse_singleton]
  cases hb : (blk [clo t] r).2 with
  | true => rfl
  | false =>
    simp only [cond_false]
    have := blk_open r _ hb
    rw [this]
    have hr := congrArg List.length h3
    simp only [List.length_drop] at hr
    have : L.length = i + 1 + r.length := by omega
    rw [List.length_map, this]

theorem find2_loop (k : Nat) (hk : 100001 < k) (L : List Tk) (h : Fit L) (K : Int → Option Int) : ∀ (n m i : Nat), i ≤ L.length → L.length - i < n → L.length - i < m →
    cssrule_find_v2.c3 k n (L.map mk) (i : Int) K = K ((i + fnd semT m (L.drop i) : Nat) : Int)
  | 0, m, i, _, h, _ => by omega
  | n + 1, 0, i, _, _, h => by omega
  | n + 1, m + 1, i, hi, hn, hm => by
    have hl := h.len
    unfold cssrule_find_v2.c3
    simp only [List.length_map, Int.toNat_natCast]
    match hd : L.drop i with
    | [] =>
      have hi2 : i = L.length := by
        have := congrArg List.length hd
        simp at this; omega
      rw [show (decide ((i : Int) < (L.length : Int))) = false from decide_eq_false (by omega)]
      simp only [Bool.not_false, Bool.or_true, cond_true, cond_false, Option.bind_some]
      rfl
    | t :: r =>
      obtain ⟨h1, h2, h3, h4⟩ := at' L i t r hd
      have w1 : IntKind.wrap .i64 ((i : Int) + 1) = ((i + 1 : Nat) : Int) := by rw [wrap_i64 (by omega) (by omega)]; omega
      rw [show (decide ((i : Int) < (L.length : Int))) = true from decide_eq_true (by omega), show (decide (0 ≤ (i : Int) ∧ (i : Int) < (L.length : Int))) = true from decide_eq_true (by omega)]
      simp only [Bool.true_or, cond_true]
      rw [h2, show cssrule_semi k (mk t).Kind (mk t).Raw (mk t).Value (mk t).Num = some (semT t) from semi_eq k t,
        show cssrule_opens k (mk t).Kind (mk t).Raw (mk t).Value (mk t).Num = some (opT t) from opens_eq k t]
      simp only [Option.bind_some, w1]
      rw [fnd]
      cases hs : semT t with
      | true => rfl
      | false =>
        simp only [Bool.not_false, cond_true, cond_false]
        cases ho : opT t with
        | true =>
          simp only [cond_true]
          rw [block_eq k hk L h i t r hd]
          simp only [Option.bind_some]
          have hb := blk_len r [clo t]
          have hr := congrArg List.length h3
          simp only [List.length_drop] at hr
          rw [find2_loop k hk L h K n m (i + 1 + (blk [clo t] r).1) (by omega) (by omega) (by omega)]
          have e : L.drop (i + 1 + (blk [clo t] r).1) = r.drop (blk [clo t] r).1 := by rw [← h3, List.drop_drop]
          rw [e]
          have : i + 1 + (blk [clo t] r).1 + fnd semT m (r.drop (blk [clo t] r).1) = i + ((blk [clo t] r).1 + 1 + fnd semT m (r.drop (blk [clo t] r).1)) := by omega
          rw [this]
        | false =>
          simp only [cond_false]
          rw [find2_loop k hk L h K n m (i + 1) (by omega) (by omega) (by omega), h3]
          have : i + 1 + fnd semT m r = i + (fnd semT m r + 1) := by omega
          rw [this]

theorem find2_eq (k : Nat) (hk : 100001 < k) (L : List Tk) (h : Fit L) (i m : Nat) (hi : i ≤ L.length) (hm : L.length - i < m) :
    cssrule_find_v2 k (L.map mk) (i : Int) = some ((i + fnd semT m (L.drop i) : Nat) : Int) := by
  have := h.len
  exact find2_loop k hk L h _ k m i hi (by omega) hm

/-- What ends a rule's head. -/
def hdE (a : Bool) (t : Tk) : Bool := brcT t || (a && semT t)

theorem rules1_eq (k : Nat) (t : Tk) (a : Bool) : cssrule_rules_1 k t.1 t.2.1 t.2.2.1 t.2.2.2 a = some (hdE a t, a) := by
  unfold cssrule_rules_1 hdE
  rw [brace_eq, semi_eq]
  cases brcT t <;> cases a <;> rfl

theorem find_loop (k : Nat) (hk : 100001 < k) (L : List Tk) (h : Fit L) (a : Bool) (K : Int → Bool → Option (Int × Bool)) : ∀ (n m i : Nat), i ≤ L.length → L.length - i < n → L.length - i < m →
    cssrule_find.c3 k n (L.map mk) (i : Int) a K = K ((i + fnd (hdE a) m (L.drop i) : Nat) : Int) a
  | 0, m, i, _, h, _ => by omega
  | n + 1, 0, i, _, _, h => by omega
  | n + 1, m + 1, i, hi, hn, hm => by
    have hl := h.len
    unfold cssrule_find.c3
    simp only [List.length_map, Int.toNat_natCast]
    match hd : L.drop i with
    | [] =>
      have hi2 : i = L.length := by
        have := congrArg List.length hd
        simp at this; omega
      rw [show (decide ((i : Int) < (L.length : Int))) = false from decide_eq_false (by omega)]
      simp only [Bool.not_false, Bool.or_true, cond_true, cond_false, Option.bind_some]
      rfl
    | t :: r =>
      obtain ⟨h1, h2, h3, h4⟩ := at' L i t r hd
      have w1 : IntKind.wrap .i64 ((i : Int) + 1) = ((i + 1 : Nat) : Int) := by rw [wrap_i64 (by omega) (by omega)]; omega
      rw [show (decide ((i : Int) < (L.length : Int))) = true from decide_eq_true (by omega), show (decide (0 ≤ (i : Int) ∧ (i : Int) < (L.length : Int))) = true from decide_eq_true (by omega)]
      simp only [Bool.true_or, cond_true]
      rw [h2, show cssrule_rules_1 k (mk t).Kind (mk t).Raw (mk t).Value (mk t).Num a = some (hdE a t, a) from rules1_eq k t a,
        show cssrule_opens k (mk t).Kind (mk t).Raw (mk t).Value (mk t).Num = some (opT t) from opens_eq k t]
      simp only [Option.bind_some, w1]
      rw [fnd]
      cases hs : hdE a t with
      | true => rfl
      | false =>
        simp only [Bool.not_false, cond_true, cond_false]
        cases ho : opT t with
        | true =>
          simp only [cond_true]
          rw [block_eq k hk L h i t r hd]
          simp only [Option.bind_some]
          have hb := blk_len r [clo t]
          have hr := congrArg List.length h3
          simp only [List.length_drop] at hr
          rw [find_loop k hk L h a K n m (i + 1 + (blk [clo t] r).1) (by omega) (by omega) (by omega)]
          have e : L.drop (i + 1 + (blk [clo t] r).1) = r.drop (blk [clo t] r).1 := by rw [← h3, List.drop_drop]
          rw [e]
          have : i + 1 + (blk [clo t] r).1 + fnd (hdE a) m (r.drop (blk [clo t] r).1) = i + ((blk [clo t] r).1 + 1 + fnd (hdE a) m (r.drop (blk [clo t] r).1)) := by omega
          rw [this]
        | false =>
          simp only [cond_false]
          rw [find_loop k hk L h a K n m (i + 1) (by omega) (by omega) (by omega), h3]
          have : i + 1 + fnd (hdE a) m r = i + (fnd (hdE a) m r + 1) := by omega
          rw [this]

theorem find_eq (k : Nat) (hk : 100001 < k) (L : List Tk) (h : Fit L) (a : Bool) (m : Nat) (hm : L.length < m) :
    cssrule_find k (L.map mk) (0 : Int) a = some (((fnd (hdE a) m L : Nat) : Int), a) := by
  have := h.len
  have := find_loop k hk L h a (fun y12 y13 => some (y12, y13)) k m 0 (by omega) (by omega) (by omega)
  rw [Nat.zero_add, List.drop_zero] at this
  exact this

end Go.Ev.Rb

-- from EvRuD
set_option linter.unusedVariables false
set_option linter.unusedSimpArgs false
namespace Go.Ev.Rb
open Go Go.Ev.Tok

theorem solid3 (k : Nat) (K : List S106 → Option (List S106)) : ∀ (n : Nat) (L : List Tk), L.length ≤ 100000 → L.length < n → cssrule_solid.c3 k n (L.map mk) K = K ((L.dropWhile silT).map mk)
  | 0, L, _, h => by omega
  | n + 1, [], _, _ => by
    unfold cssrule_solid.c3
    rfl
  | n + 1, t :: r, hl, h => by
    unfold cssrule_solid.c3
    simp only [List.length_cons] at hl h
    have e1 : (decide (((((t :: r).map mk).length : Nat) : Int) > 0)) = true := decide_eq_true (by simp only [List.length_map, List.length_cons]; omega)
    have e2 : (decide (0 ≤ (0 : Int) ∧ (0 : Int) < ((((t :: r).map mk).length : Nat) : Int))) = true := decide_eq_true (by simp only [List.length_map, List.length_cons]; omega)
    have e3 : ((t :: r).map mk).getD (0 : Int).toNat S106.d = mk t := rfl
    simp only [e1, e2, e3, Bool.true_or, cond_true]
    rw [show cssrule_silent k (mk t).Kind (mk t).Raw (mk t).Value (mk t).Num = some (silT t) from silent_eq k t]
    simp only [Option.bind_some, List.dropWhile_cons]
    cases hs : silT t with
    | false => rfl
    | true =>
      simp only [cond_true, if_true]
      rw [cond_dec (by simp only [List.length_map, List.length_cons]; omega)]
      exact solid3 k K n r (by omega) (by omega)

theorem trimE_nil : trimE [] = [] := rfl
theorem trimE_snoc (M : List Tk) (t : Tk) : trimE (M ++ [t]) = bif silT t then trimE M else M ++ [t] := by
  unfold trimE
  rw [List.reverse_append, List.reverse_singleton, List.singleton_append, List.dropWhile_cons]
  cases silT t <;> simp

theorem solid7 (k : Nat) (K : List S106 → Option (List S106)) : ∀ (n : Nat) (L : List Tk), L.length ≤ 100000 → L.length < n → cssrule_solid.c7 k n (L.map mk) K = K ((trimE L).map mk)
  | 0, L, _, h => by omega
  | n + 1, L, hl, h => by
    unfold cssrule_solid.c7
    by_cases hL : L = []
    · subst hL; rfl
    · obtain ⟨M, t, rfl⟩ : ∃ M t, L = M ++ [t] := ⟨L.dropLast, L.getLast hL, (List.dropLast_concat_getLast hL).symm⟩
      have hlen : ((M ++ [t]).map mk).length = M.length + 1 := by simp
      rw [List.length_append] at hl h
      simp only [List.length_cons, List.length_nil] at hl h
      simp only [hlen]
      have w : IntKind.wrap .i64 (((M.length + 1 : Nat) : Int) - 1) = ((M.length : Nat) : Int) := by rw [wrap_i64 (by omega) (by omega)]; omega
      simp only [w, Int.toNat_natCast]
      have e1 : (decide (((M.length + 1 : Nat) : Int) > 0)) = true := decide_eq_true (by omega)
      have e2 : (decide (0 ≤ ((M.length : Nat) : Int) ∧ ((M.length : Nat) : Int) < ((M.length + 1 : Nat) : Int))) = true := decide_eq_true (by omega)
      have e3 : ((M ++ [t]).map mk).getD M.length S106.d = mk t := by
        rw [List.map_append, List.getD_eq_getElem?_getD, List.getElem?_append_right (by simp)]
        simp
      simp only [e1, e2, e3, Bool.true_or, cond_true]
      rw [show cssrule_silent k (mk t).Kind (mk t).Raw (mk t).Value (mk t).Num = some (silT t) from silent_eq k t, trimE_snoc]
      simp only [Option.bind_some]
      cases hs : silT t with
      | false => rfl
      | true =>
        simp only [cond_true]
        rw [cond_dec (by omega)]
        have e4 : ((M ++ [t]).map mk).take M.length = M.map mk := by rw [List.map_append, List.take_left' (by simp)]
        rw [e4]
        exact solid7 k K n M (by omega) (by omega)

theorem dw_le (L : List Tk) : (L.dropWhile silT).length ≤ L.length := (List.dropWhile_sublist silT).length_le

theorem trimE_sub (L : List Tk) : (trimE L).Sublist L := by
  unfold trimE
  have := (List.dropWhile_sublist silT (l := L.reverse)).reverse
  rwa [List.reverse_reverse] at this

theorem sol_sub (L : List Tk) : (sol L).Sublist L := (trimE_sub _).trans (List.dropWhile_sublist silT)

theorem solid_eq (k : Nat) (hk : 100001 < k) (L : List Tk) (hl : L.length ≤ 100000) : cssrule_solid k (L.map mk) = some ((sol L).map mk) := by
  unfold cssrule_solid
  rw [solid3 k _ k L hl (by omega), solid7 k _ k _ (Nat.le_trans (dw_le L) hl) (by have := dw_le L; omega)]
  rfl

theorem Fit.sol {L : List Tk} (h : Fit L) : Fit (sol L) := h.sub (sol_sub L)

theorem Head_loop (k : Nat) (L : List Tk) (h : Fit L) (hr : (rw L).length + L.length ≤ 1000000) (K : List UInt8 → Option (List UInt8)) : ∀ (n i : Nat) (gap : Bool) (acc : List UInt8), i ≤ L.length → L.length - i < n →
    (gap = true → acc ≠ []) → acc.length + (rw (L.drop i)).length + (L.length - i) ≤ 1000000 →
    cssrule_Head.c9 k n gap (L.map mk) (L.length : Int) (i : Int) acc K = K (acc ++ hdP (!acc.isEmpty) gap (L.drop i))
  | 0, i, _, _, _, h, _, _ => by omega
  | n + 1, i, gap, acc, hi, hn, hg, hm => by
    have hl := h.len
    unfold cssrule_Head.c9
    simp only [List.length_map, Int.toNat_natCast]
    match hd : L.drop i with
    | [] =>
      have hi2 : i = L.length := by
        have := congrArg List.length hd
        simp at this; omega
      rw [cond_ndec (by omega)]
      show K acc = K (acc ++ [])
      rw [List.append_nil]
    | t :: r =>
      obtain ⟨h1, h2, h3, h4⟩ := at' L i t r hd
      have w1 : IntKind.wrap .i64 ((i : Int) + 1) = ((i + 1 : Nat) : Int) := by rw [wrap_i64 (by omega) (by omega)]; omega
      rw [hd, rw_cons, List.length_append] at hm
      have hmr : (rw (L.drop (i + 1))).length = (rw r).length := by rw [h3]
      rw [cond_dec (by omega), cond_dec (by omega), h2, show cssrule_silent k (mk t).Kind (mk t).Raw (mk t).Value (mk t).Num = some (silT t) from silent_eq k t]
      simp only [Option.bind_some, w1]
      rw [hdP]
      cases hs : silT t with
      | true =>
        simp only [cond_true]
        show cssrule_Head.c9 k n (decide ((acc.length : Int) > 0)) (L.map mk) (L.length : Int) ((i + 1 : Nat) : Int) acc K = _
        have hg2 : (decide ((acc.length : Int) > 0)) = !acc.isEmpty := by
          cases acc with
          | nil => rfl
          | cons a b => simp
        rw [hg2, Head_loop k L h hr K n (i + 1) (!acc.isEmpty) acc (by omega) (by omega) (by intro e; cases acc <;> simp at e ⊢) (by omega), h3]
      | false =>
        simp only [cond_false]
        have hne : t.2.1 ≠ [] := h.ne t h4
        have hws : ∀ (x : List UInt8), x.length + t.2.1.length ≤ 1000000 → f__strings_Builder__WriteString k t.2.1 x = some ((t.2.1.length : Int), x ++ t.2.1) := by
          intro x hx
          unfold f__strings_Builder__WriteString
          rw [wStr_ok x t.2.1 (by unfold blMax; omega)]
          rfl
        have hnn : ∀ x : List UInt8, x ++ t.2.1 ≠ [] := by intro x e; exact hne (List.append_eq_nil_iff.1 e).2
        have hem : ∀ x : List UInt8, (!(x ++ t.2.1).isEmpty) = true := by
          intro x
          cases hx : x ++ t.2.1 with
          | nil => exact absurd hx (hnn x)
          | cons a b => rfl
        unfold cssrule_Head.c20
        cases gap with
        | false =>
          simp only [cond_false]
          rw [show f__strings_Builder__WriteString k (mk t).Raw acc = _ from hws acc (by omega)]
          simp only [Option.bind_some, w1]
          rw [Head_loop k L h hr K n (i + 1) false (acc ++ t.2.1) (by omega) (by omega) (by intro e; cases e) (by rw [List.length_append]; omega), h3, hem]
          simp
        | true =>
          simp only [cond_true]
          have hb : f__strings_Builder__WriteByte k 32 acc = some (acc ++ [32]) := wByte_at acc 32 (by omega)
          rw [hb]
          simp only [Option.bind_some]
          rw [show f__strings_Builder__WriteString k (mk t).Raw (acc ++ [32]) = _ from hws (acc ++ [32]) (by rw [List.length_append]; simp only [List.length_cons, List.length_nil]; omega)]
          simp only [Option.bind_some, w1]
          rw [Head_loop k L h hr K n (i + 1) false (acc ++ [32] ++ t.2.1) (by omega) (by omega) (by intro e; cases e)
            (by rw [List.length_append, List.length_append]; simp only [List.length_cons, List.length_nil]; omega), h3, hem]
          simp [List.append_assoc]

theorem Head_eq (k : Nat) (hk : 100001 < k) (L : List Tk) (h : Fit L) (hr : (rw L).length ≤ 100000) : cssrule_Head k (L.map mk) = some (hdP false false L) := by
  have hl := h.len
  unfold cssrule_Head
  rw [List.length_map]
  have := Head_loop k L h (by omega) (fun y32 => (f__strings_Builder__String k y32).bind fun r33 => some r33.1) k 0 false [] (by omega) (by omega) (by intro e; cases e) (by simp; omega)
  rw [List.drop_zero] at this
  rw [show (0 : Int) = ((0 : Nat) : Int) from rfl, this]
  rfl

theorem last_at (L : List Tk) (M : List Tk) (t : Tk) (h : L = M ++ [t]) : L.length = M.length + 1 ∧ (L.map mk).getD M.length S106.d = mk t ∧ (L.map mk).take M.length = M.map mk := by
  subst h
  refine ⟨by simp, ?_, ?_⟩
  · rw [List.map_append, List.getD_eq_getElem?_getD, List.getElem?_append_right (by simp)]
    simp
  · rw [List.map_append, List.take_left' (by simp)]

theorem fold_eq (k : Nat) (t : Tk) (s : List UInt8) (h : t.2.2.1.length ≤ 100000) (hs : (s.all foldC && s.length.blt 4294967281) = true) : strings_EqualFold k t.2.2.1 s = some (fldT t s) := by
  rw [Bool.and_eq_true] at hs
  unfold strings_EqualFold foldS
  rw [hs.1, hs.2]
  have : t.2.2.1.length.blt 4294967281 = true := by simp [Nat.blt_eq]; omega
  rw [this]
  rfl

theorem important_eq (k : Nat) (hk : 100001 < k) (L : List Tk) (h : Fit L) : cssrule_important k (L.map mk) = some ((imp L).1.map mk, (imp L).2) := by
  unfold cssrule_important
  rw [solid_eq k hk L h.len]
  simp only [Option.bind_some]
  have hf := h.sol
  unfold imp
  generalize sol L = S at *
  have hl := hf.len
  by_cases hS : S = []
  · subst hS
    rfl
  · obtain ⟨M, t, hM⟩ : ∃ M t, S = M ++ [t] := ⟨S.dropLast, S.getLast hS, (List.dropLast_concat_getLast hS).symm⟩
    obtain ⟨e1, e2, e3⟩ := last_at S M t hM
    have w : IntKind.wrap .i64 (((S.length : Nat) : Int) - 1) = ((M.length : Nat) : Int) := by rw [wrap_i64 (by omega) (by omega)]; omega
    simp only [List.length_map, w, Int.toNat_natCast]
    have d1 : (decide (0 ≤ ((M.length : Nat) : Int) ∧ ((M.length : Nat) : Int) < ((S.length : Nat) : Int))) = true := decide_eq_true (by omega)
    rw [d1]
    simp only [Bool.true_or, cond_true]
    have hg : S.getLast? = some t := by rw [hM]; simp
    have hdl : S.dropLast = M := by rw [hM]; simp
    rw [hg, hdl]
    simp only
    rw [e2, e3]
    have ht : t ∈ S := by rw [hM]; simp
    rw [show strings_EqualFold k (mk t).Value [105, 109, 112, 111, 114, 116, 97, 110, 116] = some (fldT t word) from fold_eq k t word (hf.va t ht) (by decide)]
    rw [show ((mk t).Kind != 1) = (t.1 != 1) from rfl]
    by_cases hM0 : M = []
    · subst hM0
      have e4 : (decide (((([] : List Tk).length : Nat) : Int) < 1)) = true := by decide
      rw [e4]
      simp only [Bool.not_true, Bool.or_false, Bool.false_and, cond_true, cond_false, Option.bind_some]
      cases (t.1 != 1 || !fldT t word) <;> rfl
    · have hMp : 0 < M.length := List.length_pos_iff.2 hM0
      rw [show (decide (((M.length : Nat) : Int) < 1)) = false from decide_eq_false (by omega)]
      simp only [Bool.not_false, cond_false]
      cases hk1 : (t.1 != 1) with
      | true => simp
      | false =>
        simp only [Bool.not_false, cond_true, cond_false, Option.bind_some, Bool.false_or]
        cases hfo : fldT t word with
        | false => simp
        | true =>
          simp only [Bool.not_true, cond_false]
          rw [cond_dec (by omega), solid_eq k hk M (by omega)]
          simp only [Option.bind_some]
          have hfM : Fit M := hf.sub (by rw [hM]; exact List.sublist_append_left M [t])
          have hfR := hfM.sol
          generalize sol M = R at *
          have hlR := hfR.len
          by_cases hR : R = []
          · subst hR
            rfl
          · obtain ⟨Q, m, hQ⟩ : ∃ Q m, R = Q ++ [m] := ⟨R.dropLast, R.getLast hR, (List.dropLast_concat_getLast hR).symm⟩
            obtain ⟨q1, q2, q3⟩ := last_at R Q m hQ
            have w2 : IntKind.wrap .i64 (((R.length : Nat) : Int) - 1) = ((Q.length : Nat) : Int) := by rw [wrap_i64 (by omega) (by omega)]; omega
            simp only [List.length_map, w2, Int.toNat_natCast]
            rw [show (decide (0 ≤ ((Q.length : Nat) : Int) ∧ ((Q.length : Nat) : Int) < ((R.length : Nat) : Int))) = true from decide_eq_true (by omega)]
            have z : (((R.length : Nat) : Int) == (0 : Int)) = false := beq_eq_false_iff_ne.2 (by omega)
            rw [z]
            simp only [Bool.true_or, cond_true, Bool.not_false, cond_false]
            rw [q2, show cssrule_mark k (mk m).Kind (mk m).Raw (mk m).Value (mk m).Num = some (mrkT m) from mark_eq k m]
            simp only [Option.bind_some]
            have hg2 : R.getLast? = some m := by rw [hQ]; simp
            have hdl2 : R.dropLast = Q := by rw [hQ]; simp
            rw [hg2, hdl2]
            simp only
            cases mrkT m with
            | false => rfl
            | true =>
              simp only [Bool.not_true, cond_false, cond_true]
              rw [cond_dec (by omega), q3, solid_eq k hk Q (by omega)]
              rfl

theorem fair_loop (k : Nat) (hk : 100001 < k) (m : Nat) (r : cssrule_fair.G.R) (hr : ∀ M : List Tk, Fit M → M.length < m → r.cssrule_fair (M.map mk) = some (fairP M)) (L : List Tk) (h : Fit L) (hL : L.length ≤ m) :
    ∀ (n i : Nat), i ≤ L.length → L.length - i < n → cssrule_fair.c5 k r n (L.map mk) (i : Int) (some true) = some (fairP (L.drop i))
  | 0, i, _, h => by omega
  | n + 1, i, hi, hn => by
    have hl := h.len
    unfold cssrule_fair.c5
    simp only [List.length_map, Int.toNat_natCast]
    match hd : L.drop i with
    | [] =>
      have hi2 : i = L.length := by
        have := congrArg List.length hd
        simp at this; omega
      rw [cond_ndec (by omega)]
      rfl
    | t :: q =>
      obtain ⟨h1, h2, h3, h4⟩ := at' L i t q hd
      have w1 : IntKind.wrap .i64 ((i : Int) + 1) = ((i + 1 : Nat) : Int) := by rw [wrap_i64 (by omega) (by omega)]; omega
      rw [cond_dec (by omega), cond_dec (by omega), h2, show cssrule_bad k (mk t).Kind (mk t).Raw (mk t).Value (mk t).Num = some (badT t) from bad_eq k t,
        show cssrule_brace k (mk t).Kind (mk t).Raw (mk t).Value (mk t).Num = some (brcT t) from brace_eq k t, show cssrule_opens k (mk t).Kind (mk t).Raw (mk t).Value (mk t).Num = some (opT t) from opens_eq k t,
        show ((mk t).Kind == 11) = clT t from rfl]
      simp only [Option.bind_some, w1]
      have ih := fun j hj hj' => fair_loop k hk m r hr L h hL n j hj hj'
      rw [fairP_cons]
      cases hb : badT t with
      | true => rfl
      | false =>
        cases hc : brcT t with
        | true => rfl
        | false =>
          cases hq : clT t with
          | true => rfl
          | false =>
            simp only [Bool.not_false, cond_true, cond_false, Option.bind_some, Bool.or_false]
            cases ho : opT t with
            | false =>
              simp only [cond_false]
              rw [ih (i + 1) (by omega) (by omega), h3]
            | true =>
              simp only [cond_true]
              rw [block_eq k hk L h i t q hd]
              simp only [Option.bind_some]
              have hbl := blk_len q [clo t]
              have hr1 := congrArg List.length h3
              simp only [List.length_drop] at hr1
              cases hcl : (blk [clo t] q).2 with
              | false =>
                simp only [Bool.not_false, Bool.not_true, Bool.or_true, cond_true, cond_false, Option.bind_some, Bool.false_and]
              | true =>
                have hp := blk_pos q _ hcl
                have w2 : IntKind.wrap .i64 (((i + 1 + (blk [clo t] q).1 : Nat) : Int) - 1) = ((i + (blk [clo t] q).1 : Nat) : Int) := by rw [wrap_i64 (by omega) (by omega)]; omega
                simp only [w2, Int.toNat_natCast]
                rw [show (decide (0 ≤ ((i + 1 : Nat) : Int) ∧ ((i + 1 : Nat) : Int) ≤ ((i + (blk [clo t] q).1 : Nat) : Int) ∧ ((i + (blk [clo t] q).1 : Nat) : Int) ≤ ((L.length : Nat) : Int))) = true from decide_eq_true (by omega)]
                simp only [Bool.not_true, Bool.not_false, Bool.true_or, cond_true, cond_false, Option.bind_some, Bool.true_and]
                have e : ((L.map mk).take (i + (blk [clo t] q).1)).drop (i + 1) = (q.take ((blk [clo t] q).1 - 1)).map mk := by
                  rw [← List.map_take, ← List.map_drop, List.drop_take, h3]
                  have : i + (blk [clo t] q).1 - (i + 1) = (blk [clo t] q).1 - 1 := by omega
                  rw [this]
                have hf1 : Fit (q.take ((blk [clo t] q).1 - 1)) := by rw [← h3]; exact (h.drop _).take _
                rw [e, hr _ hf1 (by rw [List.length_take]; omega)]
                simp only [Option.bind_some]
                cases fairP (q.take ((blk [clo t] q).1 - 1)) with
                | false => rfl
                | true =>
                  simp only [Bool.not_true, cond_false, Bool.true_and]
                  rw [ih (i + 1 + (blk [clo t] q).1) (by omega) (by omega), ← List.drop_drop, h3]

theorem fair_rec (k : Nat) (hk : 100001 < k) : ∀ (m : Nat) (L : List Tk), Fit L → L.length < m → (cssrule_fair.G.rec k m).cssrule_fair (L.map mk) = some (fairP L)
  | 0, L, _, h => by omega
  | m + 1, L, hf, h => by
    have hl := hf.len
    show cssrule_fair.nat k (cssrule_fair.G.rec k m) (L.map mk) = _
    unfold cssrule_fair.nat
    have := fair_loop k hk m _ (fun M hM hm => fair_rec k hk m M hM hm) L hf (by omega) k 0 (by omega) (by omega)
    rw [List.drop_zero] at this
    exact this

theorem fair_eq (k : Nat) (hk : 100001 < k) (L : List Tk) (hf : Fit L) : cssrule_fair k (L.map mk) = some (fairP L) := fair_rec k hk k L hf (by have := hf.len; omega)

theorem lower2 (k : Nat) : ∀ (n : Nat) (a b : Int) (l : List Int) (K : List Int → Option (List UInt8)), cssrule_lower.c7 k n a b l K = csstok_lower.c7 k n a b l K
  | 0, _, _, _, _ => rfl
  | n + 1, a, b, l, K => by
    unfold cssrule_lower.c7 csstok_lower.c7
    simp only [lower2 k n]

theorem lower_eq' (k : Nat) (l : List UInt8) (hl : l.length ≤ 100000) (hk : 100001 < k) : cssrule_lower k l = some (l.map lowB) := by
  rw [← lower_eq k l hl (by omega)]
  unfold cssrule_lower csstok_lower
  rw [lower2]

theorem plain_eq (k : Nat) (hk : 100010 < k) (s : List UInt8) (hs : s.length ≤ 100000) : cssrule_plain k s = some (plainP s) := by
  unfold cssrule_plain
  rw [Cut_eq k s hs (by omega)]
  simp only [Option.bind_some]
  unfold toks plainP
  match cutP s with
  | [] => rfl
  | [t] =>
    show (cond (true || _) (cond (true || _) (cond (true || _) (some (cond (cond (t.1 == 1) (t.2.2.1 == s) false) (t.2.1 == s) false)) none) none) none) = some (t.1 == 1 && t.2.2.1 == s && t.2.1 == s)
    simp only [Bool.true_or, cond_true]
    cases t.1 == 1 <;> cases t.2.2.1 == s <;> rfl
  | t :: u :: r =>
    have e : (((((t :: u :: r).map mk).length : Nat) : Int) == (1 : Int)) = false := beq_eq_false_iff_ne.2 (by simp only [List.length_map, List.length_cons]; omega)
    simp only [e, Bool.not_false, Bool.or_true, cond_true, cond_false]

theorem own_eq (k : Nat) (s : List UInt8) : strings_HasPrefix k s ([45, 45] : List UInt8) = some (ownP s) := by
  unfold strings_HasPrefix stringslite_HasPrefix ownP
  match s with
  | [] => rfl
  | [a] => simp [List.isPrefixOf]
  | a :: b :: r =>
    have e : (decide ((((a :: b :: r).length : Nat) : Int) ≥ ((([45, 45] : List UInt8).length : Nat) : Int))) = true := decide_eq_true (by simp only [List.length_cons, List.length_nil]; omega)
    have e2 : (decide (0 ≤ ((([45, 45] : List UInt8).length : Nat) : Int) ∧ ((([45, 45] : List UInt8).length : Nat) : Int) ≤ (((a :: b :: r).length : Nat) : Int))) = true := decide_eq_true (by simp only [List.length_cons, List.length_nil]; omega)
    simp only [e, e2, Bool.true_or, cond_true, Option.bind_some]
    congr 1
    show ([a, b] == [45, 45]) = ((45 == a) && ((45 == b) && true))
    simp only [List.cons_beq_cons, List.beq_nil_eq, List.isEmpty_nil, BEq.comm]

end Go.Ev.Rb

-- from EvRuE
set_option linter.unusedVariables false
set_option linter.unusedSimpArgs false
namespace Go.Ev.Rb
open Go Go.Ev.Tok

theorem Fit.cut (s : List UInt8) (h : s.length ≤ 100000) : Fit (cutP s) := by
  have hr := cutP_raw _ s (Nat.le_refl _)
  have hz : ∀ t ∈ cutP s, t.2.1.length ≤ s.length := by
    intro t ht
    have : t.2.1.Sublist (rw (cutP s)) := List.sublist_flatten_of_mem (List.mem_map_of_mem (f := fun t : Tk => t.2.1) ht)
    rw [rw_cut] at this
    exact this.length_le
  refine ⟨hr.2, fun t ht => by have := hz t ht; omega, fun t ht => by have := hz t ht; have := cut_val _ s (Nat.le_refl _) t ht; omega, by have := cutP_len _ s (Nat.le_refl _); omega⟩

theorem rw_sub {L M : List Tk} (h : M.Sublist L) : (rw M).length ≤ (rw L).length := by
  induction h with
  | slnil => simp
  | cons a h ih => rw [rw_cons, List.length_append]; omega
  | cons_cons a h ih => rw [rw_cons, rw_cons, List.length_append, List.length_append]; omega

theorem imp_sub (L : List Tk) : (imp L).1.Sublist L := by
  unfold imp
  cases (sol L).getLast? with
  | none => exact sol_sub L
  | some t =>
    simp only
    cases (t.1 != 1 || !fldT t word) with
    | true => exact sol_sub L
    | false =>
      simp only [cond_false]
      cases (sol (sol L).dropLast).getLast? with
      | none => exact sol_sub L
      | some m =>
        simp only
        cases mrkT m with
        | false => exact sol_sub L
        | true => exact ((sol_sub _).trans (List.dropLast_sublist _)).trans (((sol_sub _).trans (List.dropLast_sublist _)).trans (sol_sub L))

def D3 (o : Option Dc) (x : (List UInt8) × (List UInt8) × Bool × Bool) : Prop := match o with
  | none => x.2.2.2 = false
  | some d => x = (d.1, d.2.1, d.2.2, true)

theorem isE (s : List UInt8) : (s == ([] : List UInt8)) = s.isEmpty := by cases s <;> rfl

theorem decl_eq (k : Nat) (hk : 100010 < k) (L : List Tk) (h : Fit L) (hr : (rw L).length ≤ 100000) : ∃ x, cssrule_decl k (L.map mk) = some x ∧ D3 (dcl L) x := by
  unfold cssrule_decl dcl
  rw [solid_eq k (by omega) L h.len]
  simp only [Option.bind_some]
  have hS := h.sol
  have hSr := rw_sub (sol_sub L)
  generalize sol L = S at *
  match S with
  | [] => exact ⟨_, rfl, rfl⟩
  | t :: r =>
    have e1 : (((((t :: r).map mk).length : Nat) : Int) == (0 : Int)) = false := beq_eq_false_iff_ne.2 (by simp only [List.length_map, List.length_cons]; omega)
    have e2 : (decide (0 ≤ (0 : Int) ∧ (0 : Int) < ((((t :: r).map mk).length : Nat) : Int))) = true := decide_eq_true (by simp only [List.length_map, List.length_cons]; omega)
    have e3 : ((t :: r).map mk).getD (0 : Int).toNat S106.d = mk t := rfl
    simp only [e1, e2, e3, Bool.true_or, cond_true, cond_false]
    rw [show ((mk t).Kind != 1) = (t.1 != 1) from rfl, show (mk t).Value = t.2.2.1 from rfl]
    cases hk1 : (t.1 != 1) with
    | true => exact ⟨_, rfl, rfl⟩
    | false =>
      simp only [cond_false, own_eq, Option.bind_some]
      have hv := hS.va t (by simp)
      have key : ∀ nm : List UInt8, nm.length ≤ 100000 → ∃ x, cssrule_decl.c16 k ((t :: r).map mk) (ownP t.2.2.1) [] [] false nm [] false = some x ∧ D3 (match sol r with
          | [] => none
          | c :: q => bif !colT c || !plainP nm then none else
            bif fairP (imp q).1 && (ownP t.2.2.1 || !(hdP false false (imp q).1).isEmpty) then some (nm, hdP false false (imp q).1, (imp q).2) else none) x := by
        intro nm hnm
        unfold cssrule_decl.c16
        have e4 : (decide (0 ≤ (1 : Int) ∧ (1 : Int) ≤ ((((t :: r).map mk).length : Nat) : Int))) = true := decide_eq_true (by simp only [List.length_map, List.length_cons]; omega)
        have e5 : ((t :: r).map mk).drop (1 : Int).toNat = r.map mk := rfl
        have hR : Fit r := hS.sub (List.sublist_cons_self t r)
        have hRr := rw_sub (List.sublist_cons_self t r)
        rw [e4, e5, cond_true, solid_eq k (by omega) r hR.len]
        simp only [Option.bind_some]
        have hQ := hR.sol
        have hQr := rw_sub (sol_sub r)
        generalize sol r = Q at *
        match Q with
        | [] => exact ⟨_, rfl, rfl⟩
        | c :: q =>
          have f1 : (((((c :: q).map mk).length : Nat) : Int) == (0 : Int)) = false := beq_eq_false_iff_ne.2 (by simp only [List.length_map, List.length_cons]; omega)
          have f2 : (decide (0 ≤ (0 : Int) ∧ (0 : Int) < ((((c :: q).map mk).length : Nat) : Int))) = true := decide_eq_true (by simp only [List.length_map, List.length_cons]; omega)
          have f3 : ((c :: q).map mk).getD (0 : Int).toNat S106.d = mk c := rfl
          have f4 : (decide (0 ≤ (1 : Int) ∧ (1 : Int) ≤ ((((c :: q).map mk).length : Nat) : Int))) = true := decide_eq_true (by simp only [List.length_map, List.length_cons]; omega)
          have f5 : ((c :: q).map mk).drop (1 : Int).toNat = q.map mk := rfl
          simp only [f1, f2, f3, f4, f5, Bool.true_or, cond_true, cond_false, Bool.not_false]
          rw [show cssrule_colon k (mk c).Kind (mk c).Raw (mk c).Value (mk c).Num = some (colT c) from colon_eq k c]
          simp only [Option.bind_some]
          cases hc : colT c with
          | false =>
            exact ⟨_, rfl, rfl⟩
          | true =>
            simp only [Bool.not_true, cond_false, Bool.not_false, cond_true, plain_eq k hk nm hnm, Option.bind_some, Bool.false_or]
            cases hp : plainP nm with
            | false => exact ⟨_, rfl, rfl⟩
            | true =>
              have hq : Fit q := hQ.sub (List.sublist_cons_self c q)
              have hqr := rw_sub (List.sublist_cons_self c q)
              have hi := hq.sub (imp_sub q)
              have hir := rw_sub (imp_sub q)
              simp only [Bool.not_true, cond_false]
              rw [important_eq k (by omega) q hq]
              simp only [Option.bind_some]
              rw [Head_eq k (by omega) _ hi (by omega), fair_eq k (by omega) _ hi]
              simp only [Option.bind_some, isE]
              cases fairP (imp q).1 with
              | false => exact ⟨_, rfl, rfl⟩
              | true =>
                cases ownP t.2.2.1 with
                | true => exact ⟨_, rfl, rfl⟩
                | false =>
                  cases (hdP false false (imp q).1).isEmpty with
                  | true => exact ⟨_, rfl, rfl⟩
                  | false => exact ⟨_, rfl, rfl⟩
      unfold nmP
      cases ho : ownP t.2.2.1 with
      | true =>
        rw [ho] at key
        simp only [Bool.not_true, cond_false, cond_true]
        exact key t.2.2.1 hv
      | false =>
        rw [ho] at key
        simp only [Bool.not_false, cond_false, cond_true]
        rw [lower_eq' k _ hv (by omega)]
        simp only [Option.bind_some]
        exact key (t.2.2.1.map lowB) (by simpa using hv)

def md (d : Dc) : S66 := ⟨d.1, d.2.1, d.2.2⟩

theorem decls_loop (k : Nat) (hk : 100010 < k) (L : List Tk) (h : Fit L) (hr : (rw L).length ≤ 100000) (K : List S66 → Option (List S66)) : ∀ (n m i : Nat) (acc : List S66), i ≤ L.length + 1 → L.length + 1 - i < n → L.length + 1 - i < m → acc.length + (L.length + 1 - i) ≤ 100001 →
    cssrule_decls.c7 k n (L.map mk) (i : Int) acc K = K (acc ++ (dcls m (L.drop i)).map md)
  | 0, m, i, acc, _, h, _, _ => by omega
  | n + 1, 0, i, acc, _, _, h, _ => by omega
  | n + 1, m + 1, i, acc, hi, hn, hm, ha => by
    have hl := h.len
    unfold cssrule_decls.c7
    simp only [List.length_map]
    match hd : L.drop i with
    | [] =>
      have hi2 : L.length ≤ i := by
        have := congrArg List.length hd
        simp at this; omega
      rw [cond_ndec (by omega)]
      show K acc = K (acc ++ [])
      rw [List.append_nil]
    | t :: q =>
      obtain ⟨h1, h2, h3, h4⟩ := at' L i t q hd
      rw [cond_dec (by omega), find2_eq k (by omega) L h i (L.length - i + 1) (by omega) (by omega)]
      simp only [Option.bind_some]
      have hf := fnd_len semT (L.length - i + 1) (L.drop i)
      rw [List.length_drop] at hf
      have e0 : dcls (m + 1) (t :: q) = (dcl ((L.drop i).take (fnd semT (L.length - i + 1) (L.drop i)))).toList ++ dcls m ((L.drop i).drop (fnd semT (L.length - i + 1) (L.drop i) + 1)) := by
        have : L.length - i + 1 = (t :: q).length + 1 := by rw [← hd, List.length_drop]
        rw [hd, dcls, this]
        · simp
      rw [e0]
      generalize fnd semT (L.length - i + 1) (L.drop i) = e at *
      have w1 : IntKind.wrap .i64 (((i + e : Nat) : Int) + 1) = ((i + e + 1 : Nat) : Int) := by rw [wrap_i64 (by omega) (by omega)]; omega
      rw [cond_dec (by omega)]
      simp only [Int.toNat_natCast, w1]
      have e1 : ((L.map mk).take (i + e)).drop i = ((L.drop i).take e).map mk := by
        rw [← List.map_take, ← List.map_drop, List.drop_take]
        have : i + e - i = e := by omega
        rw [this]
      have hfp : Fit ((L.drop i).take e) := (h.drop i).take e
      have hrp : (rw ((L.drop i).take e)).length ≤ 100000 := by
        have := rw_sub ((List.take_sublist e (L.drop i)).trans (List.drop_sublist i L))
        omega
      obtain ⟨x, hx1, hx2⟩ := decl_eq k hk _ hfp hrp
      rw [e1, hx1, List.drop_drop]
      simp only [Option.bind_some]
      unfold D3 at hx2
      cases hdc : dcl ((L.drop i).take e) with
      | none =>
        rw [hdc] at hx2
        simp only at hx2
        rw [hx2, cond_false, decls_loop k hk L h hr K n m (i + e + 1) acc (by omega) (by omega) (by omega) (by omega)]
        rfl
      | some d =>
        rw [hdc] at hx2
        simp only at hx2
        rw [hx2]
        simp only [cond_true]
        rw [cond_dec (by rw [List.length_append]; simp only [List.length_cons, List.length_nil, most]; omega)]
        rw [decls_loop k hk L h hr K n m (i + e + 1) _ (by omega) (by omega) (by omega) (by rw [List.length_append]; simp only [List.length_cons, List.length_nil]; omega)]
        rw [List.append_assoc]
        rfl

def dclsP (L : List Tk) : List Dc := dcls (L.length + 2) L

theorem decls_eq (k : Nat) (hk : 100010 < k) (L : List Tk) (h : Fit L) (hr : (rw L).length ≤ 100000) : cssrule_decls k (L.map mk) = some ((dclsP L).map md) := by
  have := h.len
  unfold cssrule_decls
  have := decls_loop k hk L h hr (fun y12 => some y12) k (L.length + 2) 0 [] (by omega) (by omega) (by omega) (by simp; omega)
  rw [List.drop_zero] at this
  exact this

end Go.Ev.Rb

-- from EvRuF
set_option linter.unusedVariables false
set_option linter.unusedSimpArgs false
namespace Go.Ev.Rb
open Go Go.Ev.Tok

theorem dsame_loop (k : Nat) (l : List S66) (hl : l.length ≤ 100000) (K : Option Bool) : ∀ (n i : Nat), i ≤ l.length → l.length - i < n → clerestorykeep2_sameDecls.c9 k n l l (i : Int) K = K
  | 0, i, _, h => by omega
  | n + 1, i, hi, h => by
    unfold clerestorykeep2_sameDecls.c9
    by_cases hlt : i < l.length
    · have w : IntKind.wrap .i64 ((i : Int) + 1) = ((i + 1 : Nat) : Int) := by rw [wrap_i64 (by omega) (by omega)]; omega
      simp only [beq_self_eq_true, Bool.and_true, Bool.not_true, w]
      rw [cond_dec (by omega), cond_dec (by omega), cond_dec (by omega), cond_false]
      exact dsame_loop k l hl K n (i + 1) (by omega) (by omega)
    · rw [cond_ndec (by omega)]

theorem same_eq (k : Nat) (l : List S66) (hl : l.length ≤ 100000) (hk : l.length < k) : clerestorykeep2_sameDecls k l l = some true := by
  unfold clerestorykeep2_sameDecls
  have : ((l.length : Int) != (l.length : Int)) = false := by simp
  simp only [this, cond_false]
  exact dsame_loop k l hl _ k 0 (by omega) (by omega)

theorem same_ne (k : Nat) (l m : List S66) (h : l.length ≠ m.length) : clerestorykeep2_sameDecls k l m = some false := by
  unfold clerestorykeep2_sameDecls
  have : ((l.length : Int) != (m.length : Int)) = true := bne_iff_ne.2 (by omega)
  simp only [this, cond_true]

theorem atd (L : List Dc) (i : Nat) (t : Dc) (r : List Dc) (h : L.drop i = t :: r) : i < L.length ∧ (L.map md).getD i S66.d = md t ∧ L.drop (i + 1) = r := by
  have hi : i < L.length := by
    rcases Nat.lt_or_ge i L.length with h1 | h1
    · exact h1
    · rw [List.drop_eq_nil_of_le h1] at h; cases h
  rw [List.drop_eq_getElem_cons hi] at h
  simp only [List.cons.injEq] at h
  refine ⟨hi, ?_, h.2⟩
  rw [List.getD_eq_getElem?_getD, List.getElem?_map, List.getElem?_eq_getElem hi, h.1]; rfl

theorem txts_cons (d : Dc) (l : List Dc) : txts (d :: l) = txt d ++ txts l := by unfold txts; simp

theorem dcl_len {L : List Tk} {d : Dc} (h : dcl L = some d) (hv : ∀ t ∈ L, t.2.2.1.length ≤ t.2.1.length) : d.1.length ≤ (rw L).length ∧ d.2.1.length ≤ (rw L).length + L.length := by
  obtain ⟨S, t, S0, c, W, h1, h2, h3, h4, h5, h6, h7, h8, h9⟩ := dcl_back h
  rw [h9]
  have ht : t ∈ L := by rw [h1]; simp
  constructor
  · have e1 : (nmP t.2.2.1).length = t.2.2.1.length := by
      unfold nmP
      cases ownP t.2.2.1 <;> simp
    have e2 := hv t ht
    have e3 : t.2.1.Sublist (rw L) := List.sublist_flatten_of_mem (List.mem_map_of_mem (f := fun t : Tk => t.2.1) ht)
    have := e3.length_le
    show (nmP t.2.2.1).length ≤ _
    omega
  · show (hdP false false (imp W).1).length ≤ _
    have hh : ∀ (l : List Tk) (a b : Bool), (hdP a b l).length ≤ (rw l).length + l.length := by
      intro l
      induction l with
      | nil => intro a b; simp [hdP]
      | cons u r ih =>
        intro a b
        rw [hdP, rw_cons, List.length_append, List.length_cons]
        cases silT u with
        | true => simp only [cond_true]; have := ih a a; omega
        | false =>
          simp only [cond_false, List.length_append]
          have := ih true false
          cases b <;> simp <;> omega
    have hs : (imp W).1.Sublist L := (imp_sub W).trans (by rw [h1]; exact ((List.sublist_cons_self c W).trans (List.sublist_append_right S0 _)).trans ((List.sublist_cons_self t _).trans (List.sublist_append_right S _)))
    have := hh (imp W).1 false false
    have := rw_sub hs
    have := hs.length_le
    omega

theorem dcls_len : ∀ (n : Nat) (L : List Tk), (∀ t ∈ L, t.2.2.1.length ≤ t.2.1.length) → ∀ d ∈ dcls n L, d.1.length ≤ (rw L).length ∧ d.2.1.length ≤ (rw L).length + L.length
  | 0, L, _, d, h => by cases h
  | n + 1, [], _, d, h => by cases h
  | n + 1, t :: r, hv, d, h => by
    rw [dcls] at h
    · rcases List.mem_append.1 h with e | e
      · have hs := List.take_sublist (fnd semT ((t :: r).length + 1) (t :: r)) (t :: r)
        have h1 := dcl_len (d := d) (by simpa using e) (fun u hu => hv u (hs.subset hu))
        have := rw_sub hs
        have := hs.length_le
        omega
      · have hs := List.drop_sublist (fnd semT ((t :: r).length + 1) (t :: r) + 1) (t :: r)
        have h1 := dcls_len n _ (fun u hu => hv u (hs.subset hu)) d e
        have := rw_sub hs
        have := hs.length_le
        omega
    · simp

theorem txts_len (B : Nat) : ∀ (l : List Dc), (∀ d ∈ l, (txt d).length ≤ B) → (txts l).length ≤ l.length * B
  | [], _ => by simp [txts]
  | d :: l, h => by
    have := txts_len B l fun u hu => h u (List.mem_cons_of_mem _ hu)
    have := h d (by simp)
    rw [txts_cons, List.length_append, List.length_cons, Nat.add_mul, Nat.one_mul]
    omega

theorem told_len (s : List UInt8) (hs : s.length ≤ 3000) (hd : (decs (cutP s)).length ≤ 30) : (txts (decs (cutP s))).length ≤ 300000 ∧ ∀ d ∈ decs (cutP s), d.1.length ≤ 3000 ∧ d.2.1.length ≤ 6000 := by
  have hl := cutP_len _ s (Nat.le_refl _)
  have h : ∀ d ∈ decs (cutP s), d.1.length ≤ 3000 ∧ d.2.1.length ≤ 6000 := by
    intro d h
    have := dcls_len _ _ (cut_val _ s (Nat.le_refl _)) d h
    rw [rw_cut] at this
    omega
  have hh : ∀ d ∈ decs (cutP s), (txt d).length ≤ 9012 := by
    intro d hd'
    obtain ⟨h1, h2⟩ := h d hd'
    have ht : (txt d).length = d.1.length + 1 + d.2.1.length + (bif d.2.2 then 33 :: word else []).length + 1 := by
      unfold txt; simp only [List.length_append, List.length_cons, List.length_nil]
    have : (bif d.2.2 then 33 :: word else []).length ≤ 10 := by cases d.2.2 <;> decide
    omega
  have := txts_len 9012 _ hh
  refine ⟨?_, h⟩
  have : (decs (cutP s)).length * 9012 ≤ 30 * 9012 := Nat.mul_le_mul_right _ hd
  omega

theorem fnd_at (p : Tk → Bool) : ∀ (n : Nat) (L : List Tk), L.length < n → fnd p n L < L.length → ∃ A t B, L = A ++ t :: B ∧ A.length = fnd p n L ∧ p t = true
  | 0, L, h, _ => by omega
  | n + 1, [], h, h2 => by simp at h2
  | n + 1, t :: r, h, h2 => by
    simp only [List.length_cons] at h h2
    rw [fnd] at h2 ⊢
    cases hp : p t with
    | true => exact ⟨[], t, r, rfl, rfl, hp⟩
    | false =>
      rw [hp] at h2
      cases ho : opT t with
      | true =>
        rw [ho] at h2
        simp only [cond_true, cond_false] at h2 ⊢
        have hb := blk_len r [clo t]
        obtain ⟨A, u, B, e1, e2, e3⟩ := fnd_at p n (r.drop (blk [clo t] r).1) (by rw [List.length_drop]; omega) (by rw [List.length_drop]; omega)
        refine ⟨t :: (r.take (blk [clo t] r).1 ++ A), u, B, ?_, ?_, e3⟩
        · simp only [List.cons_append, List.append_assoc]
          rw [← e1, List.take_append_drop]
        · simp only [List.length_cons, List.length_append, List.length_take]; omega
      | false =>
        rw [ho] at h2
        simp only [cond_false] at h2 ⊢
        obtain ⟨A, u, B, e1, e2, e3⟩ := fnd_at p n r (by omega) (by omega)
        exact ⟨t :: A, u, B, by rw [e1]; rfl, by rw [List.length_cons, e2], e3⟩

/-- There are not more declarations than semicolons and one. -/
theorem dcls_cnt : ∀ (n : Nat) (L : List Tk), (dcls n L).length ≤ L.countP semT + 1
  | 0, L => by simp [dcls]
  | n + 1, [] => by simp [dcls]
  | n + 1, t :: r => by
    rw [dcls]
    · have h1 : ∀ o : Option Dc, o.toList.length ≤ 1 := by intro o; cases o <;> simp
      rw [List.length_append]
      have h2 := h1 (dcl ((t :: r).take (fnd semT ((t :: r).length + 1) (t :: r))))
      by_cases hf : fnd semT ((t :: r).length + 1) (t :: r) < (t :: r).length
      · obtain ⟨A, u, B, e1, e2, e3⟩ := fnd_at semT _ (t :: r) (Nat.lt_succ_self _) hf
        have ed : (t :: r).drop (fnd semT ((t :: r).length + 1) (t :: r) + 1) = B := by
          rw [← e2]
          conv => lhs; rw [e1]
          rw [show A ++ u :: B = (A ++ [u]) ++ B by simp, List.drop_left' (by simp)]
        rw [ed]
        have ih := dcls_cnt n B
        have ec : (t :: r).countP semT = A.countP semT + (B.countP semT + 1) := by
          rw [e1, List.countP_append, List.countP_cons, e3]; simp
        omega
      · rw [List.drop_eq_nil_of_le (by omega)]
        have : dcls n [] = [] := by cases n <;> rfl
        rw [this]
        simp only [List.length_nil]
        omega
    · simp

theorem cnt_sem : ∀ L : List Tk, L.countP semT ≤ Lib.countByte (rw L) 59
  | [] => by simp
  | t :: r => by
    have ih := cnt_sem r
    have ha : ∀ a b : List UInt8, Lib.countByte (a ++ b) 59 = Lib.countByte a 59 + Lib.countByte b 59 := by
      intro a b; unfold Lib.countByte; simp
    rw [rw_cons, ha, List.countP_cons]
    cases hs : semT t with
    | false => simp; omega
    | true =>
      have : t.2.1 = [59] := by
        unfold semT rawT at hs
        rw [Bool.and_eq_true, beq_iff_eq, beq_iff_eq] at hs
        exact hs.2
      rw [this]
      have : Lib.countByte [59] 59 = 1 := by decide
      rw [this]; simp; omega

end Go.Ev.Rb
