/- EvCkT, EvCkU, EvCkD, EvCkA, EvCkB, EvCkC in one: no condition beyond those that each theorem names. -/
import Derived.Test.YtdnnaneifaoooaaDoorEvCk
import Derived.Test.YtdnnaneifaoooaaDoorEvTkS
import Derived.Test.YtdnnaneifaoooaaDoorEvDbP
import Derived.Test.YtdnnaneifaoooaaDoorEvTkF
import Derived.Test.YtdnnaneifaoooaaDoorEvTkQ
-- from EvCkT
set_option linter.unusedVariables false
set_option linter.unusedSimpArgs false
set_option linter.constructorNameAsVariable false
set_option maxRecDepth 100000
namespace Go.Ev.Ck
open Go.Ev Go.Ev.Tok

theorem starts_eq (k : Nat) (c : UInt8) : csstok_starts k (c.toNat : Int) = some (isSt c) := by
  have h : ∀ n : Fin 256, csstok_starts 0 ((n.val : Nat) : Int) = some (isSt (UInt8.ofNat n.val)) := by decide +kernel
  have := h ⟨c.toNat, c.toNat_lt⟩
  show csstok_starts 0 _ = _
  simpa using this

theorem digit_eq (k : Nat) (c : UInt8) : csstok_digit k (c.toNat : Int) = some (isDig c) := by
  have h : ∀ n : Fin 256, csstok_digit 0 ((n.val : Nat) : Int) = some (isDig (UInt8.ofNat n.val)) := by decide +kernel
  have := h ⟨c.toNat, c.toNat_lt⟩
  show csstok_digit 0 _ = _
  simpa using this

theorem byte_eq (c d : UInt8) : (((c.toNat : Nat) : Int) == ((d.toNat : Nat) : Int)) = (c == d) := by
  by_cases h : c = d
  · subst h; simp
  · have h2 : c.toNat ≠ d.toNat := fun e => h (UInt8.toNat_inj.1 e)
    have e1 : (((c.toNat : Nat) : Int) == ((d.toNat : Nat) : Int)) = false := by simp; omega
    have e2 : (c == d) = false := by simpa using h
    rw [e1, e2]

theorem sign_eq (k : Nat) (c : UInt8) : csstok_sign k (c.toNat : Int) = some (isSg c) := by
  unfold csstok_sign isSg
  simp only [starts_eq, digit_eq, Option.bind_some]
  have e : (((c.toNat : Nat) : Int) == (45 : Int)) = (c == 45) := byte_eq c 45
  rw [e]
  cases isSt c <;> simp

theorem get_at (s : List UInt8) (i : Nat) (c : UInt8) (r : List UInt8) (h : s.drop i = c :: r) : i < s.length ∧ s.getD i 0 = c ∧ s.drop (i + 1) = r := by
  have hi : i < s.length := by
    rcases Nat.lt_or_ge i s.length with h1 | h1
    · exact h1
    · rw [List.drop_eq_nil_of_le h1] at h; cases h
  rw [List.drop_eq_getElem_cons hi] at h
  simp only [List.cons.injEq] at h
  exact ⟨hi, by rw [List.getD_eq_getElem?_getD, List.getElem?_eq_getElem hi]; simpa using h.1, h.2⟩

theorem escape_eq (k : Nat) (s : List UInt8) : csstok_escape k s = some (esc s) := by
  unfold csstok_escape
  match s with
  | [] => rfl
  | [a] => simp [esc]
  | a :: b :: r =>
    have e1 : (((a.toNat : Nat) : Int) == (92 : Int)) = (a == 92) := byte_eq a 92
    have e2 : (((b.toNat : Nat) : Int) != (10 : Int)) = (b != 10) := by
      show (!(((b.toNat : Nat) : Int) == (10 : Int))) = !(b == 10)
      rw [show (((b.toNat : Nat) : Int) == (10 : Int)) = (b == 10) from byte_eq b 10]
    have h1 : decide (((a :: b :: r).length : Int) > 1) = true := by simp; omega
    have h2 : decide (0 ≤ (0 : Int) ∧ (0 : Int) < ((a :: b :: r).length : Int)) = true := by simp; omega
    have h3 : decide (0 ≤ (1 : Int) ∧ (1 : Int) < ((a :: b :: r).length : Int)) = true := by simp; omega
    simp only [h1, h2, h3, Bool.true_or, cond_true]
    show some (cond (((a.toNat : Nat) : Int) == (92 : Int)) (((b.toNat : Nat) : Int) != (10 : Int)) false) = _
    rw [e1, e2]
    simp only [esc]
    cases (a == 92) <;> rfl

theorem wByte_at (s : List UInt8) (c : UInt8) (h : s.length < 1000000) : wByte s ((c.toNat : Nat) : Int) = some (s ++ [c]) := wByte_ok s c (by unfold blMax; omega)

theorem name_loop (k : Nat) (s : List UInt8) (hs : s.length ≤ 100000) : ∀ (n i : Nat) (acc : List UInt8), i ≤ s.length → s.length - i < n → acc.length ≤ i →
    csstok_name.c7 k n s (i : Int) acc (fun (y17 : Int) (y18 : List UInt8) => (f__strings_Builder__String k y18).bind fun r19 => some (r19.1, y17)) = some (acc ++ (nm (s.drop i)).1, ((i + (nm (s.drop i)).2 : Nat) : Int))
  | 0, i, acc, _, h, _ => by omega
  | n + 1, i, acc, h1, h2, h3 => by
    rw [csstok_name.c7]
    match hd : s.drop i with
    | [] =>
      have : ¬ (i : Int) < (s.length : Int) := by
        intro hlt
        have : s.drop i ≠ [] := by simp; omega
        exact this hd
      simp only []
      rw [cond_ndec this]
      simp [f__strings_Builder__String, nm]
    | c :: r =>
      obtain ⟨g1, g2, g3⟩ := get_at s i c r hd
      have l1 : (i : Int) < (s.length : Int) := by omega
      have l2 : 0 ≤ (i : Int) ∧ (i : Int) ≤ (s.length : Int) := by omega
      have l3 : 0 ≤ (i : Int) ∧ (i : Int) < (s.length : Int) := by omega
      have w1 : IntKind.wrap .i64 ((i : Int) + 1) = ((i + 1 : Nat) : Int) := wrap_i64 (by omega) (by omega)
      have w2 : IntKind.wrap .i64 ((i : Int) + 2) = ((i + 2 : Nat) : Int) := wrap_i64 (by omega) (by omega)
      simp only [w1, w2, Int.toNat_natCast, g2]
      rw [cond_dec l1, cond_dec l2, escape_eq]
      simp only [Option.bind_some]
      match r, g3 with
      | [], g3 =>
        simp only [esc, cond_false, sign_eq, Option.bind_some, f__strings_Builder__WriteByte, wByte_at acc c (by omega)]
        rw [cond_dec l3]
        cases hsg : isSg c with
        | true =>
          simp only [cond_true]
          rw [cond_dec l3, name_loop k s hs n (i + 1) (acc ++ [c]) (by omega) (by omega) (by simp; omega), g3]
          simp [nm, hsg]
        | false => simp [nm, hsg, f__strings_Builder__String]
      | d :: r', g3 =>
        obtain ⟨g4, g5, g6⟩ := get_at s (i + 1) d r' g3
        simp only [esc]
        cases he : (c == 92 && d != 10) with
        | true =>
          simp only [cond_true, g5, f__strings_Builder__WriteByte, wByte_at acc d (by omega), Option.bind_some]
          rw [cond_dec (by omega), name_loop k s hs n (i + 2) (acc ++ [d]) (by omega) (by omega) (by simp; omega), g6]
          simp [nm, he]
          omega
        | false =>
          simp only [cond_false, sign_eq, Option.bind_some, f__strings_Builder__WriteByte, wByte_at acc c (by omega)]
          rw [cond_dec l3]
          cases hsg : isSg c with
          | true =>
            simp only [cond_true]
            rw [cond_dec l3, name_loop k s hs n (i + 1) (acc ++ [c]) (by omega) (by omega) (by simp; omega), g3]
            simp [nm, he, hsg]
            omega
          | false => simp [nm, he, hsg, f__strings_Builder__String]

theorem name_eq (k : Nat) (s : List UInt8) (hs : s.length ≤ 100000) (hk : s.length < k) : csstok_name k s = some ((nm s).1, ((nm s).2 : Int)) := by
  unfold csstok_name
  have := name_loop k s hs k 0 [] (by omega) (by omega) (by simp)
  simpa using this

theorem bne_eq (c d : UInt8) : (((c.toNat : Nat) : Int) != ((d.toNat : Nat) : Int)) = (c != d) := by
  show (!(((c.toNat : Nat) : Int) == ((d.toNat : Nat) : Int))) = !(c == d)
  rw [byte_eq]

theorem begins_eq (k : Nat) (s : List UInt8) : csstok_begins k s = some (bg s) := by
  unfold csstok_begins
  match s with
  | [] => rfl
  | [a] =>
    have h1 : (([a] : List UInt8) == []) = false := rfl
    have e1 : (((a.toNat : Nat) : Int) == (45 : Int)) = (a == 45) := byte_eq a 45
    have e2 : decide ((([a] : List UInt8).length : Int) > 1) = false := by simp
    have e3 : (cond (a == 45) false false) = false := by cases (a == 45) <;> rfl
    have d0 : decide (0 ≤ (0 : Int) ∧ (0 : Int) < (([a] : List UInt8).length : Int)) = true := by simp
    have g0 : ([a] : List UInt8).getD (0 : Int).toNat 0 = a := rfl
    simp only [h1, cond_false, d0, g0, e1, e2, e3, cond_true, starts_eq, escape_eq, Option.bind_some, esc, bg]
    cases isSt a <;> rfl
  | a :: b :: r =>
    have h1 : ((a :: b :: r) == ([] : List UInt8)) = false := rfl
    have e1 : (((a.toNat : Nat) : Int) == (45 : Int)) = (a == 45) := byte_eq a 45
    have e4 : (((b.toNat : Nat) : Int) == (45 : Int)) = (b == 45) := byte_eq b 45
    have d0 : decide (0 ≤ (0 : Int) ∧ (0 : Int) < ((a :: b :: r).length : Int)) = true := by simp; omega
    have d1 : decide (0 ≤ (1 : Int) ∧ (1 : Int) < ((a :: b :: r).length : Int)) = true := by simp; omega
    have d2 : decide (0 ≤ (1 : Int) ∧ (1 : Int) ≤ ((a :: b :: r).length : Int)) = true := by simp; omega
    have d3 : decide (((a :: b :: r).length : Int) > 1) = true := by simp; omega
    have g0 : (a :: b :: r).getD (0 : Int).toNat 0 = a := rfl
    have g1 : (a :: b :: r).getD (1 : Int).toNat 0 = b := rfl
    have g2 : (a :: b :: r).drop (1 : Int).toNat = b :: r := rfl
    simp only [h1, cond_false, d0, d1, d2, d3, g0, g1, g2, e1, e4, cond_true, Bool.true_or, starts_eq, escape_eq, Option.bind_some, bg]
    cases (a == 45) <;> cases (b == 45) <;> cases (isSt a) <;> cases (isSt b) <;> simp

theorem str_ret (k : Nat) (s : List UInt8) : f__strings_Builder__String k s = some (s, s) := rfl

theorem text_loop (k : Nat) (s : List UInt8) (q : UInt8) (hs : s.length ≤ 100000) (h0 : 0 < s.length) (hq : s.getD 0 0 = q) : ∀ (n i : Nat) (acc : List UInt8), i ≤ s.length → s.length - i < n → acc.length ≤ i →
    csstok_text.c7 k n s (i : Int) 0 [] [] 0 acc (fun (y23 : List UInt8) (y24 : Int) (y25 : List UInt8) (y26 : List UInt8) (y27 : Int) => some ((6 : Int), y23, [], (0 : Int))) =
      some (bif (tx q (s.drop i)).1 then ((5 : Int), s.take (i + (tx q (s.drop i)).2.1), acc ++ (tx q (s.drop i)).2.2, (0 : Int)) else ((6 : Int), s.take (i + (tx q (s.drop i)).2.1), [], (0 : Int)))
  | 0, i, acc, _, h, _ => by omega
  | n + 1, i, acc, h1, h2, h3 => by
    rw [csstok_text.c7]
    match hd : s.drop i with
    | [] =>
      have hi : i = s.length := by
        have := congrArg List.length hd
        simp at this; omega
      simp only []
      rw [cond_ndec (show ¬ (i : Int) < (s.length : Int) by omega)]
      simp [tx, hi]
    | c :: r =>
      obtain ⟨g1, g2, g3⟩ := get_at s i c r hd
      have l1 : (i : Int) < (s.length : Int) := by omega
      have l3 : 0 ≤ (i : Int) ∧ (i : Int) < (s.length : Int) := by omega
      have l4 : 0 ≤ (0 : Int) ∧ (0 : Int) < (s.length : Int) := by omega
      have w1 : IntKind.wrap .i64 ((i : Int) + 1) = ((i + 1 : Nat) : Int) := wrap_i64 (by omega) (by omega)
      have w2 : IntKind.wrap .i64 (((i + 1 : Nat) : Int) + 1) = ((i + 2 : Nat) : Int) := wrap_i64 (by omega) (by omega)
      have q0 : s.getD (0 : Int).toNat 0 = q := hq
      simp only [w1, w2, Int.toNat_natCast, g2, q0, byte_eq c q]
      rw [cond_dec l1, cond_dec l3, cond_dec l4]
      have e10 : (((c.toNat : Nat) : Int) == (10 : Int)) = (c == 10) := byte_eq c 10
      have e92 : (((c.toNat : Nat) : Int) == (92 : Int)) = (c == 92) := byte_eq c 92
      rw [e10, e92]
      have lA : 0 ≤ ((i + 1 : Nat) : Int) ∧ ((i + 1 : Nat) : Int) ≤ (s.length : Int) := by omega
      have lB : 0 ≤ (i : Int) ∧ (i : Int) ≤ (s.length : Int) := by omega
      match r, g3 with
      | [], g3 =>
        have hl : i + 1 = s.length := by
          have := congrArg List.length g3
          simp at this; omega
        have e15 : decide (((i + 1 : Nat) : Int) < (s.length : Int)) = false := by simp; omega
        have e16 : (cond (c == 92) false false) = false := by cases (c == 92) <;> rfl
        cases hcq : (c == q) with
        | true =>
          simp only [cond_true, str_ret, Option.bind_some, decide_eq_true lA]
          simp [tx, hcq]
        | false =>
          cases h10 : (c == 10) with
          | true =>
            simp only [cond_true, cond_false, decide_eq_true lB]
            simp [tx, hcq, h10]
          | false =>
            simp only [e15, e16, cond_false, f__strings_Builder__WriteByte, wByte_at acc c (by omega), Option.bind_some]
            rw [text_loop k s q hs h0 hq n (i + 1) (acc ++ [c]) (by omega) (by omega) (by simp; omega), g3]
            simp [tx, hcq, h10]
      | d :: r', g3 =>
        obtain ⟨g4, g5, g6⟩ := get_at s (i + 1) d r' g3
        have e15 : decide (((i + 1 : Nat) : Int) < (s.length : Int)) = true := by simp; omega
        have lC : 0 ≤ ((i + 1 : Nat) : Int) ∧ ((i + 1 : Nat) : Int) < (s.length : Int) := by omega
        cases hcq : (c == q) with
        | true =>
          simp only [cond_true, str_ret, Option.bind_some, decide_eq_true lA]
          simp [tx, hcq]
        | false =>
          cases h10 : (c == 10) with
          | true =>
            simp only [cond_true, cond_false, decide_eq_true lB]
            simp [tx, hcq, h10]
          | false =>
            cases h92 : (c == 92) with
            | true =>
              simp only [e15, cond_true, cond_false, decide_eq_true lC, g5, f__strings_Builder__WriteByte, wByte_at acc d (by omega), Option.bind_some]
              rw [text_loop k s q hs h0 hq n (i + 2) (acc ++ [d]) (by omega) (by omega) (by simp; omega), g6]
              simp only [tx, hcq, h10, h92, cond_true, cond_false, List.append_assoc, List.singleton_append]
              rw [show i + 2 + (tx q r').2.1 = i + ((tx q r').2.1 + 2) by omega]
            | false =>
              simp only [e15, cond_false, f__strings_Builder__WriteByte, wByte_at acc c (by omega), Option.bind_some]
              rw [text_loop k s q hs h0 hq n (i + 1) (acc ++ [c]) (by omega) (by omega) (by simp; omega), g3]
              simp only [tx, hcq, h10, h92, cond_true, cond_false, List.append_assoc, List.singleton_append]
              rw [show i + 1 + (tx q (d :: r')).2.1 = i + ((tx q (d :: r')).2.1 + 1) by omega]

theorem dig_set (c : UInt8) : ([48, 49, 50, 51, 52, 53, 54, 55, 56, 57] : List UInt8).contains c = isDig c := by
  have h : ∀ n : Fin 256, ([48, 49, 50, 51, 52, 53, 54, 55, 56, 57] : List UInt8).contains (UInt8.ofNat n.val) = isDig (UInt8.ofNat n.val) := by decide +kernel
  have := h ⟨c.toNat, c.toNat_lt⟩
  simpa using this

theorem bl_set (c : UInt8) : ([32, 9, 10, 12, 13] : List UInt8).contains c = isBlank c := by
  have h : ∀ n : Fin 256, ([32, 9, 10, 12, 13] : List UInt8).contains (UInt8.ofNat n.val) = isBlank (UInt8.ofNat n.val) := by decide +kernel
  have := h ⟨c.toNat, c.toNat_lt⟩
  simpa using this

theorem trim_dig (k : Nat) (s : List UInt8) : strings_TrimLeft k s ([48, 49, 50, 51, 52, 53, 54, 55, 56, 57] : List UInt8) = some (s.dropWhile isDig) := by
  unfold strings_TrimLeft trimL
  have h : (asciiB [48, 49, 50, 51, 52, 53, 54, 55, 56, 57] && (([48, 49, 50, 51, 52, 53, 54, 55, 56, 57] : List UInt8).length).blt findMax) = true := by decide
  rw [h, cond_true]
  congr 2
  funext c
  exact dig_set c

theorem trim_bl (k : Nat) (s : List UInt8) : strings_TrimLeft k s ([32, 9, 10, 12, 13] : List UInt8) = some (s.dropWhile isBlank) := by
  unfold strings_TrimLeft trimL
  have h : (asciiB [32, 9, 10, 12, 13] && (([32, 9, 10, 12, 13] : List UInt8).length).blt findMax) = true := by decide
  rw [h, cond_true]
  congr 2
  funext c
  exact bl_set c

theorem digits_eq (k : Nat) (s : List UInt8) (hs : s.length ≤ 100000) : csstok_digits k s = some ((cnt isDig s : Nat) : Int) := by
  unfold csstok_digits
  rw [trim_dig]
  simp only [Option.bind_some]
  have h1 := cnt_drop isDig s
  have h2 := cnt_le isDig s
  rw [wrap_i64 (by omega) (by omega)]
  congr 1
  omega

theorem pre_eq (k : Nat) (s : List UInt8) (c : UInt8) : strings_HasPrefix k s [c] = some (match s with | a :: _ => a == c | [] => false) := by
  unfold strings_HasPrefix stringslite_HasPrefix
  match s with
  | [] => rfl
  | a :: r =>
    have h1 : decide (((a :: r).length : Int) ≥ (([c] : List UInt8).length : Int)) = true := by simp; omega
    have h2 : decide (0 ≤ (([c] : List UInt8).length : Int) ∧ (([c] : List UInt8).length : Int) ≤ ((a :: r).length : Int)) = true := by simp; omega
    simp only [h1, h2, Bool.true_or, cond_true, Option.bind_some]
    show some ([a] == [c]) = _
    cases h : a == c
    · have : ([a] == [c]) = false := by simpa using h
      rw [this]
    · have : ([a] == [c]) = true := by simpa using h
      rw [this]

theorem add_eq (k : Nat) (c : UInt8) (n : Int) (h0 : 0 ≤ n) (h1 : n ≤ 1000000000) : csstok_Number_1 k ((c.toNat : Nat) : Int) n = some (addD n c) := by
  unfold csstok_Number_1
  simp only []
  rw [wrap_i64 (n := 10 * n) (by omega) (by omega), wrap_u8, wrap_i64 (n := (((c.toNat : Nat) : Int) - 48) % 256) (by omega) (by omega), wrap_i64 (n := 10 * n + (((c.toNat : Nat) : Int) - 48) % 256) (by omega) (by omega)]
  rfl

theorem get_bytes (l : List UInt8) (i : Nat) (hi : i < l.length) : (bytesI l).getD i 0 = ((l.getD i 0).toNat : Int) := by
  unfold bytesI
  simp [List.getD_eq_getElem?_getD, List.getElem?_eq_getElem hi]

theorem whole_loop (k : Nat) (a b c d : Int) (s l : List UInt8) (hl : l.length ≤ 100000) (K : List UInt8 → Int → Int → Int → Int → Option (Int × Int)) : ∀ (n i : Nat) (m : Int), i ≤ l.length → l.length - i < n → 0 ≤ m → m ≤ 1000000000 →
    csstok_Number.c29 k n s a b c ((bytesI l).length : Int) (i : Int) m (bytesI l) K = K s a b c ((l.drop i).foldl addD m)
  | 0, i, m, _, h, _, _ => by omega
  | n + 1, i, m, h1, h2, h3, h4 => by
    have hlen : (bytesI l).length = l.length := by simp [bytesI]
    rw [csstok_Number.c29]
    match hd : l.drop i with
    | [] =>
      have hi : i = l.length := by
        have := congrArg List.length hd
        simp at this; omega
      rw [cond_ndec (by omega)]
      rfl
    | x :: r =>
      obtain ⟨g1, g2, g3⟩ := get_at l i x r hd
      rw [cond_dec (by omega), cond_dec (by omega)]
      simp only [Int.toNat_natCast, get_bytes l i g1, g2, add_eq k x m h3 h4, Option.bind_some]
      rw [wrap_i64 (n := (i : Int) + 1) (by omega) (by omega)]
      have hb := addD_bd x h3
      have ih := whole_loop k a b c d s l hl K n (i + 1) (addD m x) (by omega) (by omega) hb.1 hb.2
      rw [g3] at ih
      rw [show (i : Int) + 1 = ((i + 1 : Nat) : Int) by omega, ih]
      rfl

theorem frac_step (k n : Nat) (s f : List UInt8) (a m : Int) (i : Nat) (K : List UInt8 → Int → Int → Option (Int × Int)) (hi : i < 3) (h0 : 0 ≤ m) (h1 : m ≤ 1000000000) :
    csstok_Number.c49 k (n + 1) s a f (i : Int) m K = csstok_Number.c49 k n s a f ((i + 1 : Nat) : Int) (addD m (f.getD i 48)) K := by
  rw [csstok_Number.c49, cond_dec (by omega)]
  have w : IntKind.wrap .i64 ((i : Int) + 1) = ((i + 1 : Nat) : Int) := wrap_i64 (by omega) (by omega)
  simp only [w, Int.toNat_natCast]
  by_cases hl : i < f.length
  · rw [cond_dec (by omega), cond_dec (by omega)]
    have e : f.getD i 0 = f.getD i 48 := by rw [List.getD_eq_getElem?_getD, List.getD_eq_getElem?_getD, List.getElem?_eq_getElem hl]; rfl
    rw [e, add_eq k _ m h0 h1]
    rfl
  · rw [cond_ndec (by omega)]
    have e : f.getD i 48 = 48 := by rw [List.getD_eq_getElem?_getD, List.getElem?_eq_none (by omega)]; rfl
    have := add_eq k 48 m h0 h1
    rw [show (((48 : UInt8).toNat : Nat) : Int) = 48 from rfl] at this
    rw [e, this]
    rfl

theorem frac_loop (k n : Nat) (s f : List UInt8) (a m : Int) (K : List UInt8 → Int → Int → Option (Int × Int)) (h0 : 0 ≤ m) (h1 : m ≤ 1000000000) :
    csstok_Number.c49 k (n + 4) s a f 0 m K = K s a (addD (addD (addD m (f.getD 0 48)) (f.getD 1 48)) (f.getD 2 48)) := by
  have b1 := addD_bd (f.getD 0 48) h0
  have b2 := addD_bd (f.getD 1 48) b1.1
  have s0 := frac_step k (n + 3) s f a m 0 K (by omega) h0 h1
  have s1 := frac_step k (n + 2) s f a _ 1 K (by omega) b1.1 b1.2
  have s2 := frac_step k (n + 1) s f a _ 2 K (by omega) b2.1 b2.2
  rw [show ((0 : Nat) : Int) = 0 from rfl] at s0
  rw [s0, s1, s2, csstok_Number.c49, cond_ndec (by omega)]

/-- Behind both parts' digits. -/
theorem num_end (k : Nat) (s f : List UInt8) (m : Int) (e : Nat) (hk : 4 ≤ k) (hs : s ≠ []) (h0 : 0 ≤ m) (h1 : m ≤ 1000000000) :
    csstok_Number.c46 k s (e : Int) f m = some (if s.getD 0 0 = 45 then - addD (addD (addD m (f.getD 0 48)) (f.getD 1 48)) (f.getD 2 48) else addD (addD (addD m (f.getD 0 48)) (f.getD 1 48)) (f.getD 2 48), (e : Int)) := by
  obtain ⟨k, rfl⟩ : ∃ n, k = n + 4 := ⟨k - 4, by omega⟩
  unfold csstok_Number.c46
  rw [frac_loop (k + 4) k s f (e : Int) m _ h0 h1]
  have b1 := addD_bd (f.getD 0 48) h0
  have b2 := addD_bd (f.getD 1 48) b1.1
  have b3 := addD_bd (f.getD 2 48) b2.1
  have hl : 0 < s.length := List.length_pos_iff.2 hs
  obtain ⟨r, hr⟩ : ∃ r, r = addD (addD (addD m (f.getD 0 48)) (f.getD 1 48)) (f.getD 2 48) := ⟨_, rfl⟩
  rw [← hr] at b3 ⊢
  rw [cond_dec (by omega)]
  show cond ((((s.getD 0 0).toNat : Nat) : Int) == (45 : Int)) _ _ = _
  rw [show ((((s.getD 0 0).toNat : Nat) : Int) == (45 : Int)) = (s.getD 0 0 == 45) from byte_eq (s.getD 0 0) 45]
  by_cases h45 : s.getD 0 0 = 45
  · rw [if_pos h45, h45]
    show some (IntKind.wrap .i64 (0 - r), (e : Int)) = _
    rw [wrap_i64 (by omega) (by omega)]
    congr 2
    omega
  · rw [if_neg h45]
    have : (s.getD 0 0 == 45) = false := by simpa using h45
    rw [this]
    rfl

theorem Number_c18 (k : Nat) (s : List UInt8) (g : Nat) (hg : g = sgn s) (hs : s.length ≤ 100000) (hk : s.length + 4 < k) (hne : s ≠ []) :
    csstok_Number.c18 k s (g : Int) ((whl s : Nat) : Int) ((bhd s : Nat) : Int) = some (nval s, ((nlen s : Nat) : Int)) := by
  subst hg
  have hw := whl_le s
  have hb := bhd_le s
  have hbl : bhd s ≤ 100000 := by
    by_cases h : bhd s = 0
    · omega
    · have := hb h; omega
  unfold csstok_Number.c18
  have w1 : IntKind.wrap .i64 (((whl s : Nat) : Int) + ((bhd s : Nat) : Int)) = ((whl s + bhd s : Nat) : Int) := wrap_i64 (by omega) (by omega)
  have w2 : IntKind.wrap .i64 (((sgn s : Nat) : Int) + ((whl s : Nat) : Int)) = ((sgn s + whl s : Nat) : Int) := wrap_i64 (by omega) (by omega)
  simp only [w1, w2]
  by_cases h0 : whl s + bhd s = 0
  · rw [h0]
    unfold nval nlen
    rw [if_pos h0, if_pos h0]
    rfl
  · have hz : (((whl s + bhd s : Nat) : Int) == (0 : Int)) = false := by simp; omega
    rw [hz, cond_false, cond_dec (by omega)]
    have hl : (s.take (((sgn s + whl s : Nat) : Int)).toNat).drop (((sgn s : Nat) : Int)).toNat = (s.drop (sgn s)).take (whl s) := by
      simp only [Int.toNat_natCast]
      rw [List.drop_take]
      congr 1
      omega
    rw [hl]
    have hll : ((s.drop (sgn s)).take (whl s)).length ≤ 100000 := by simp; omega
    have hlk : ((s.drop (sgn s)).take (whl s)).length < k := by simp; omega
    have hwl := fun K => whole_loop k ((sgn s : Nat) : Int) ((whl s : Nat) : Int) ((bhd s : Nat) : Int) 0 s ((s.drop (sgn s)).take (whl s)) hll K k 0 0 (by omega) (by omega) (by omega) (by omega)
    have hf := fold_bd ((s.drop (sgn s)).take (whl s)) 0 (by omega) (by omega)
    refine (hwl _).trans ?_
    simp only [List.drop_zero, w2]
    have hv : nval s = if s.getD 0 0 = 45 then - nabs s else nabs s := by unfold nval; rw [if_neg h0]
    by_cases hb0 : bhd s = 0
    · rw [hb0, cond_ndec (by omega), num_end k s [] _ _ (by omega) hne hf.1 hf.2]
      have hfp : fpart s = [] := by unfold fpart; rw [if_pos hb0]
      have hn : nlen s = sgn s + whl s := by unfold nlen; rw [if_neg h0, if_pos hb0]; rfl
      rw [hv, hn]
      unfold nabs
      rw [hfp]
    · have hbb := hb hb0
      have w3 : IntKind.wrap .i64 (((sgn s + whl s : Nat) : Int) + 1) = ((sgn s + whl s + 1 : Nat) : Int) := wrap_i64 (by omega) (by omega)
      have w4 : IntKind.wrap .i64 (((sgn s + whl s + 1 : Nat) : Int) + ((bhd s : Nat) : Int)) = ((sgn s + whl s + 1 + bhd s : Nat) : Int) := wrap_i64 (by omega) (by omega)
      have w5 : IntKind.wrap .i64 ((1 : Int) + ((bhd s : Nat) : Int)) = ((1 + bhd s : Nat) : Int) := wrap_i64 (by omega) (by omega)
      have w6 : IntKind.wrap .i64 (((sgn s + whl s : Nat) : Int) + ((1 + bhd s : Nat) : Int)) = ((sgn s + whl s + (1 + bhd s) : Nat) : Int) := wrap_i64 (by omega) (by omega)
      rw [cond_dec (by omega)]
      simp only [w3, w4, w5, w6]
      rw [cond_dec (by omega)]
      have hfp : (s.take (((sgn s + whl s + 1 + bhd s : Nat) : Int)).toNat).drop (((sgn s + whl s + 1 : Nat) : Int)).toNat = fpart s := by
        unfold fpart
        rw [if_neg hb0]
        simp only [Int.toNat_natCast]
        rw [List.drop_take]
        congr 1
        omega
      rw [hfp, num_end k s (fpart s) _ _ (by omega) hne hf.1 hf.2]
      have hn : nlen s = sgn s + whl s + (1 + bhd s) := by unfold nlen; rw [if_neg h0, if_neg hb0]
      rw [hv, hn]
      rfl

theorem Number_c8 (k : Nat) (s : List UInt8) (g : Nat) (hg : g = sgn s) (hs : s.length ≤ 100000) (hk : s.length + 4 < k) (hne : s ≠ []) :
    csstok_Number.c8 k s (g : Int) = some (nval s, ((nlen s : Nat) : Int)) := by
  have hw := whl_le s
  unfold csstok_Number.c8
  rw [cond_dec (by have := (sgn_le s).1; omega)]
  simp only [Int.toNat_natCast]
  rw [digits_eq k _ (by simp; omega)]
  simp only [Option.bind_some]
  have e1 : cnt isDig (s.drop g) = whl s := by rw [hg]; rfl
  rw [e1]
  have w2 : IntKind.wrap .i64 ((g : Int) + ((whl s : Nat) : Int)) = ((g + whl s : Nat) : Int) := wrap_i64 (by omega) (by omega)
  simp only [w2, Int.toNat_natCast]
  rw [cond_dec (by omega), pre_eq]
  simp only [Option.bind_some]
  have hbd : bhd s = frc (s.drop (g + whl s)) := by rw [hg]; rfl
  cases hd : s.drop (g + whl s) with
  | nil =>
    have hb : bhd s = 0 := by rw [hbd, hd]; rfl
    have := Number_c18 k s g hg hs hk hne
    rw [hb] at this
    exact this
  | cons a r =>
    have hl := congrArg List.length hd
    simp only [List.length_drop, List.length_cons] at hl
    cases h46 : (a == 46) with
    | false =>
      have hb : bhd s = 0 := by rw [hbd, hd]; simp [frc, h46]
      have := Number_c18 k s g hg hs hk hne
      rw [hb] at this
      show cond (a == 46) _ _ = _
      rw [h46]
      exact this
    | true =>
      have hb : bhd s = cnt isDig r := by rw [hbd, hd]; simp [frc, h46]
      show cond (a == 46) _ _ = _
      rw [h46, cond_true, cond_dec (by simp; omega)]
      show ((csstok_digits k r).bind _) = _
      rw [digits_eq k r (by omega)]
      simp only [Option.bind_some]
      rw [← hb]
      exact Number_c18 k s g hg hs hk hne

theorem Number_eq (k : Nat) (s : List UInt8) (hs : s.length ≤ 100000) (hk : s.length + 4 < k) (hne : s ≠ []) :
    csstok_Number k s = some (nval s, ((nlen s : Nat) : Int)) := by
  unfold csstok_Number
  match s, hne with
  | a :: r, hne =>
    have h1 : ((a :: r) == ([] : List UInt8)) = false := rfl
    have d0 : decide (0 ≤ (0 : Int) ∧ (0 : Int) < ((a :: r).length : Int)) = true := by simp
    have g0 : (a :: r).getD (0 : Int).toNat 0 = a := rfl
    have e43 : (((a.toNat : Nat) : Int) == (43 : Int)) = (a == 43) := byte_eq a 43
    have e45 : (((a.toNat : Nat) : Int) == (45 : Int)) = (a == 45) := byte_eq a 45
    simp only [h1, d0, g0, e43, e45, Bool.true_or, cond_true, Bool.not_false]
    have hc : (cond (a == 43) true (a == 45)) = (a == 43 || a == 45) := by cases (a == 43) <;> rfl
    rw [hc]
    cases hs' : (a == 43 || a == 45) with
    | true => exact Number_c8 k (a :: r) 1 (by simp [sgn, hs']) hs hk hne
    | false => exact Number_c8 k (a :: r) 0 (by simp [sgn, hs']) hs hk hne

theorem text_eq (k : Nat) (s : List UInt8) (hs : s.length ≤ 100000) (hk : s.length < k) (h0 : 0 < s.length) :
    csstok_text k s = some (bif (tx (s.getD 0 0) (s.drop 1)).1 then ((5 : Int), s.take (1 + (tx (s.getD 0 0) (s.drop 1)).2.1), (tx (s.getD 0 0) (s.drop 1)).2.2, (0 : Int)) else ((6 : Int), s.take (1 + (tx (s.getD 0 0) (s.drop 1)).2.1), [], (0 : Int))) := by
  unfold csstok_text
  have := text_loop k s (s.getD 0 0) hs h0 rfl k 1 [] (by omega) (by omega) (by simp)
  simpa using this

theorem lowB_eq (c : UInt8) : (bif (cond (decide (((c.toNat : Nat) : Int) ≥ 65)) (decide (((c.toNat : Nat) : Int) ≤ 90)) false) then IntKind.wrap .u8 (((c.toNat : Nat) : Int) + 32) else ((c.toNat : Nat) : Int)) = (((lowB c).toNat : Nat) : Int) := by
  have h : ∀ n : Fin 256, (bif (cond (decide (((n.val : Nat) : Int) ≥ 65)) (decide (((n.val : Nat) : Int) ≤ 90)) false) then IntKind.wrap .u8 (((n.val : Nat) : Int) + 32) else ((n.val : Nat) : Int)) = (((lowB (UInt8.ofNat n.val)).toNat : Nat) : Int) := by decide +kernel
  have := h ⟨c.toNat, c.toNat_lt⟩
  simpa using this

theorem bytesU_I (l : List UInt8) : bytesU (bytesI l) = l := by
  unfold bytesU bytesI
  rw [List.map_map]
  conv => rhs; rw [← List.map_id l]
  congr 1
  funext c
  simp

theorem lower_loop (k : Nat) (l : List UInt8) (hl : l.length ≤ 100000) : ∀ (n i : Nat), i ≤ l.length → l.length - i < n →
    csstok_lower.c7 k n ((bytesI l).length : Int) (i : Int) (bytesI ((l.take i).map lowB ++ l.drop i)) (fun y10 => some (bytesU y10)) = some (l.map lowB)
  | 0, i, _, h => by omega
  | n + 1, i, h1, h2 => by
    have hlen : (bytesI l).length = l.length := by simp [bytesI]
    rw [csstok_lower.c7]
    match hd : l.drop i with
    | [] =>
      have hi : i = l.length := by
        have := congrArg List.length hd
        simp at this; omega
      rw [cond_ndec (by omega)]
      subst hi
      simp [bytesU_I]
    | c :: r =>
      obtain ⟨g1, g2, g3⟩ := get_at l i c r hd
      have hll : (bytesI ((l.take i).map lowB ++ c :: r)).length = l.length := by
        have := congrArg List.length hd
        simp at this
        simp [bytesI]; omega
      have htl : ((l.take i).map lowB).length = i := by simp; omega
      have hg : (bytesI ((l.take i).map lowB ++ c :: r)).getD i 0 = ((c.toNat : Nat) : Int) := by
        rw [get_bytes _ i (by simp; omega), List.getD_eq_getElem?_getD, List.getElem?_append_right (by omega), htl]
        simp
      rw [cond_dec (by omega), cond_dec (by omega)]
      simp only [Int.toNat_natCast, hg]
      rw [wrap_i64 (n := (i : Int) + 1) (by omega) (by omega)]
      have hset : (bytesI ((l.take i).map lowB ++ c :: r)).set i (((lowB c).toNat : Nat) : Int) = bytesI ((l.take (i + 1)).map lowB ++ l.drop (i + 1)) := by
        rw [g3]
        unfold bytesI
        rw [List.map_append, List.set_append_right _ _ (by simp; omega)]
        have : i - (((l.take i).map lowB).map fun b => ((b.toNat : Nat) : Int)).length = 0 := by simp; omega
        rw [this]
        have ht : l.take (i + 1) = l.take i ++ [c] := by
          rw [List.take_add_one, List.getElem?_eq_getElem g1]
          rw [List.getD_eq_getElem?_getD, List.getElem?_eq_getElem g1] at g2
          simp at g2
          simp [g2]
        rw [ht]
        simp
      have hlow := lowB_eq c
      have ih := lower_loop k l hl n (i + 1) (by omega) (by omega)
      rw [show ((i + 1 : Nat) : Int) = (i : Int) + 1 by omega] at ih
      cases hb : (cond (decide (((c.toNat : Nat) : Int) ≥ 65)) (decide (((c.toNat : Nat) : Int) ≤ 90)) false) with
      | true =>
        rw [hb, cond_true] at hlow
        rw [cond_true, cond_dec (by omega), hlow, hset]
        exact ih
      | false =>
        rw [hb, cond_false] at hlow
        rw [cond_false]
        have hc : c = lowB c := UInt8.toNat_inj.1 (by omega)
        have e : bytesI ((l.take i).map lowB ++ c :: r) = bytesI ((l.take (i + 1)).map lowB ++ l.drop (i + 1)) := by
          rw [← hset, ← hlow, ← hg]
          apply List.ext_getElem
          · simp
          · intro j hj hj'
            rw [List.getElem_set]
            split
            · rename_i hij; subst hij
              rw [List.getD_eq_getElem?_getD, List.getElem?_eq_getElem hj]; rfl
            · rfl
        rw [e]
        exact ih

theorem lower_eq (k : Nat) (l : List UInt8) (hl : l.length ≤ 100000) (hk : l.length < k) : csstok_lower k l = some (l.map lowB) := by
  unfold csstok_lower
  have := lower_loop k l hl k 0 (by omega) (by omega)
  simpa using this

theorem pre_hd (k : Nat) (s : List UInt8) (c : UInt8) : strings_HasPrefix k s [c] = some (hd1 s c) := pre_eq k s c

theorem hd1_len {s : List UInt8} {c : UInt8} (h : hd1 s c = true) : 0 < s.length := by
  cases s with
  | nil => simp [hd1] at h
  | cons a r => simp

theorem number_eq (k : Nat) (s : List UInt8) (hs : s.length ≤ 100000) (hk : s.length < k) :
    csstok_number k s (nval s) ((nlen s : Nat) : Int) = some ((numT s).1, s.take (numT s).2.1, (numT s).2.2.1, (numT s).2.2.2) := by
  have hn := nlen_le s
  unfold csstok_number
  rw [cond_dec (by omega), cond_dec (by omega)]
  simp only [Int.toNat_natCast]
  rw [pre_hd]
  simp only [Option.bind_some]
  unfold numT
  cases h37 : hd1 (s.drop (nlen s)) 37 with
  | true =>
    have := hd1_len h37
    simp only [List.length_drop] at this
    have w : IntKind.wrap .i64 (((nlen s : Nat) : Int) + 1) = ((nlen s + 1 : Nat) : Int) := wrap_i64 (by omega) (by omega)
    simp only [cond_true, w]
    rw [cond_dec (by omega)]
    rfl
  | false =>
    simp only [cond_false, begins_eq, Option.bind_some]
    cases hb : bg (s.drop (nlen s)) with
    | true =>
      have h1 := nm_le (s.drop (nlen s))
      have h2 := nm_len (s.drop (nlen s))
      simp only [List.length_drop] at h1
      have w : IntKind.wrap .i64 (((nlen s : Nat) : Int) + (((nm (s.drop (nlen s))).2 : Nat) : Int)) = ((nlen s + (nm (s.drop (nlen s))).2 : Nat) : Int) := wrap_i64 (by omega) (by omega)
      simp only [cond_true]
      rw [name_eq k _ (by simp; omega) (by simp; omega)]
      simp only [Option.bind_some, w]
      rw [cond_dec (by omega), lower_eq k _ (by omega) (by omega)]
      rfl
    | false => rfl

theorem named_eq (k : Nat) (s : List UInt8) (kind : Int) (a : Nat) (ha : a ≤ s.length) (hs : s.length ≤ 100000) (hk : s.length < k) :
    csstok_named k kind s (a : Int) = some (kind, s.take (a + (nm (s.drop a)).2), (nm (s.drop a)).1, 0) := by
  unfold csstok_named
  have h1 := nm_le (s.drop a)
  simp only [List.length_drop] at h1
  rw [cond_dec (by omega)]
  simp only [Int.toNat_natCast]
  rw [name_eq k _ (by simp; omega) (by simp; omega)]
  have w : IntKind.wrap .i64 ((a : Int) + (((nm (s.drop a)).2 : Nat) : Int)) = ((a + (nm (s.drop a)).2 : Nat) : Int) := wrap_i64 (by omega) (by omega)
  simp only [Option.bind_some, w]
  rw [cond_dec (by omega)]
  rfl

theorem nameT_eq (k : Nat) (s : List UInt8) (hs : s.length ≤ 100000) (hk : s.length < k) :
    ((csstok_named k (1 : Int) s (0 : Int)).bind fun r28 =>
      cond (decide (0 ≤ (r28.2.1.length : Int) ∧ (r28.2.1.length : Int) ≤ (s.length : Int))) (
      let v29 : List UInt8 := (s.drop (r28.2.1.length : Int).toNat)
      (strings_HasPrefix k v29 ([40] : List UInt8)).bind fun r30 =>
      cond r30 (
      let v31 : Int := (IntKind.wrap .i64 ((r28.2.1.length : Int) + (1 : Int)))
      cond (decide (0 ≤ v31 ∧ v31 ≤ (s.length : Int))) (
      csstok_first.c52 k (0 : Int) ([]) ([]) (0 : Int) (2 : Int) (s.take v31.toNat) r28.2.2.1 r28.2.2.2) none) (
      csstok_first.c52 k (0 : Int) ([]) ([]) (0 : Int) r28.1 r28.2.1 r28.2.2.1 r28.2.2.2)) none) = some ((nameT s).1, s.take (nameT s).2.1, (nameT s).2.2.1, (nameT s).2.2.2) := by
  have h1 := nm_le s
  have hn := named_eq k s 1 0 (Nat.zero_le _) hs hk
  rw [show ((0 : Nat) : Int) = 0 from rfl] at hn
  rw [hn]
  have hl : (s.take (0 + (nm (s.drop 0)).2)).length = (nm s).2 := by simp; omega
  simp only [Option.bind_some, hl, Int.toNat_natCast]
  rw [cond_dec (by omega), pre_hd]
  simp only [Option.bind_some]
  unfold nameT
  cases h40 : hd1 (s.drop (nm s).2) 40 with
  | true =>
    have := hd1_len h40
    simp only [List.length_drop] at this
    have w : IntKind.wrap .i64 (((nm s).2 : Int) + 1) = (((nm s).2 + 1 : Nat) : Int) := wrap_i64 (by omega) (by omega)
    simp only [cond_true, w]
    rw [cond_dec (by omega)]
    simp [csstok_first.c52]
  | false => simp [csstok_first.c52]

/-- A token, as the cutter gives it. -/
theorem one_eq (k : Nat) (kind : Int) (s : List UInt8) (h : 0 < s.length) : csstok_first_1 k kind s = some (kind, s.take 1, [], 0, s) := by
  unfold csstok_first_1
  rw [cond_dec (by omega)]
  rfl

theorem c76_eq (k : Nat) (a b : Int) (x y : List UInt8) (s : List UInt8) (h : 0 < s.length) : csstok_first.c76 k a x y b s = some (12, s.take 1, [], 0) := by
  unfold csstok_first.c76
  rw [one_eq k 12 s h]
  rfl

theorem cut_eq2 (k : Nat) (s : List UInt8) (c d : UInt8) : strings_CutPrefix k s [c, d] = some (bif hd1 s c && hd1 (s.drop 1) d then (s.drop 2, true) else (s, false)) := by
  unfold strings_CutPrefix stringslite_CutPrefix stringslite_HasPrefix
  match s with
  | [] => rfl
  | [a] => 
    have h1 : decide ((([a] : List UInt8).length : Int) ≥ (([c, d] : List UInt8).length : Int)) = false := by simp
    have h2 : decide (0 ≤ (([c, d] : List UInt8).length : Int) ∧ (([c, d] : List UInt8).length : Int) ≤ (([a] : List UInt8).length : Int)) = false := by simp
    simp only [h1, h2, Bool.not_false, Bool.or_true, cond_true, Option.bind_some, cond_false]
    show some (([a] : List UInt8), false) = _
    have : hd1 ([a].drop 1) d = false := rfl
    rw [this, Bool.and_false, cond_false]
  | a :: b :: r =>
    have h1 : decide (((a :: b :: r).length : Int) ≥ (([c, d] : List UInt8).length : Int)) = true := by simp; omega
    have h2 : decide (0 ≤ (([c, d] : List UInt8).length : Int) ∧ (([c, d] : List UInt8).length : Int) ≤ ((a :: b :: r).length : Int)) = true := by simp; omega
    simp only [h1, h2, Bool.true_or, cond_true, Option.bind_some]
    have e : ((a :: b :: r).take ((([c, d] : List UInt8).length : Int)).toNat == [c, d]) = (a == c && b == d) := by
      show ([a, b] == [c, d]) = _
      cases h : (a == c) <;> cases h' : (b == d) <;> simp_all
    have hR : (hd1 (a :: b :: r) c && hd1 ((a :: b :: r).drop 1) d) = (a == c && b == d) := rfl
    rw [e, hR]
    cases (a == c && b == d) <;> rfl

def numB (k : Nat) (a1 : List UInt8) : Option (Int × (List UInt8) × (List UInt8) × Int) :=
(csstok_Number k a1).bind fun r25 =>
cond (decide (r25.2 > (0 : Int))) (
(csstok_number k a1 r25.1 r25.2).bind fun r26 =>
some (r26.1, r26.2.1, r26.2.2.1, r26.2.2.2)) (
(csstok_begins k a1).bind fun r27 =>
cond r27 (
(csstok_named k (1 : Int) a1 (0 : Int)).bind fun r28 =>
cond (decide (0 ≤ (r28.2.1.length : Int) ∧ (r28.2.1.length : Int) ≤ (a1.length : Int))) (
let v29 : List UInt8 := (a1.drop (r28.2.1.length : Int).toNat)
(strings_HasPrefix k v29 ([40] : List UInt8)).bind fun r30 =>
cond r30 (
let v31 : Int := (IntKind.wrap .i64 ((r28.2.1.length : Int) + (1 : Int)))
cond (decide (0 ≤ v31 ∧ v31 ≤ (a1.length : Int))) (
csstok_first.c52 k (0 : Int) ([]) ([]) (0 : Int) (2 : Int) (a1.take v31.toNat) r28.2.2.1 r28.2.2.2) none) (
csstok_first.c52 k (0 : Int) ([]) ([]) (0 : Int) r28.1 r28.2.1 r28.2.2.1 r28.2.2.2)) none) (
cond (decide (0 ≤ (0 : Int) ∧ (0 : Int) < (a1.length : Int))) (
let v40 : Int := ((a1.getD (0 : Int).toNat 0).toNat : Int)
cond (v40 == (40 : Int)) (
cond (v40 == (40 : Int)) (
(csstok_first_1 k (10 : Int) a1).bind fun r41 =>
some (r41.1, r41.2.1, r41.2.2.1, r41.2.2.2.1)) (
cond (v40 == (41 : Int)) (
cond (v40 == (41 : Int)) (
(csstok_first_1 k (11 : Int) a1).bind fun r42 =>
some (r42.1, r42.2.1, r42.2.2.1, r42.2.2.2.1)) (
cond (v40 == (92 : Int)) (
(csstok_first_1 k (6 : Int) a1).bind fun r43 =>
some (r43.1, r43.2.1, r43.2.2.1, r43.2.2.2.1)) (
csstok_first.c76 k (0 : Int) ([]) ([]) (0 : Int) a1))) (
cond (v40 == (93 : Int)) (
cond (v40 == (93 : Int)) (
(csstok_first_1 k (11 : Int) a1).bind fun r50 =>
some (r50.1, r50.2.1, r50.2.2.1, r50.2.2.2.1)) (
cond (v40 == (92 : Int)) (
(csstok_first_1 k (6 : Int) a1).bind fun r51 =>
some (r51.1, r51.2.1, r51.2.2.1, r51.2.2.2.1)) (
csstok_first.c76 k (0 : Int) ([]) ([]) (0 : Int) a1))) (
cond (v40 == (125 : Int)) (
(csstok_first_1 k (11 : Int) a1).bind fun r52 =>
some (r52.1, r52.2.1, r52.2.2.1, r52.2.2.2.1)) (
cond (v40 == (92 : Int)) (
(csstok_first_1 k (6 : Int) a1).bind fun r53 =>
some (r53.1, r53.2.1, r53.2.2.1, r53.2.2.2.1)) (
csstok_first.c76 k (0 : Int) ([]) ([]) (0 : Int) a1)))))) (
cond (v40 == (91 : Int)) (
cond (v40 == (91 : Int)) (
(csstok_first_1 k (10 : Int) a1).bind fun r54 =>
some (r54.1, r54.2.1, r54.2.2.1, r54.2.2.2.1)) (
cond (v40 == (41 : Int)) (
cond (v40 == (41 : Int)) (
(csstok_first_1 k (11 : Int) a1).bind fun r55 =>
some (r55.1, r55.2.1, r55.2.2.1, r55.2.2.2.1)) (
cond (v40 == (92 : Int)) (
(csstok_first_1 k (6 : Int) a1).bind fun r56 =>
some (r56.1, r56.2.1, r56.2.2.1, r56.2.2.2.1)) (
csstok_first.c76 k (0 : Int) ([]) ([]) (0 : Int) a1))) (
cond (v40 == (93 : Int)) (
cond (v40 == (93 : Int)) (
(csstok_first_1 k (11 : Int) a1).bind fun r57 =>
some (r57.1, r57.2.1, r57.2.2.1, r57.2.2.2.1)) (
cond (v40 == (92 : Int)) (
(csstok_first_1 k (6 : Int) a1).bind fun r58 =>
some (r58.1, r58.2.1, r58.2.2.1, r58.2.2.2.1)) (
csstok_first.c76 k (0 : Int) ([]) ([]) (0 : Int) a1))) (
cond (v40 == (125 : Int)) (
(csstok_first_1 k (11 : Int) a1).bind fun r59 =>
some (r59.1, r59.2.1, r59.2.2.1, r59.2.2.2.1)) (
cond (v40 == (92 : Int)) (
(csstok_first_1 k (6 : Int) a1).bind fun r60 =>
some (r60.1, r60.2.1, r60.2.2.1, r60.2.2.2.1)) (
csstok_first.c76 k (0 : Int) ([]) ([]) (0 : Int) a1)))))) (
cond (v40 == (123 : Int)) (
(csstok_first_1 k (10 : Int) a1).bind fun r61 =>
some (r61.1, r61.2.1, r61.2.2.1, r61.2.2.2.1)) (
cond (v40 == (41 : Int)) (
cond (v40 == (41 : Int)) (
(csstok_first_1 k (11 : Int) a1).bind fun r62 =>
some (r62.1, r62.2.1, r62.2.2.1, r62.2.2.2.1)) (
cond (v40 == (92 : Int)) (
(csstok_first_1 k (6 : Int) a1).bind fun r63 =>
some (r63.1, r63.2.1, r63.2.2.1, r63.2.2.2.1)) (
csstok_first.c76 k (0 : Int) ([]) ([]) (0 : Int) a1))) (
cond (v40 == (93 : Int)) (
cond (v40 == (93 : Int)) (
(csstok_first_1 k (11 : Int) a1).bind fun r64 =>
some (r64.1, r64.2.1, r64.2.2.1, r64.2.2.2.1)) (
cond (v40 == (92 : Int)) (
(csstok_first_1 k (6 : Int) a1).bind fun r65 =>
some (r65.1, r65.2.1, r65.2.2.1, r65.2.2.2.1)) (
csstok_first.c76 k (0 : Int) ([]) ([]) (0 : Int) a1))) (
cond (v40 == (125 : Int)) (
(csstok_first_1 k (11 : Int) a1).bind fun r66 =>
some (r66.1, r66.2.1, r66.2.2.1, r66.2.2.2.1)) (
cond (v40 == (92 : Int)) (
(csstok_first_1 k (6 : Int) a1).bind fun r67 =>
some (r67.1, r67.2.1, r67.2.2.1, r67.2.2.2.1)) (
csstok_first.c76 k (0 : Int) ([]) ([]) (0 : Int) a1)))))))) none))

def tailB (k : Nat) (a1 : List UInt8) (v12 : Int) : Option (Int × (List UInt8) × (List UInt8) × Int) :=
cond ((decide (0 ≤ (1 : Int) ∧ (1 : Int) ≤ (a1.length : Int))) || !(v12 == (64 : Int))) (
(cond (v12 == (64 : Int)) (csstok_begins k (a1.drop (1 : Int).toNat)) (some false)).bind fun r22 =>
let v23 : Bool := (cond (v12 == (64 : Int)) r22 false)
cond v23 (
(csstok_named k (3 : Int) a1 (1 : Int)).bind fun r24 =>
some (r24.1, r24.2.1, r24.2.2.1, r24.2.2.2)) (
numB k a1)) none

def hashB (k : Nat) (a1 : List UInt8) (v12 : Int) : Option (Int × (List UInt8) × (List UInt8) × Int) :=
let v15 : Bool := (decide ((a1.length : Int) > (1 : Int)))
let v16 : Bool := (cond (v12 == (35 : Int)) v15 false)
cond ((decide (0 ≤ (1 : Int) ∧ (1 : Int) < (a1.length : Int))) || !v16) (
let v17 : Int := ((a1.getD (1 : Int).toNat 0).toNat : Int)
(cond v16 (csstok_sign k v17) (some false)).bind fun r18 =>
cond ((decide (0 ≤ (1 : Int) ∧ (1 : Int) ≤ (a1.length : Int))) || !(v16 && (!r18))) (
(cond (v16 && (!r18)) (csstok_escape k (a1.drop (1 : Int).toNat)) (some false)).bind fun r19 =>
let v20 : Bool := (cond v16 (cond r18 true r19) false)
cond v20 (
(csstok_named k (4 : Int) a1 (1 : Int)).bind fun r21 =>
some (r21.1, r21.2.1, r21.2.2.1, r21.2.2.2)) (
tailB k a1 v12)) none) none

theorem numB_eq (k : Nat) (s : List UInt8) (hs : s.length ≤ 100000) (hk : s.length + 4 < k) (hne : s ≠ []) :
    numB k s = some (tokO s (if nlen s > 0 then numT s else bif bg s then nameT s else (oneK (s.getD 0 0), 1, [], 0))) := by
  have hl : 0 < s.length := List.length_pos_iff.2 hne
  unfold numB
  rw [Number_eq k s hs hk hne]
  simp only [Option.bind_some]
  by_cases hn : nlen s > 0
  · rw [if_pos hn, cond_dec (by omega), number_eq k s hs (by omega)]
    rfl
  · rw [if_neg hn, cond_ndec (by omega), begins_eq]
    simp only [Option.bind_some]
    cases hb : bg s with
    | true =>
      simp only [cond_true]
      exact nameT_eq k s hs (by omega)
    | false =>
      simp only [cond_false]
      rw [cond_dec (by omega)]
      obtain ⟨c, hc⟩ : ∃ c, c = s.getD 0 0 := ⟨_, rfl⟩
      have e40 : (((c.toNat : Nat) : Int) == (40 : Int)) = (c == 40) := byte_eq c 40
      have e41 : (((c.toNat : Nat) : Int) == (41 : Int)) = (c == 41) := byte_eq c 41
      have e92 : (((c.toNat : Nat) : Int) == (92 : Int)) = (c == 92) := byte_eq c 92
      have e91 : (((c.toNat : Nat) : Int) == (91 : Int)) = (c == 91) := byte_eq c 91
      have e93 : (((c.toNat : Nat) : Int) == (93 : Int)) = (c == 93) := byte_eq c 93
      have e123 : (((c.toNat : Nat) : Int) == (123 : Int)) = (c == 123) := byte_eq c 123
      have e125 : (((c.toNat : Nat) : Int) == (125 : Int)) = (c == 125) := byte_eq c 125
      have g0 : s.getD (0 : Int).toNat 0 = c := hc.symm
      simp only [g0, ← hc, e40, e41, e92, e91, e93, e123, e125, one_eq k _ s hl, c76_eq k _ _ _ _ s hl, Option.bind_some]
      unfold oneK tokO
      by_cases h1 : c = 40
      · subst h1; rfl
      by_cases h2 : c = 41
      · subst h2; rfl
      by_cases h3 : c = 92
      · subst h3; rfl
      by_cases h4 : c = 91
      · subst h4; rfl
      by_cases h5 : c = 93
      · subst h5; rfl
      by_cases h6 : c = 123
      · subst h6; rfl
      by_cases h7 : c = 125
      · subst h7; rfl
      have n1 : (c == 40) = false := by simpa using h1
      have n2 : (c == 41) = false := by simpa using h2
      have n3 : (c == 92) = false := by simpa using h3
      have n4 : (c == 91) = false := by simpa using h4
      have n5 : (c == 93) = false := by simpa using h5
      have n6 : (c == 123) = false := by simpa using h6
      have n7 : (c == 125) = false := by simpa using h7
      rw [n1, n2, n3, n4, n5, n6, n7]
      rfl

theorem tailB_eq (k : Nat) (a : UInt8) (r : List UInt8) (hs : (a :: r).length ≤ 100000) (hk : (a :: r).length + 4 < k) :
    tailB k (a :: r) ((a.toNat : Nat) : Int) = some (tokO (a :: r) (bif hd1 (a :: r) 64 && bg ((a :: r).drop 1) then (3, 1 + (nm ((a :: r).drop 1)).2, (nm ((a :: r).drop 1)).1, 0)
      else if nlen (a :: r) > 0 then numT (a :: r) else bif bg (a :: r) then nameT (a :: r) else (oneK ((a :: r).getD 0 0), 1, [], 0))) := by
  unfold tailB
  have e64 : (((a.toNat : Nat) : Int) == (64 : Int)) = (a == 64) := byte_eq a 64
  have d2 : decide (0 ≤ (1 : Int) ∧ (1 : Int) ≤ ((a :: r).length : Int)) = true := by simp; omega
  have hh : hd1 (a :: r) 64 = (a == 64) := rfl
  simp only [e64, d2, Bool.true_or, cond_true, hh, numB_eq k (a :: r) hs hk (by simp)]
  have hn := named_eq k (a :: r) 3 1 (by simp) hs (by omega)
  rw [show ((1 : Nat) : Int) = 1 from rfl] at hn
  cases h : (a == 64) with
  | false => rfl
  | true =>
    simp only [cond_true, begins_eq, Option.bind_some, Bool.true_and]
    show cond (bg ((a :: r).drop 1)) _ _ = _
    cases hb : bg ((a :: r).drop 1) with
    | true =>
      simp only [cond_true, hn, Option.bind_some]
      rfl
    | false => rfl

theorem hashB_eq (k : Nat) (a : UInt8) (r : List UInt8) (hs : (a :: r).length ≤ 100000) (hk : (a :: r).length + 4 < k) :
    hashB k (a :: r) ((a.toNat : Nat) : Int) = some (tokO (a :: r) (bif hd1 (a :: r) 35 && decide (1 < (a :: r).length) && (isSg ((a :: r).getD 1 0) || esc ((a :: r).drop 1)) then (4, 1 + (nm ((a :: r).drop 1)).2, (nm ((a :: r).drop 1)).1, 0)
      else bif hd1 (a :: r) 64 && bg ((a :: r).drop 1) then (3, 1 + (nm ((a :: r).drop 1)).2, (nm ((a :: r).drop 1)).1, 0)
      else if nlen (a :: r) > 0 then numT (a :: r) else bif bg (a :: r) then nameT (a :: r) else (oneK ((a :: r).getD 0 0), 1, [], 0))) := by
  unfold hashB
  have e35 : (((a.toNat : Nat) : Int) == (35 : Int)) = (a == 35) := byte_eq a 35
  have hh : hd1 (a :: r) 35 = (a == 35) := rfl
  have hn := named_eq k (a :: r) 4 1 (by simp) hs (by omega)
  rw [show ((1 : Nat) : Int) = 1 from rfl] at hn
  simp only [e35, hh, tailB_eq k a r hs hk, hn]
  match r with
  | [] =>
    have hd : decide ((([a] : List UInt8).length : Int) > 1) = false := by simp
    have hd' : decide (1 < ([a] : List UInt8).length) = false := by simp
    have hc : (cond (a == 35) false false) = false := by cases (a == 35) <;> rfl
    simp only [hd, hd', hc, Bool.not_false, Bool.or_true, cond_true, cond_false, Bool.false_and, Option.bind_some, Bool.and_false]
  | b :: r =>
    have hd : decide (((a :: b :: r).length : Int) > 1) = true := by simp; omega
    have hd' : decide (1 < (a :: b :: r).length) = true := by simp
    have d1 : decide (0 ≤ (1 : Int) ∧ (1 : Int) < ((a :: b :: r).length : Int)) = true := by simp; omega
    have d2 : decide (0 ≤ (1 : Int) ∧ (1 : Int) ≤ ((a :: b :: r).length : Int)) = true := by simp; omega
    have g1 : (a :: b :: r).getD (1 : Int).toNat 0 = b := rfl
    have g1' : (a :: b :: r).getD 1 0 = b := rfl
    have g2 : (a :: b :: r).drop (1 : Int).toNat = b :: r := rfl
    have g2' : (a :: b :: r).drop 1 = b :: r := rfl
    simp only [hd, hd', d1, d2, g1, g1', g2, g2', Bool.true_or, cond_true, sign_eq, escape_eq, Bool.and_true]
    cases (a == 35) with
    | false => rfl
    | true =>
      cases hsg : isSg b with
      | true => rfl
      | false =>
        cases he : esc (b :: r) with
        | true => rfl
        | false => rfl

theorem first_eq (k : Nat) (s : List UInt8) (hs : s.length ≤ 100000) (hk : s.length + 4 < k) (hne : s ≠ []) : csstok_first k s = some (tokO s (tok1 s)) := by
  have hl : 0 < s.length := List.length_pos_iff.2 hne
  unfold csstok_first
  rw [trim_bl]
  have hc1 := cnt_drop isBlank s
  have hc2 := cnt_le isBlank s
  have w : IntKind.wrap .i64 ((s.length : Int) - ((s.dropWhile isBlank).length : Int)) = ((cnt isBlank s : Nat) : Int) := by
    rw [wrap_i64 (by omega) (by omega)]; omega
  simp only [Option.bind_some, w]
  unfold tok1
  by_cases hb : cnt isBlank s > 0
  · rw [if_pos hb, cond_dec (by omega), cond_dec (by omega)]
    rfl
  · rw [if_neg hb, cond_ndec (by omega), cut_eq2]
    simp only [Option.bind_some]
    cases hn : (hd1 s 47 && hd1 (s.drop 1) 42) with
    | true =>
      simp only [cond_true]
      have hlen : 2 ≤ s.length := by
        rw [Bool.and_eq_true] at hn
        have := hd1_len hn.2
        simp at this; omega
      have hi : strings_Index k (s.drop 2) [42, 47] = some (Go.Lib.index (s.drop 2) [42, 47]) := by
        unfold strings_Index findS
        have : (s.drop 2).length.blt findMax = true := by simp [Nat.blt_eq, findMax]; omega
        rw [this]; rfl
      rw [hi]
      simp only [Option.bind_some]
      by_cases hx : Go.Lib.index (s.drop 2) [42, 47] ≥ 0
      · have hle := idx_le _ hx
        simp only [List.length_drop] at hle
        have w2 : IntKind.wrap .i64 (Go.Lib.index (s.drop 2) [42, 47] + 4) = Go.Lib.index (s.drop 2) [42, 47] + 4 := wrap_i64 (by omega) (by omega)
        rw [cond_dec hx]
        simp only [w2]
        rw [cond_dec (by omega)]
        have e : (Go.Lib.index (s.drop 2) [42, 47] + 4).toNat = noteN s := by
          unfold noteN; rw [if_pos hx]; omega
        rw [e]
        rfl
      · rw [cond_ndec hx]
        have e : noteN s = s.length := by unfold noteN; rw [if_neg hx]
        unfold csstok_first.c20 tokO
        simp [e]
    | false =>
      simp only [cond_false]
      rw [cond_dec (by omega)]
      match s, hne with
      | a :: r, hne =>
        have g0 : (a :: r).getD (0 : Int).toNat 0 = a := rfl
        have g0' : (a :: r).getD 0 0 = a := rfl
        have e39 : (((a.toNat : Nat) : Int) == (39 : Int)) = (a == 39) := byte_eq a 39
        have e34 : (((a.toNat : Nat) : Int) == (34 : Int)) = (a == 34) := byte_eq a 34
        simp only [g0, e39, e34]
        have hq : (cond (a == 39) true (a == 34)) = (hd1 (a :: r) 39 || hd1 (a :: r) 34) := by
          show _ = ((a == 39) || (a == 34))
          cases (a == 39) <;> rfl
        rw [hq]
        cases hqq : (hd1 (a :: r) 39 || hd1 (a :: r) 34) with
        | true =>
          simp only [cond_true]
          rw [text_eq k _ hs (by omega) hl]
          simp only [Option.bind_some, g0']
          cases (tx a ((a :: r).drop 1)).1 <;> rfl
        | false =>
          simp only [cond_false]
          exact hashB_eq k a r hs hk

end Go.Ev.Ck

-- from EvCkU
set_option linter.unusedVariables false
namespace Go.Ev.Ck
open Go Go.Ev.Tok

def mk (t : Int × List UInt8 × List UInt8 × Int) : S106 := ⟨t.1, t.2.1, t.2.2.1, t.2.2.2⟩
def toks (s : List UInt8) : List S106 := (cutP s).map mk

theorem toks_len (s : List UInt8) : (toks s).length ≤ s.length := by
  unfold toks; rw [List.length_map]; exact cutP_len _ s (Nat.le_refl _)

theorem cut_loop (k : Nat) (K : List S106 → Option (List S106)) : ∀ (n : Nat) (s : List UInt8) (acc : List S106), s.length ≤ 100000 → s.length + 4 < k → s.length < n → acc.length + s.length ≤ 100000 →
    csstok_Cut.c5 k n s acc K = K (acc ++ toks s)
  | 0, s, acc, _, _, h, _ => by omega
  | n + 1, [], acc, _, _, _, _ => by
    unfold csstok_Cut.c5
    show K acc = K (acc ++ [])
    rw [List.append_nil]
  | n + 1, a :: r, acc, hs, hk, hn, ha => by
    have h1 := tok1_ok (a :: r) (by simp)
    generalize hsr : (a :: r) = s at *
    have hne : s ≠ [] := by subst hsr; simp
    unfold csstok_Cut.c5
    have e0 : (!(s == ([] : List UInt8))) = true := by subst hsr; rfl
    rw [e0, cond_true, first_eq k s hs hk hne]
    simp only [Option.bind_some]
    have hl : (tokO s (tok1 s)).2.1.length = (tok1 s).2.1 := by
      show (s.take (tok1 s).2.1).length = _
      rw [List.length_take]; omega
    rw [hl, cond_dec (by rw [List.length_append]; simp only [List.length_cons, List.length_nil, most]; omega), cond_dec (by omega)]
    have e3 : ((tok1 s).2.1 : Int).toNat = (tok1 s).2.1 := rfl
    rw [e3, cut_loop k K n _ _ (by rw [List.length_drop]; omega) (by rw [List.length_drop]; omega) (by rw [List.length_drop]; omega)
      (by rw [List.length_drop, List.length_append]; simp only [List.length_cons, List.length_nil]; omega)]
    have e4 : toks s = mk (tokO s (tok1 s)) :: toks (s.drop (tok1 s).2.1) := by
      unfold toks; rw [cutP_cons s hne]; rfl
    rw [e4, List.append_assoc]
    rfl

theorem Cut_eq (k : Nat) (s : List UInt8) (hs : s.length ≤ 100000) (hk : s.length + 4 < k) : csstok_Cut k s = some (toks s) := by
  unfold csstok_Cut
  rw [cut_loop k _ k s [] hs hk (by omega) (by simpa using hs)]
  rfl

end Go.Ev.Ck

-- from EvCkD
set_option linter.unusedVariables false
set_option linter.unusedSimpArgs false
namespace Go.Ev.Ck
open Go Go.Ev.Tok

theorem itoa_eq (n : Int) (h0 : 0 ≤ n) (h1 : n ≤ 9223372036854775807) : itoaS n = some (Lib.decDigits n.toNat) := by
  unfold itoaS
  rw [cond_dec (by omega)]
  unfold Lib.itoa
  rw [if_neg (by omega)]

theorem trim0 (s : List UInt8) (hs : s.length ≤ 100000) (k : Nat) : strings_TrimRight k s ([48] : List UInt8) = some (Lib.trimRightS s [48]) := by
  unfold strings_TrimRight trimR
  have h : (asciiB [48] && (([48] : List UInt8).length).blt findMax) = true := by decide
  rw [h, Bool.true_and]
  have h2 : s.length.blt 9223372036854775807 = true := by rw [Nat.blt_eq]; omega
  rw [h2, cond_true]

theorem dec_len (u : Nat) (h : u ≤ 1000000000) : (Lib.decDigits u).length ≤ 10 := by
  rw [Lib.decDigits_length]
  have : Lib.nDigits u ≤ 10 := by
    by_cases h2 : Lib.nDigits u ≤ 10
    · exact h2
    · exfalso
      have key : ∀ (j v : Nat), v < 10 ^ (j + 1) → Lib.nDigits v ≤ j + 1 := by
        intro j
        induction j with
        | zero => intro v hv; rw [Lib.nDigits_small (by simpa using hv)]; exact Nat.le_refl _
        | succ j ih =>
          intro v hv
          by_cases hs : v < 10
          · rw [Lib.nDigits_small hs]; omega
          · rw [Lib.nDigits_big hs]
            have := ih (v / 10) (by rw [Nat.pow_succ] at hv; omega)
            omega
      exact h2 (key 9 u (by omega))
  exact this

theorem ble_ok {a b : Nat} (h : a + b ≤ 1000000) : Nat.ble (a + b) 9223372036854775807 = true := by rw [Nat.ble_eq]; omega

theorem text_c18 (k : Nat) (x y : List UInt8) (n : Int) (h : x.length + y.length ≤ 1000000) : dim_Text.c18 k x n y = some (x ++ y) := by
  unfold dim_Text.c18
  rw [ble_ok h, cond_true]

theorem text_c10 (k m : Nat) (hm : m ≤ 1000000000) (neg : Bool) (n : Int) (u : List UInt8) (hu : u.length ≤ 100) :
    dim_Text.c10 k (m : Int) (bif neg then [45] else []) n u = some (numS neg m ++ u) := by
  unfold dim_Text.c10
  have p : ((1000 : Int) != 0) = true := rfl
  have w1 : IntKind.wrap .i64 (Int.tdiv (m : Int) 1000) = ((m / 1000 : Nat) : Int) := by rw [tdiv_u _ (by omega), wrap_i64 (by omega) (by omega)]; omega
  have w2 : IntKind.wrap .i64 ((1000 : Int) + Int.tmod (m : Int) 1000) = ((1000 + m % 1000 : Nat) : Int) := by rw [tmod_u _ (by omega), wrap_i64 (by omega) (by omega)]; omega
  simp only [p, cond_true, w1, w2, strconv_Itoa]
  rw [itoa_eq _ (by omega) (by omega), itoa_eq _ (by omega) (by omega)]
  simp only [Option.bind_some, Int.toNat_natCast]
  rw [dec4 _ (Nat.mod_lt _ (by decide))]
  have hl := dec_len (m / 1000) (by omega)
  have hf := fr_ok (m % 1000) (Nat.mod_lt _ (by decide))
  have hsg : (bif neg then [45] else [] : List UInt8).length ≤ 1 := by cases neg <;> decide
  have ld3 : (d3 (m % 1000)).length = 3 := rfl
  rw [ble_ok (by omega), cond_true, cond_dec (by rw [List.length_cons, ld3]; decide)]
  have ed : (49 :: d3 (m % 1000)).drop (1 : Int).toNat = d3 (m % 1000) := rfl
  rw [ed, trim0 _ (by rw [ld3]; decide)]
  simp only [Option.bind_some]
  show cond (!(fr (m % 1000) == [])) _ _ = _
  by_cases h : fr (m % 1000) = []
  · rw [h]
    show dim_Text.c18 k _ n u = _
    rw [text_c18 _ _ _ _ (by rw [List.length_append]; omega)]
    unfold numS frT
    rw [if_pos h, List.append_nil]
  · have hb : (fr (m % 1000) == []) = false := by simpa using h
    rw [hb]
    show cond (Nat.ble (([46] : List UInt8).length + (fr (m % 1000)).length) 9223372036854775807) (cond (Nat.ble (((bif neg then [45] else []) ++ Lib.decDigits (m / 1000)).length + (([46] : List UInt8) ++ fr (m % 1000)).length) 9223372036854775807) (dim_Text.c18 k (((bif neg then [45] else []) ++ Lib.decDigits (m / 1000)) ++ (([46] : List UInt8) ++ fr (m % 1000))) n u) none) none = _
    rw [ble_ok (by simp; omega), cond_true, ble_ok (by simp; omega), cond_true, text_c18 _ _ _ _ (by simp; omega)]
    unfold numS frT
    rw [if_neg h]
    simp

/-- A number's text. -/
def txt (n : Int) (u : List UInt8) : List UInt8 := numS (decide (n < 0)) n.natAbs ++ u

theorem text_eq' (k : Nat) (n : Int) (h0 : -1000000000 ≤ n) (h1 : n ≤ 1000000000) (u : List UInt8) (hu : u.length ≤ 100) : dim_Text k n u = some (txt n u) := by
  unfold dim_Text
  have e1 : (if (-1000000000 : Int) > n then (-1000000000 : Int) else n) = n := by rw [if_neg (by omega)]
  have e2 : (if (1000000000 : Int) < n then (1000000000 : Int) else n) = n := by rw [if_neg (by omega)]
  simp only [e1, e2]
  by_cases h : n < 0
  · rw [cond_dec h, wrap_i64 (by omega) (by omega)]
    have e3 : (0 : Int) - n = ((n.natAbs : Nat) : Int) := by omega
    rw [e3]
    have := text_c10 k n.natAbs (by omega) true n u hu
    simp only [cond_true] at this
    rw [this]
    unfold txt
    rw [decide_eq_true h]
  · rw [cond_ndec h]
    have e3 : n = ((n.natAbs : Nat) : Int) := by omega
    have := text_c10 k n.natAbs (by omega) false n u hu
    simp only [cond_false] at this
    rw [← e3] at this
    rw [this]
    unfold txt
    rw [decide_eq_false h]

theorem numS_le (neg : Bool) (m : Nat) (hm : m ≤ 1000000000) : (numS neg m).length ≤ 20 := by
  rw [numS_len]
  have h1 := dec_len (m / 1000) (by omega)
  have h2 := (fr_ok (m % 1000) (Nat.mod_lt _ (by decide))).2.1
  split <;> split <;> omega

theorem units_len : ∀ i : Fin 7, (units.getD i.val []).length ≤ 3 := by decide

theorem index_loop (k : Nat) (l : List (List UInt8)) (x : List UInt8) (hl : l.length ≤ 100000) (j : Nat) (hj : l[j]? = some x) : ∀ (f i : Nat), i ≤ j → l.length - i < f →
    ∃ q : Nat, slices_Index___string_string_.c5 k f l x (l.length : Int) (i : Int) (some (-1)) = some (q : Int)
  | 0, i, _, h => by omega
  | f + 1, i, hi, h => by
    have hjl := (List.getElem?_eq_some_iff.1 hj).1
    unfold slices_Index___string_string_.c5
    rw [cond_dec (by omega), cond_dec (by omega)]
    simp only [Int.toNat_natCast]
    have w : IntKind.wrap .i64 ((i : Int) + 1) = ((i + 1 : Nat) : Int) := by rw [wrap_i64 (by omega) (by omega)]; omega
    cases he : (x == l.getD i []) with
    | true => exact ⟨i, rfl⟩
    | false =>
      rw [cond_false, w]
      refine index_loop k l x hl j hj f (i + 1) ?_ (by omega)
      by_cases hij : i = j
      · subst hij
        rw [List.getD_eq_getElem?_getD, hj] at he
        simp at he
      · omega

theorem contains_eq (k : Nat) (l : List (List UInt8)) (x : List UInt8) (hl : l.length ≤ 100000) (hk : l.length < k) (j : Nat) (hj : l[j]? = some x) : slices_Contains___string_string_ k l x = some true := by
  unfold slices_Contains___string_string_ slices_Index___string_string_
  obtain ⟨q, hq⟩ := index_loop k l x hl j hj k 0 (by omega) (by omega)
  rw [show ((0 : Nat) : Int) = 0 from rfl] at hq
  rw [hq]
  simp only [Option.bind_some]
  rw [decide_eq_true (by omega)]

theorem units_at (i : Nat) (h : i < 7) : g1_0[i]? = some (units.getD i []) := by
  have : g1_0 = units := rfl
  have hl : units.length = 7 := rfl
  rw [this, List.getD_eq_getElem?_getD, List.getElem?_eq_getElem (by omega)]
  rfl

/-- What was told is read. -/
theorem read_txt (k : Nat) (hk : 200 ≤ k) (n : Int) (h0 : -1000000000 ≤ n) (h1 : n ≤ 1000000000) (i : Nat) (hi : i < 7) : dim_Read k (txt n (units.getD i [])) = some (n, units.getD i [], 0) := by
  have hul := units_len ⟨i, hi⟩
  simp only at hul
  obtain ⟨hu1, hu2⟩ := unit_of i hi
  have hlen : (txt n (units.getD i [])).length ≤ 30 := by
    unfold txt
    have := numS_le (decide (n < 0)) n.natAbs (by omega)
    rw [List.length_append]; omega
  unfold dim_Read
  rw [Cut_eq k _ (by omega) (by omega)]
  have ht : toks (txt n (units.getD i [])) = [⟨7, txt n (units.getD i []), units.getD i [], n⟩] := by
    unfold toks txt
    rw [tok_numS _ _ _ hu2 hu1 (by omega)]
    simp only [List.map_cons, List.map_nil, mk]
    congr 2
    by_cases h : n < 0
    · rw [decide_eq_true h, if_pos rfl]; omega
    · rw [decide_eq_false h, if_neg (by decide)]; omega
  rw [ht]
  simp only [Option.bind_some]
  have hc := contains_eq k g1_0 _ (by decide) (by have : g1_0.length = 7 := rfl; omega) i (units_at i hi)
  show (slices_Contains___string_string_ k g1_0 (units.getD i [])).bind _ = _
  rw [hc]
  rfl

end Go.Ev.Ck

-- from EvCkA
set_option linter.unusedVariables false
set_option linter.unusedSimpArgs false
namespace Go.Ev.Ck
open Go Go.Ev.Tok

/-- Tokens that can be read. -/
structure Fit (L : List Tk) : Prop where
  ne : ∀ t ∈ L, t.2.1 ≠ []
  sz : ∀ t ∈ L, t.2.1.length ≤ 1000
  va : ∀ t ∈ L, t.2.2.1.length ≤ 1000
  al : ∀ t ∈ L, cutP t.2.1 = [t]
  nb : ∀ t ∈ L, -1000000000 ≤ t.2.2.2 ∧ t.2.2.2 ≤ 1000000000
  len : L.length ≤ 1000

theorem Fit.sub {L M : List Tk} (h : Fit L) (hs : M.Sublist L) : Fit M :=
  ⟨fun t ht => h.ne t (hs.subset ht), fun t ht => h.sz t (hs.subset ht), fun t ht => h.va t (hs.subset ht), fun t ht => h.al t (hs.subset ht), fun t ht => h.nb t (hs.subset ht), Nat.le_trans hs.length_le h.len⟩
theorem Fit.drop {L : List Tk} (h : Fit L) (n : Nat) : Fit (L.drop n) := h.sub (List.drop_sublist n L)

theorem nabs_bd (s : List UInt8) : 0 ≤ nabs s ∧ nabs s ≤ 1000000000 := by
  unfold nabs
  exact addD_bd _ (addD_bd _ (addD_bd _ (fold_bd _ 0 (by decide) (by decide)).1).1).1

theorem nval_bd (s : List UInt8) : -1000000000 ≤ nval s ∧ nval s ≤ 1000000000 := by
  have := nabs_bd s
  unfold nval
  split
  · omega
  · split <;> omega

theorem tok1_bd (s : List UInt8) : -1000000000 ≤ (tok1 s).2.2.2 ∧ (tok1 s).2.2.2 ≤ 1000000000 := by
  have hv := nval_bd s
  have hb : ∀ (b : Bool) (x y : Int × Nat × List UInt8 × Int), (-1000000000 ≤ x.2.2.2 ∧ x.2.2.2 ≤ 1000000000) → (-1000000000 ≤ y.2.2.2 ∧ y.2.2.2 ≤ 1000000000) → -1000000000 ≤ (cond b x y).2.2.2 ∧ (cond b x y).2.2.2 ≤ 1000000000 := by
    intro b x y hx hy; cases b <;> assumption
  have z : ∀ (a : Int) (b : Nat) (c : List UInt8), -1000000000 ≤ ((a, b, c, (0 : Int)) : Int × Nat × List UInt8 × Int).2.2.2 ∧ ((a, b, c, (0 : Int)) : Int × Nat × List UInt8 × Int).2.2.2 ≤ 1000000000 := fun a b c => ⟨by show (-1000000000 : Int) ≤ 0; decide, by show (0 : Int) ≤ 1000000000; decide⟩
  unfold tok1
  split
  · exact z _ _ _
  · refine hb _ _ _ (z _ _ _) (hb _ _ _ (hb _ _ _ (z _ _ _) (z _ _ _)) (hb _ _ _ (z _ _ _) (hb _ _ _ (z _ _ _) ?_)))
    split
    · unfold numT
      exact hb _ _ _ hv (hb _ _ _ hv hv)
    · refine hb _ _ _ ?_ (z _ _ _)
      unfold nameT
      exact hb _ _ _ (z _ _ _) (z _ _ _)

theorem cut_bd : ∀ (n : Nat) (s : List UInt8), s.length ≤ n → ∀ t ∈ cutP s, -1000000000 ≤ t.2.2.2 ∧ t.2.2.2 ≤ 1000000000
  | 0, s, h, t, ht => by
    have : s = [] := List.length_eq_zero_iff.1 (by omega)
    subst this
    cases ht
  | n + 1, s, h, t, ht => by
    by_cases hs : s = []
    · subst hs; cases ht
    · rw [cutP_cons s hs] at ht
      have h1 := tok1_ok s hs
      rcases List.mem_cons.1 ht with rfl | ht
      · exact tok1_bd s
      · exact cut_bd n _ (by rw [List.length_drop]; omega) t ht

theorem Fit.cut (s : List UInt8) (h : s.length ≤ 1000) : Fit (cutP s) := by
  have hr := cutP_raw _ s (Nat.le_refl _)
  have hz : ∀ t ∈ cutP s, t.2.1.length ≤ s.length := by
    intro t ht
    have : t.2.1.Sublist (rw (cutP s)) := List.sublist_flatten_of_mem (List.mem_map_of_mem (f := fun t : Tk => t.2.1) ht)
    rw [rw_cut] at this
    exact this.length_le
  refine ⟨hr.2, fun t ht => by have := hz t ht; omega, fun t ht => by have := hz t ht; have := cut_val _ s (Nat.le_refl _) t ht; omega, fun t ht => ?_, cut_bd _ s (Nat.le_refl _), by have := cutP_len _ s (Nat.le_refl _); omega⟩
  obtain ⟨A, B, hAB⟩ := List.append_of_mem ht
  have h1 : cutP s = A ++ [t] ++ B := by rw [hAB]; simp
  have h2 := cut_seg h1
  have h3 : rw [t] = t.2.1 := by rw [rw_cons, rw_nil, List.append_nil]
  rw [h3] at h2
  exact h2

/-- Blanks and remarks left out. -/
def gapP (l : List Tk) : List Tk := l.dropWhile silT
def hdR (l : List Tk) (s : List UInt8) : Bool := match l with
  | t :: _ => t.2.1 == s
  | [] => false

theorem gapP_drop (l : List Tk) : ∃ j, gapP l = l.drop j ∧ j ≤ l.length := by
  induction l with
  | nil => exact ⟨0, rfl, Nat.le_refl _⟩
  | cons t r ih =>
    obtain ⟨j, h, hj⟩ := ih
    unfold gapP at h ⊢
    rw [List.dropWhile_cons]
    split
    · exact ⟨j + 1, h, by simp; exact hj⟩
    · exact ⟨0, rfl, Nat.zero_le _⟩

theorem gapP_le (l : List Tk) : (gapP l).length ≤ l.length := (List.dropWhile_sublist _).length_le
theorem Fit.gap {L : List Tk} (h : Fit L) : Fit (gapP L) := h.sub (List.dropWhile_sublist _)
theorem Fit.tail {L : List Tk} (h : Fit L) : Fit L.tail := h.sub (List.tail_sublist L)

theorem gap_loop (k : Nat) (x : Int) (n : Int) (g : Bool) (K : Int → List S106 → Int → Bool → Option (Bool × (List S106) × Int × Bool)) : ∀ (f : Nat) (l : List Tk), l.length < f → l.length ≤ 1000 →
    calc_reader__gap_v2.c5 k f x (l.map mk) n g K = K x ((gapP l).map mk) n g
  | 0, l, h, _ => by omega
  | f + 1, [], h, _ => by
    unfold calc_reader__gap_v2.c5
    rfl
  | f + 1, t :: r, h, hl => by
    unfold calc_reader__gap_v2.c5
    simp only [List.length_cons] at h hl
    have e1 : decide (((((t :: r).map mk).length : Nat) : Int) > 0) = true := decide_eq_true (by simp only [List.length_map, List.length_cons]; omega)
    have e2 : decide (0 ≤ (0 : Int) ∧ (0 : Int) < ((((t :: r).map mk).length : Nat) : Int)) = true := decide_eq_true (by simp only [List.length_map, List.length_cons]; omega)
    have e3 : ((t :: r).map mk).getD ((0 : Int).toNat) S106.d = mk t := rfl
    simp only [e1, e2, e3, Bool.true_or, cond_true]
    have hs : (cond ((mk t).Kind == (8 : Int)) true ((mk t).Kind == (9 : Int))) = silT t := by
      show cond (t.1 == (8 : Int)) true (t.1 == (9 : Int)) = _
      unfold silT
      cases t.1 == (8 : Int) <;> rfl
    rw [hs]
    unfold gapP
    rw [List.dropWhile_cons]
    cases silT t with
    | false => rfl
    | true =>
      simp only [cond_true, if_true]
      rw [cond_dec (by simp only [List.length_map, List.length_cons]; omega)]
      exact gap_loop k x n g K f r (by omega) (by omega)

theorem gap_same (k : Nat) (x : Int) (n : Int) (g : Bool) (K : Int → List S106 → Int → Bool → Option (Bool × (List S106) × Int × Bool)) : ∀ (f : Nat) (l : List S106),
    calc_reader__gap.c5 k f x l n g K = calc_reader__gap_v2.c5 k f x l n g K
  | 0, l => rfl
  | f + 1, l => by
    unfold calc_reader__gap.c5 calc_reader__gap_v2.c5
    simp only [gap_same k x n g K f]

theorem gap2_eq (k : Nat) (hk : 1001 < k) (l : List Tk) (hl : l.length ≤ 1000) (n : Int) (g : Bool) : calc_reader__gap_v2 k (l.map mk) n g = some (decide ((gapP l).length < l.length), (gapP l).map mk, n, g) := by
  unfold calc_reader__gap_v2
  rw [gap_loop k _ n g _ k l (by omega) hl]
  simp only [List.length_map, Int.ofNat_lt]

theorem gap1_eq (k : Nat) (hk : 1001 < k) (l : List Tk) (hl : l.length ≤ 1000) (n : Int) (g : Bool) : calc_reader__gap k n g (l.map mk) = some (decide ((gapP l).length < l.length), (gapP l).map mk, n, g) := by
  unfold calc_reader__gap
  rw [gap_same, gap_loop k _ n g _ k l (by omega) hl]
  simp only [List.length_map, Int.ofNat_lt]

theorem raw_eq (k : Nat) (s : List UInt8) (l : List Tk) (hl : l.length ≤ 1000) (n : Int) (g : Bool) : calc_reader__raw k s (l.map mk) n g = some (hdR l s, (bif hdR l s then l.tail else l).map mk, n, g) := by
  unfold calc_reader__raw hdR
  match l, hl with
  | [], _ => rfl
  | t :: r, hl =>
    simp only [List.length_cons] at hl
    have e1 : ((((t :: r).map mk).length : Int) == (0 : Int)) = false := beq_eq_false_iff_ne.2 (by simp only [List.length_map, List.length_cons]; omega)
    have e2 : decide (0 ≤ (0 : Int) ∧ (0 : Int) < ((((t :: r).map mk).length : Nat) : Int)) = true := decide_eq_true (by simp only [List.length_map, List.length_cons]; omega)
    have e3 : decide (0 ≤ (1 : Int) ∧ (1 : Int) ≤ ((((t :: r).map mk).length : Nat) : Int)) = true := decide_eq_true (by simp only [List.length_map, List.length_cons]; omega)
    have e4 : ((t :: r).map mk).getD ((0 : Int).toNat) S106.d = mk t := rfl
    simp only [e1, e2, e3, e4, Bool.true_or, cond_true, cond_false]
    rw [show ((mk t).Raw == s) = (t.2.1 == s) from rfl]
    cases t.2.1 == s <;> rfl

theorem lower2 (k : Nat) : ∀ (n : Nat) (a b : Int) (l : List Int) (K : List Int → Option (List UInt8)), calc_lower.c7 k n a b l K = csstok_lower.c7 k n a b l K
  | 0, _, _, _, _ => rfl
  | n + 1, a, b, l, K => by
    unfold calc_lower.c7 csstok_lower.c7
    simp only [lower2 k n]

theorem lower_eq' (k : Nat) (l : List UInt8) (hl : l.length ≤ 1000) (hk : 100001 < k) : calc_lower k l = some (l.map lowB) := by
  rw [← lower_eq k l (by omega) (by omega)]
  unfold calc_lower csstok_lower
  rw [lower2]

/-- Where a text stands first in a list. -/
def idxF (x : List UInt8) : List (List UInt8) → Nat → Int
  | [], _ => -1
  | y :: r, i => bif x == y then (i : Int) else idxF x r (i + 1)

theorem index_eq (k : Nat) (l : List (List UInt8)) (x : List UInt8) (hl : l.length ≤ 1000) : ∀ (f i : Nat), i ≤ l.length → l.length - i < f →
    slices_Index___string_string_.c5 k f l x (l.length : Int) (i : Int) (some (-1 : Int)) = some (idxF x (l.drop i) i)
  | 0, i, _, h => by omega
  | f + 1, i, hi, hf => by
    unfold slices_Index___string_string_.c5
    simp only [Int.toNat_natCast]
    rcases Nat.lt_or_ge i l.length with h1 | h1
    · have hd : l.drop i = l[i] :: l.drop (i + 1) := List.drop_eq_getElem_cons h1
      have hg : l.getD i [] = l[i] := by rw [List.getD_eq_getElem?_getD, List.getElem?_eq_getElem h1]; rfl
      have w1 : IntKind.wrap .i64 ((i : Int) + 1) = ((i + 1 : Nat) : Int) := by rw [wrap_i64 (by omega) (by omega)]; omega
      rw [cond_dec (by omega), cond_dec (by omega), hg, hd, idxF]
      cases x == l[i] with
      | true => rfl
      | false =>
        simp only [cond_false, w1]
        exact index_eq k l x hl f (i + 1) (by omega) (by omega)
    · have : i = l.length := by omega
      subst this
      rw [cond_ndec (by omega), List.drop_length]
      rfl

theorem Index_eq (k : Nat) (hk : 1001 < k) (l : List (List UInt8)) (x : List UInt8) (hl : l.length ≤ 1000) : slices_Index___string_string_ k l x = some (idxF x l 0) := by
  unfold slices_Index___string_string_
  have := index_eq k l x hl k 0 (by omega) (by omega)
  rw [List.drop_zero] at this
  exact this

def dimP (t : Tk) : Int × List UInt8 × Int := bif decide (idxF t.2.2.1 g1_0 0 ≥ 0) then (t.2.2.2, t.2.2.1, 0) else (0, [], 4)

theorem dim_eq (k : Nat) (hk : 100010 < k) (t : Tk) (h : cutP t.2.1 = [t]) (h7 : t.1 = 7) (hz : t.2.1.length ≤ 1000) : dim_Read k t.2.1 = some (dimP t) := by
  unfold dim_Read
  rw [Cut_eq k t.2.1 (by omega) (by omega)]
  simp only [Option.bind_some]
  have ht : toks t.2.1 = [mk t] := by unfold toks; rw [h]; rfl
  rw [ht]
  have e1 : (((([mk t] : List S106).length : Nat) : Int) != (1 : Int)) = false := rfl
  have e2 : decide (0 ≤ (0 : Int) ∧ (0 : Int) < ((([mk t] : List S106).length : Nat) : Int)) = true := rfl
  have e3 : ([mk t] : List S106).getD ((0 : Int).toNat) S106.d = mk t := rfl
  have e4 : ((mk t).Kind != (7 : Int)) = false := by show (t.1 != 7) = false; rw [h7]; rfl
  simp only [e1, e2, e3, e4, Bool.true_or, Bool.not_false, cond_true, cond_false]
  have hc : slices_Contains___string_string_ k g1_0 (mk t).Value = some (decide (idxF t.2.2.1 g1_0 0 ≥ 0)) := by
    unfold slices_Contains___string_string_
    rw [Index_eq k (by omega) g1_0 _ (by decide)]
    rfl
  rw [hc]
  simp only [Option.bind_some]
  unfold dimP
  cases decide (idxF t.2.2.1 g1_0 0 ≥ 0) <;> rfl

inductive Out where
  | err (e : Int)
  | ok (t : S52) (l : List Tk) (n : Int) (g : Bool)

/-- As the natives give it. -/
def Out.rep : Out → Bool × Int × (Int × Int × (List UInt8) × (List S52) × (List S106) × Int × Bool)
  | .err e => (true, e, ((0 : Int), (0 : Int), [], [], [], (0 : Int), false))
  | .ok t l n g => (false, (0 : Int), (t.Kind, t.Dim_Num, t.Dim_Unit, t.Subs, l.map mk, n, g))

def madeP (t : S52) (l : List Tk) (n : Int) (g : Bool) : Out := bif decide (n + 1 > 30) then .err 2 else .ok t l (n + 1) g

structure RR where
  val : Bool → List Tk → Int → Bool → Option Out
  sum : List Tk → Int → Bool → Option Out
  prod : List Tk → Int → Bool → Option Out

def thenP (o : Option Out) (K : S52 → List Tk → Int → Bool → Option Out) : Option Out := o.bind fun
  | .err e => some (.err e)
  | .ok t l n g => K t l n g

def prodL (r : RR) : Nat → S52 → List Tk → Int → Bool → Option Out
  | 0, _, _, _, _ => none
  | f + 1, t, l, n, g =>
    bif hdR (gapP l) [42] then
      thenP (r.val true (gapP (gapP l).tail) n (decide ((gapP l).length < l.length))) fun t2 l2 n2 g2 => thenP (some (madeP ⟨4, 0, [], [t, t2]⟩ l2 n2 g2)) fun t3 l3 n3 g3 => prodL r f t3 l3 n3 g3
    else bif hdR (gapP l) [47] then
      thenP (r.val true (gapP (gapP l).tail) n (decide ((gapP l).length < l.length))) fun t2 l2 n2 g2 => thenP (some (madeP ⟨5, 0, [], [t, t2]⟩ l2 n2 g2)) fun t3 l3 n3 g3 => prodL r f t3 l3 n3 g3
    else some (.ok t (gapP l) n (decide ((gapP l).length < l.length)))

def prodP (k : Nat) (r : RR) (l : List Tk) (n : Int) (g : Bool) : Option Out := thenP (r.val true (gapP l) n g) fun t l n g => prodL r k t l n g

def sumStep (r : RR) (kd : Int) (t : S52) (l : List Tk) (n : Int) (g : Bool) (K : S52 → List Tk → Int → Bool → Option Out) : Option Out :=
  bif !(g && decide ((gapP l.tail).length < l.tail.length)) then some (.err 4)
  else thenP (r.prod (gapP l.tail) n g) fun t2 l2 n2 g2 => thenP (some (madeP ⟨kd, 0, [], [t, t2]⟩ l2 n2 g2)) K

def sumL (r : RR) : Nat → S52 → List Tk → Int → Bool → Option Out
  | 0, _, _, _, _ => none
  | f + 1, t, l, n, g => bif hdR l [43] then sumStep r 2 t l n g (sumL r f) else bif hdR l [45] then sumStep r 3 t l n g (sumL r f) else some (.ok t l n g)

def sumP (k : Nat) (r : RR) (l : List Tk) (n : Int) (g : Bool) : Option Out := thenP (r.prod l n g) fun t l n g => sumL r k t l n g

def shp (kd : Int) (m : Nat) : Bool := bif kd == 8 then (m : Int) == 3 else decide ((m : Int) > 0)

def minL (r : RR) (kd : Int) : Nat → List S52 → List Tk → Int → Bool → Option Out
  | 0, _, _, _, _ => none
  | f + 1, acc, l, n, g => thenP (r.sum l n g) fun t l2 n2 g2 =>
    bif hdR l2 [44] then minL r kd f (acc ++ [t]) l2.tail n2 g2
    else bif hdR l2 [41] then bif shp kd (acc ++ [t]).length then some (madeP ⟨kd, 0, [], acc ++ [t]⟩ l2.tail n2 g2) else some (.err 4)
    else some (.err 4)

def names : List (List UInt8) := [[], [], [], [], [], [], ([109, 105, 110] : List UInt8), ([109, 97, 120] : List UInt8), ([99, 108, 97, 109, 112] : List UInt8)]

def parenP (r : RR) (l : List Tk) (n : Int) (g : Bool) : Option Out := thenP (r.sum l n g) fun t l2 n2 g2 => bif hdR l2 [41] then some (.ok t l2.tail n2 g2) else some (.err 4)

def valP (k : Nat) (r : RR) (a : Bool) (l : List Tk) (n : Int) (g : Bool) : Option Out :=
  match l with
  | [] => some (.err 4)
  | t :: l' =>
    bif t.1 == 7 then bif (dimP t).2.2 == 0 then some (madeP ⟨1, (dimP t).1, (dimP t).2.1, []⟩ l' n g) else some (.err 4)
    else bif a && t.2.1 == [40] then parenP r l' n g
    else bif !(t.1 == 2) then some (.err 4)
    else bif t.2.2.1.map lowB == [99, 97, 108, 99] then parenP r l' n g
    else bif decide (idxF (t.2.2.1.map lowB) names 0 > 0) then minL r (idxF (t.2.2.1.map lowB) names 0) k [] l' n g
    else some (.err 4)

def recP (k : Nat) : Nat → RR
  | 0 => ⟨fun _ _ _ _ => none, fun _ _ _ => none, fun _ _ _ => none⟩
  | f + 1 => ⟨valP k (recP k f), sumP k (recP k f), prodP k (recP k f)⟩

-- the natives

/-- What is given is behind what was asked, and nothing is counted down. -/
def Beh (l : List Tk) (n : Int) (o : Option Out) : Prop := ∀ t l' n' g', o = some (.ok t l' n' g') → (∃ j, l' = l.drop j) ∧ n ≤ n' ∧ n' ≤ 30

structure REq (r : calc_reader__value.G.R) (R : RR) : Prop where
  val : ∀ a l n g, Fit l → 0 ≤ n → n ≤ 30 → r.calc_reader__value a (l.map mk) n g = (R.val a l n g).map Out.rep ∧ Beh l n (R.val a l n g)
  sum : ∀ l n g, Fit l → 0 ≤ n → n ≤ 30 → r.calc_reader__sum (l.map mk) n g = (R.sum l n g).map Out.rep ∧ Beh l n (R.sum l n g)
  prod : ∀ l n g, Fit l → 0 ≤ n → n ≤ 30 → r.calc_reader__product (l.map mk) n g = (R.prod l n g).map Out.rep ∧ Beh l n (R.prod l n g)

theorem Beh.none (l : List Tk) (n : Int) : Beh l n none := fun _ _ _ _ h => by cases h
theorem Beh.err (l : List Tk) (n e : Int) : Beh l n (some (.err e)) := fun _ _ _ _ h => by cases h
theorem Beh.here {l : List Tk} {n : Int} (h : n ≤ 30) (t : S52) (g : Bool) : Beh l n (some (.ok t l n g)) := fun _ _ _ _ h' => by cases h'; exact ⟨⟨0, rfl⟩, Int.le_refl _, h⟩
theorem Beh.of {l l1 : List Tk} {n n1 : Int} {o : Option Out} (h : Beh l1 n1 o) (hl : ∃ j, l1 = l.drop j) (hn : n ≤ n1) : Beh l n o := fun t l' n' g' e => by
  obtain ⟨⟨j, hj⟩, h2, h3⟩ := h t l' n' g' e
  obtain ⟨i, hi⟩ := hl
  exact ⟨⟨i + j, by rw [hj, hi, List.drop_drop]⟩, by omega, h3⟩

theorem Beh.thenP {l : List Tk} {n : Int} {o : Option Out} {K : S52 → List Tk → Int → Bool → Option Out} (h : Beh l n o) (hK : ∀ t l' n' g', o = some (.ok t l' n' g') → (∃ j, l' = l.drop j) → n ≤ n' → n' ≤ 30 → Beh l' n' (K t l' n' g')) :
    Beh l n (thenP o K) := by
  match o, h, hK with
  | Option.none, _, _ => exact Beh.none _ _
  | some (.err e), _, _ => exact Beh.err _ _ _
  | some (.ok t l' n' g'), h, hK =>
    obtain ⟨h1, h2, h3⟩ := h t l' n' g' rfl
    exact (hK t l' n' g' rfl h1 h2 h3).of h1 h2

theorem Beh.made {l : List Tk} {n : Int} (h0 : n ≤ 30) (t : S52) (g : Bool) : Beh l n (some (madeP t l n g)) := by
  unfold madeP
  cases hd : decide (n + 1 > 30) with
  | true => exact Beh.err _ _ _
  | false =>
    have := of_decide_eq_false hd
    exact fun _ _ _ _ h' => by cases h'; exact ⟨⟨0, rfl⟩, by omega, by omega⟩

theorem tail_drop (l : List Tk) : ∃ j, l.tail = l.drop j := ⟨1, (List.drop_one (l := l)).symm⟩

/-- What is done with an outcome. -/
theorem then_eq {o : Option Out} {K : S52 → List Tk → Int → Bool → Option Out} {N : Bool × Int × (Int × Int × (List UInt8) × (List S52) × (List S106) × Int × Bool) → Option (Bool × Int × (Int × Int × (List UInt8) × (List S52) × (List S106) × Int × Bool))}
    (h : ∀ t l n g, o = some (.ok t l n g) → N (Out.ok t l n g).rep = (K t l n g).map Out.rep) :
    ((o.map Out.rep).bind fun r5 => cond r5.1 (some (true, r5.2.1, ((0 : Int), (0 : Int), [], [], [], (0 : Int), false))) (N r5)) = (thenP o K).map Out.rep := by
  match o, h with
  | none, _ => rfl
  | some (.err e), _ => rfl
  | some (.ok t l n g), h => exact h t l n g rfl

theorem S52_eta (t : S52) : (⟨t.Kind, t.Dim_Num, t.Dim_Unit, t.Subs⟩ : S52) = t := by cases t; rfl

theorem made2_eq (k : Nat) (t : S52) (l : List Tk) (n : Int) (h0 : 0 ≤ n) (h1 : n ≤ 30) (g : Bool) : calc_reader__made_v2 k t.Kind t.Dim_Num t.Dim_Unit (l.map mk) n g t.Subs =
    some (bif decide (n + 1 > 30) then (true, (2 : Int), ((0 : Int), (0 : Int), [], [], (0 : Int), false, [])) else (false, (0 : Int), (t.Kind, t.Dim_Num, t.Dim_Unit, l.map mk, n + 1, g, t.Subs))) := by
  unfold calc_reader__made_v2 calc_reader__made_v2.c8
  simp only [wrap_i64 (n := n + 1) (by omega) (by omega)]
  cases decide (n + 1 > 30) <;> rfl

theorem need_eq (k : Nat) (b : Bool) (l : List S106) (n : Int) (g : Bool) : calc_reader__need k b l n g = some (bif b then (false, (0 : Int), (l, n, g)) else (true, (4 : Int), ([], (0 : Int), false))) := by
  unfold calc_reader__need
  cases b <;> rfl

theorem prod_step (k : Nat) (hk : 1001 < k) {r : calc_reader__value.G.R} {R : RR} (hR : REq r R) (kd : Int) (t : S52) (l : List Tk) (hf : Fit l) (n : Int) (h0 : 0 ≤ n) (h1 : n ≤ 30) (g : Bool) (a b : Int) (c : List UInt8)
    (kn : (List S106) → Int → Bool → Int → Int → (List UInt8) → Int → Int → (List UInt8) → (List S52) → Option (Bool × Int × (Int × Int × (List UInt8) × (List S52) × (List S106) × Int × Bool))) (K : S52 → List Tk → Int → Bool → Option Out)
    (hK : ∀ t3 l3 n3 g3, (∃ j, l3 = l.drop j) → n ≤ n3 → n3 ≤ 30 → kn (l3.map mk) n3 g3 a b c t3.Kind t3.Dim_Num t3.Dim_Unit t3.Subs = (K t3 l3 n3 g3).map Out.rep) :
    calc_reader__product.c20 k r kd (l.map mk) n g a b c t.Kind t.Dim_Num t.Dim_Unit t.Subs kn =
      (thenP (R.val true (gapP l) n g) fun t2 l2 n2 g2 => thenP (some (madeP ⟨kd, 0, [], [t, t2]⟩ l2 n2 g2)) K).map Out.rep := by
  unfold calc_reader__product.c20
  rw [gap2_eq k hk l hf.len]
  simp only [Option.bind_some]
  obtain ⟨v1, v2⟩ := hR.val true (gapP l) n g hf.gap h0 h1
  rw [v1]
  refine then_eq fun t2 l2 n2 g2 ho => ?_
  obtain ⟨⟨j, hj⟩, b1, b2⟩ := v2 t2 l2 n2 g2 ho
  have hm := made2_eq k ⟨kd, 0, [], [t, t2]⟩ l2 n2 (by omega) b2 g2
  simp only [Out.rep, S52_eta]
  simp only at hm
  rw [hm]
  unfold madeP
  cases hd : decide (n2 + 1 > 30) with
  | true => rfl
  | false =>
    have hd := of_decide_eq_false hd
    obtain ⟨i, hi, _⟩ := gapP_drop l
    exact hK ⟨kd, 0, [], [t, t2]⟩ l2 (n2 + 1) g2 ⟨i + j, by rw [hj, hi, List.drop_drop]⟩ (by omega) (by omega)

theorem prodL_eq (k : Nat) (hk : 1001 < k) {r : calc_reader__value.G.R} {R : RR} (hR : REq r R) (a b : Int) (c : List UInt8) : ∀ (f : Nat) (t : S52) (l : List Tk) (n : Int) (g : Bool), Fit l → 0 ≤ n → n ≤ 30 →
    calc_reader__product.c7 k r f (l.map mk) n g a b c t.Kind t.Dim_Num t.Dim_Unit t.Subs = (prodL R f t l n g).map Out.rep ∧ Beh l n (prodL R f t l n g)
  | 0, t, l, n, g, _, _, _ => ⟨rfl, Beh.none _ _⟩
  | f + 1, t, l, n, g, hf, h0, h1 => by
    obtain ⟨i, hi, _⟩ := gapP_drop l
    have hft : Fit (gapP l).tail := hf.gap.tail
    have htd : ∃ j, (gapP l).tail = l.drop j := by
      obtain ⟨j, hj⟩ := tail_drop (gapP l)
      exact ⟨i + j, by rw [hj, hi, List.drop_drop]⟩
    have beh : ∀ kd, Beh l n (thenP (R.val true (gapP (gapP l).tail) n (decide ((gapP l).length < l.length))) fun t2 l2 n2 g2 => thenP (some (madeP ⟨kd, 0, [], [t, t2]⟩ l2 n2 g2)) fun t3 l3 n3 g3 => prodL R f t3 l3 n3 g3) := by
      intro kd
      obtain ⟨v1, v2⟩ := hR.val true (gapP (gapP l).tail) n (decide ((gapP l).length < l.length)) hft.gap h0 h1
      obtain ⟨j, hj⟩ := htd
      obtain ⟨i2, hi2, _⟩ := gapP_drop (gapP l).tail
      refine (v2.of (l := l) ⟨j + i2, by rw [hi2, hj, List.drop_drop]⟩ (Int.le_refl _)).thenP fun t2 l2 n2 g2 _ ⟨j2, hj2⟩ b1 b2 => ?_
      refine (Beh.made b2 _ _).thenP fun t3 l3 n3 g3 _ ⟨j3, hj3⟩ b3 b4 => ?_
      exact (prodL_eq k hk hR a b c f t3 l3 n3 g3 (by rw [hj3, hj2]; exact (hf.drop _).drop _) (by omega) b4).2
    unfold calc_reader__product.c7 prodL
    rw [gap2_eq k hk l hf.len]
    simp only [Option.bind_some]
    rw [raw_eq k _ (gapP l) hf.gap.len]
    simp only [Option.bind_some]
    cases h42 : hdR (gapP l) [42] with
    | true =>
      simp only [cond_true]
      refine ⟨?_, beh 4⟩
      refine prod_step k hk hR 4 t (gapP l).tail hft n h0 h1 _ _ _ _ _ _ fun t3 l3 n3 g3 ⟨j, hj⟩ b1 b2 => ?_
      exact (prodL_eq k hk hR _ _ _ f t3 l3 n3 g3 (by rw [hj]; exact hft.drop j) (by omega) b2).1
    | false =>
      simp only [cond_false]
      rw [raw_eq k _ (gapP l) hf.gap.len]
      simp only [Option.bind_some]
      cases h47 : hdR (gapP l) [47] with
      | true =>
        simp only [cond_true]
        refine ⟨?_, beh 5⟩
        refine prod_step k hk hR 5 t (gapP l).tail hft n h0 h1 _ _ _ _ _ _ fun t3 l3 n3 g3 ⟨j, hj⟩ b1 b2 => ?_
        exact (prodL_eq k hk hR _ _ _ f t3 l3 n3 g3 (by rw [hj]; exact hft.drop j) (by omega) b2).1
      | false =>
        simp only [cond_false]
        exact ⟨rfl, (Beh.here h1 t _).of ⟨i, hi⟩ (Int.le_refl _)⟩

theorem prod_eq (k : Nat) (hk : 1001 < k) {r : calc_reader__value.G.R} {R : RR} (hR : REq r R) (l : List Tk) (n : Int) (g : Bool) (hf : Fit l) (h0 : 0 ≤ n) (h1 : n ≤ 30) :
    calc_reader__product.nat k r (l.map mk) n g = (prodP k R l n g).map Out.rep ∧ Beh l n (prodP k R l n g) := by
  unfold calc_reader__product.nat prodP
  obtain ⟨v1, v2⟩ := hR.val true (gapP l) n g hf.gap h0 h1
  obtain ⟨i, hi, _⟩ := gapP_drop l
  refine ⟨?_, ?_⟩
  · rw [gap2_eq k hk l hf.len]
    simp only [Option.bind_some]
    rw [v1]
    refine then_eq fun t2 l2 n2 g2 ho => ?_
    obtain ⟨⟨j, hj⟩, b1, b2⟩ := v2 t2 l2 n2 g2 ho
    exact (prodL_eq k hk hR _ _ _ k t2 l2 n2 g2 (by rw [hj]; exact hf.gap.drop j) (by omega) b2).1
  · refine (v2.of ⟨i, hi⟩ (Int.le_refl _)).thenP fun t2 l2 n2 g2 _ ⟨j, hj⟩ b1 b2 => ?_
    exact (prodL_eq k hk hR 0 0 [] k t2 l2 n2 g2 (by rw [hj]; exact hf.drop j) (by omega) b2).2

theorem hdR_cons {l : List Tk} {s : List UInt8} (h : hdR l s = true) : ∃ t r, l = t :: r ∧ t.2.1 = s := by
  match l, h with
  | t :: r, h => exact ⟨t, r, rfl, eq_of_beq h⟩

theorem sum_step (k : Nat) (hk : 1001 < k) {r : calc_reader__value.G.R} {R : RR} (hR : REq r R) (kd : Int) (t : S52) (l : List Tk) (hne : l ≠ []) (hf : Fit l) (n : Int) (h0 : 0 ≤ n) (h1 : n ≤ 30) (g : Bool) (a b : Int) (c : List UInt8)
    (kn : (List S106) → Int → Bool → Int → Int → (List UInt8) → Int → Int → (List UInt8) → (List S52) → Option (Bool × Int × (Int × Int × (List UInt8) × (List S52) × (List S106) × Int × Bool))) (K : S52 → List Tk → Int → Bool → Option Out)
    (hK : ∀ t3 l3 n3 g3, (∃ j, l3 = l.drop j) → n ≤ n3 → n3 ≤ 30 → kn (l3.map mk) n3 g3 a b c t3.Kind t3.Dim_Num t3.Dim_Unit t3.Subs = (K t3 l3 n3 g3).map Out.rep ∧ Beh l3 n3 (K t3 l3 n3 g3)) :
    calc_reader__sum.c18 k r g kd (l.map mk) n g a b c t.Kind t.Dim_Num t.Dim_Unit t.Subs kn = (sumStep R kd t l n g K).map Out.rep ∧ Beh l n (sumStep R kd t l n g K) := by
  have hp := List.length_pos_iff.2 hne
  have hl := hf.len
  have hdm : (l.map mk).drop (1 : Int).toNat = l.tail.map mk := by
    rw [← List.map_drop]; show (l.drop 1).map mk = _; rw [List.drop_one]
  have hft : Fit l.tail := hf.tail
  obtain ⟨j1, hj1⟩ := tail_drop l
  obtain ⟨i, hi, _⟩ := gapP_drop l.tail
  obtain ⟨v1, v2⟩ := hR.prod (gapP l.tail) n g hft.gap h0 h1
  have hb2 := v2.of (l := l) ⟨j1 + i, by rw [hi, hj1, List.drop_drop]⟩ (Int.le_refl n)
  unfold calc_reader__sum.c18 sumStep
  rw [cond_dec (by simp only [List.length_map]; omega), hdm]
  refine ⟨?_, ?_⟩
  · cases g with
    | false =>
      simp only [cond_false, Bool.not_false, cond_true]
      rw [need_eq]
      rfl
    | true =>
      simp only [cond_true, Bool.true_and]
      rw [gap2_eq k hk _ hft.len]
      simp only [Option.bind_some]
      rw [need_eq]
      simp only [Option.bind_some]
      cases decide ((gapP l.tail).length < l.tail.length) with
      | false => rfl
      | true =>
        simp only [cond_true, cond_false, Bool.not_true]
        rw [v1]
        refine then_eq fun t2 l2 n2 g2 ho => ?_
        obtain ⟨⟨j, hj⟩, b1, b2⟩ := hb2 t2 l2 n2 g2 ho
        have hm := made2_eq k ⟨kd, 0, [], [t, t2]⟩ l2 n2 (by omega) b2 g2
        simp only [Out.rep, S52_eta]
        simp only at hm
        rw [hm]
        unfold madeP
        cases hd : decide (n2 + 1 > 30) with
        | true => rfl
        | false =>
          have hd := of_decide_eq_false hd
          exact (hK ⟨kd, 0, [], [t, t2]⟩ l2 (n2 + 1) g2 ⟨j, hj⟩ (by omega) (by omega)).1
  · cases (!(g && decide ((gapP l.tail).length < l.tail.length))) with
    | true => exact Beh.err _ _ _
    | false =>
      simp only [cond_false]
      refine hb2.thenP fun t2 l2 n2 g2 _ ⟨j, hj⟩ b1 b2 => ?_
      refine (Beh.made b2 _ _).thenP fun t3 l3 n3 g3 _ ⟨j3, hj3⟩ b3 b4 => ?_
      exact (hK t3 l3 n3 g3 ⟨j + j3, by rw [hj3, hj, List.drop_drop]⟩ (by omega) b4).2

theorem sumL_eq (k : Nat) (hk : 1001 < k) {r : calc_reader__value.G.R} {R : RR} (hR : REq r R) (a b : Int) (c : List UInt8) : ∀ (f : Nat) (t : S52) (l : List Tk) (n : Int) (g : Bool), Fit l → 0 ≤ n → n ≤ 30 →
    calc_reader__sum.c5 k r f (l.map mk) n g a b c t.Kind t.Dim_Num t.Dim_Unit t.Subs = (sumL R f t l n g).map Out.rep ∧ Beh l n (sumL R f t l n g)
  | 0, t, l, n, g, _, _, _ => ⟨rfl, Beh.none _ _⟩
  | f + 1, t, [], n, g, hf, h0, h1 => ⟨rfl, Beh.here h1 t _⟩
  | f + 1, t, u :: l, n, g, hf, h0, h1 => by
    have hl := hf.len
    unfold calc_reader__sum.c5 sumL
    have e1 : decide (((((u :: l).map mk).length : Nat) : Int) > 0) = true := decide_eq_true (by simp only [List.length_map, List.length_cons]; omega)
    have e2 : decide (0 ≤ (0 : Int) ∧ (0 : Int) < ((((u :: l).map mk).length : Nat) : Int)) = true := decide_eq_true (by simp only [List.length_map, List.length_cons]; omega)
    have e3 : ((u :: l).map mk).getD ((0 : Int).toNat) S106.d = mk u := rfl
    have e4 : (mk u).Raw = u.2.1 := rfl
    simp only [e1, e2, e3, e4, Bool.true_or, cond_true]
    rw [show hdR (u :: l) [43] = (u.2.1 == [43]) from rfl, show hdR (u :: l) [45] = (u.2.1 == [45]) from rfl]
    have ih := fun t3 l3 n3 g3 (hj : ∃ j, l3 = (u :: l).drop j) (b1 : n ≤ n3) (b2 : n3 ≤ 30) => sumL_eq k hk hR a b c f t3 l3 n3 g3 (by obtain ⟨j, hj⟩ := hj; rw [hj]; exact hf.drop j) (by omega) b2
    cases u.2.1 == ([43] : List UInt8) with
    | true =>
      simp only [cond_true]
      exact sum_step k hk hR 2 t (u :: l) (by simp) hf n h0 h1 g a b c _ _ ih
    | false =>
      simp only [cond_false]
      cases u.2.1 == ([45] : List UInt8) with
      | true =>
        simp only [cond_true]
        exact sum_step k hk hR 3 t (u :: l) (by simp) hf n h0 h1 g a b c _ _ ih
      | false => exact ⟨rfl, Beh.here h1 t _⟩

theorem sum_eq (k : Nat) (hk : 1001 < k) {r : calc_reader__value.G.R} {R : RR} (hR : REq r R) (l : List Tk) (n : Int) (g : Bool) (hf : Fit l) (h0 : 0 ≤ n) (h1 : n ≤ 30) :
    calc_reader__sum.nat k r (l.map mk) n g = (sumP k R l n g).map Out.rep ∧ Beh l n (sumP k R l n g) := by
  unfold calc_reader__sum.nat sumP
  obtain ⟨v1, v2⟩ := hR.prod l n g hf h0 h1
  refine ⟨?_, ?_⟩
  · rw [v1]
    refine then_eq fun t2 l2 n2 g2 ho => ?_
    obtain ⟨⟨j, hj⟩, b1, b2⟩ := v2 t2 l2 n2 g2 ho
    exact (sumL_eq k hk hR _ _ _ k t2 l2 n2 g2 (by rw [hj]; exact hf.drop j) (by omega) b2).1
  · refine v2.thenP fun t2 l2 n2 g2 _ ⟨j, hj⟩ b1 b2 => ?_
    exact (sumL_eq k hk hR 0 0 [] k t2 l2 n2 g2 (by rw [hj]; exact hf.drop j) (by omega) b2).2

theorem shaped_eq (k : Nat) (kd : Int) (hkd : kd = 6 ∨ kd = 7 ∨ kd = 8) (a : Int) (b : List UInt8) (l : List S52) : calc_shaped k kd a b l = some (shp kd l.length, l) := by
  rcases hkd with rfl | rfl | rfl <;> rfl

theorem minL_eq (k : Nat) (hk : 1001 < k) {r : calc_reader__value.G.R} {R : RR} (hR : REq r R) (kd : Int) (hkd : kd = 6 ∨ kd = 7 ∨ kd = 8) (a b : Int) (c : List UInt8) : ∀ (f : Nat) (acc : List S52) (l : List Tk) (n : Int) (g : Bool), Fit l → 0 ≤ n → n ≤ 30 → acc.length + l.length ≤ 2000 →
    calc_reader__value.c43 k r f (l.map mk) n g a b c kd 0 [] acc = (minL R kd f acc l n g).map Out.rep ∧ Beh l n (minL R kd f acc l n g)
  | 0, acc, l, n, g, _, _, _, _ => ⟨rfl, Beh.none _ _⟩
  | f + 1, acc, l, n, g, hf, h0, h1, hm => by
    obtain ⟨v1, v2⟩ := hR.sum l n g hf h0 h1
    have key : ∀ (t2 : S52) (l2 : List Tk) (n2 : Int) (g2 : Bool), (∃ j, l2 = l.drop j) → n ≤ n2 → n2 ≤ 30 → (hdR l2 [44] = true → l2.tail.length < l.length) := by
      intro t2 l2 n2 g2 ⟨j, hj⟩ _ _ h44
      obtain ⟨t, q, rfl, _⟩ := hdR_cons h44
      have := congrArg List.length hj
      simp only [List.length_cons, List.length_drop] at this
      simp only [List.tail_cons]
      omega
    unfold calc_reader__value.c43 minL
    refine ⟨?_, ?_⟩
    · rw [v1]
      refine then_eq fun t2 l2 n2 g2 ho => ?_
      obtain ⟨⟨j, hj⟩, b1, b2⟩ := v2 t2 l2 n2 g2 ho
      have hf2 : Fit l2 := by rw [hj]; exact hf.drop j
      simp only [Out.rep, S52_eta]
      rw [cond_dec (by simp only [List.length_append, List.length_cons, List.length_nil, most]; omega), raw_eq k _ l2 hf2.len]
      simp only [Option.bind_some]
      cases h44 : hdR l2 [44] with
      | true =>
        simp only [cond_true]
        have := key t2 l2 n2 g2 ⟨j, hj⟩ b1 b2 h44
        exact (minL_eq k hk hR kd hkd a b c f (acc ++ [t2]) l2.tail n2 g2 hf2.tail (by omega) b2 (by simp only [List.length_append, List.length_cons, List.length_nil]; omega)).1
      | false =>
        simp only [cond_false]
        rw [raw_eq k _ l2 hf2.len]
        simp only [Option.bind_some]
        cases h41 : hdR l2 [41] with
        | false =>
          simp only [cond_false, Bool.not_false, cond_true]
          rw [need_eq]
          rfl
        | true =>
          simp only [cond_true]
          have hs : calc_shaped k kd 0 [] (acc ++ [t2]) = some (shp kd (acc ++ [t2]).length, acc ++ [t2]) := shaped_eq k kd hkd 0 [] _
          rw [hs]
          simp only [Option.bind_some]
          rw [need_eq]
          simp only [Option.bind_some]
          cases shp kd (acc ++ [t2]).length with
          | false => rfl
          | true =>
            simp only [cond_true, cond_false]
            have hm := made2_eq k ⟨kd, 0, [], acc ++ [t2]⟩ l2.tail n2 (by omega) b2 g2
            simp only at hm
            rw [hm]
            simp only [Option.bind_some]
            unfold madeP
            cases decide (n2 + 1 > 30) <;> rfl
    · refine v2.thenP fun t2 l2 n2 g2 _ ⟨j, hj⟩ b1 b2 => ?_
      have hf2 : Fit l2 := by rw [hj]; exact hf.drop j
      cases h44 : hdR l2 [44] with
      | true =>
        have := key t2 l2 n2 g2 ⟨j, hj⟩ b1 b2 h44
        simp only [cond_true]
        exact (minL_eq k hk hR kd hkd a b c f (acc ++ [t2]) l2.tail n2 g2 hf2.tail (by omega) b2 (by simp only [List.length_append, List.length_cons, List.length_nil]; omega)).2.of (tail_drop l2) (Int.le_refl _)
      | false =>
        simp only [cond_false]
        cases hdR l2 [41] with
        | false => exact Beh.err _ _ _
        | true =>
          simp only [cond_true]
          cases shp kd (acc ++ [t2]).length with
          | false => exact Beh.err _ _ _
          | true => exact (Beh.made b2 _ _).of (tail_drop l2) (Int.le_refl _)

theorem paren_eq (k : Nat) (hk : 1001 < k) {r : calc_reader__value.G.R} {R : RR} (hR : REq r R) (l : List Tk) (n : Int) (g : Bool) (hf : Fit l) (h0 : 0 ≤ n) (h1 : n ≤ 30) :
    ((r.calc_reader__sum (l.map mk) n g).bind fun r16 =>
      cond r16.1 (some (true, r16.2.1, ((0 : Int), (0 : Int), [], [], [], (0 : Int), false))) (
      (calc_reader__raw k ([41] : List UInt8) r16.2.2.2.2.2.2.1 r16.2.2.2.2.2.2.2.1 r16.2.2.2.2.2.2.2.2).bind fun r62 =>
      (calc_reader__need k r62.1 r62.2.1 r62.2.2.1 r62.2.2.2).bind fun r63 =>
      cond r63.1 (some (true, r63.2.1, ((0 : Int), (0 : Int), [], [], [], (0 : Int), false))) (
      some (false, (0 : Int), (r16.2.2.1, r16.2.2.2.1, r16.2.2.2.2.1, r16.2.2.2.2.2.1, r63.2.2.1, r63.2.2.2.1, r63.2.2.2.2))))) = (parenP R l n g).map Out.rep ∧ Beh l n (parenP R l n g) := by
  obtain ⟨v1, v2⟩ := hR.sum l n g hf h0 h1
  unfold parenP
  refine ⟨?_, ?_⟩
  · rw [v1]
    refine then_eq fun t2 l2 n2 g2 ho => ?_
    obtain ⟨⟨j, hj⟩, b1, b2⟩ := v2 t2 l2 n2 g2 ho
    have hf2 : Fit l2 := by rw [hj]; exact hf.drop j
    show (calc_reader__raw k [41] (l2.map mk) n2 g2).bind _ = _
    rw [raw_eq k _ l2 hf2.len]
    simp only [Option.bind_some]
    rw [need_eq]
    simp only [Option.bind_some]
    cases hdR l2 [41] <;> rfl
  · refine v2.thenP fun t2 l2 n2 g2 _ ⟨j, hj⟩ b1 b2 => ?_
    cases hdR l2 [41] with
    | false => exact Beh.err _ _ _
    | true => exact (Beh.here b2 t2 g2).of (tail_drop l2) (Int.le_refl _)

theorem idx_names (x : List UInt8) : idxF x names 0 = 0 ∨ idxF x names 0 = -1 ∨ (idxF x names 0 = 6 ∧ x = [109, 105, 110]) ∨ (idxF x names 0 = 7 ∧ x = [109, 97, 120]) ∨ (idxF x names 0 = 8 ∧ x = [99, 108, 97, 109, 112]) := by
  unfold names idxF idxF idxF idxF idxF idxF idxF idxF idxF idxF
  cases h0 : x == ([] : List UInt8) with
  | true => exact .inl rfl
  | false =>
    simp only [cond_false]
    cases h6 : x == ([109, 105, 110] : List UInt8) with
    | true => exact .inr (.inr (.inl ⟨rfl, eq_of_beq h6⟩))
    | false =>
      simp only [cond_false]
      cases h7 : x == ([109, 97, 120] : List UInt8) with
      | true => exact .inr (.inr (.inr (.inl ⟨rfl, eq_of_beq h7⟩)))
      | false =>
        simp only [cond_false]
        cases h8 : x == ([99, 108, 97, 109, 112] : List UInt8) with
        | true => exact .inr (.inr (.inr (.inr ⟨rfl, eq_of_beq h8⟩)))
        | false => exact .inr (.inl rfl)

theorem val_eq (k : Nat) (hk : 100010 < k) {r : calc_reader__value.G.R} {R : RR} (hR : REq r R) (a : Bool) (l : List Tk) (n : Int) (g : Bool) (hf : Fit l) (h0 : 0 ≤ n) (h1 : n ≤ 30) :
    calc_reader__value.nat k r a (l.map mk) n g = (valP k R a l n g).map Out.rep ∧ Beh l n (valP k R a l n g) := by
  match l, hf with
  | [], hf => exact ⟨rfl, Beh.err _ _ _⟩
  | t :: l', hf =>
    have hl := hf.len
    simp only [List.length_cons] at hl
    have hf' : Fit l' := hf.sub (List.sublist_cons_self t l')
    have htd : ∃ j, l' = (t :: l').drop j := ⟨1, rfl⟩
    have ht : t ∈ t :: l' := by simp
    unfold calc_reader__value.nat valP
    have e1 : decide (((((t :: l').map mk).length : Nat) : Int) > 0) = true := decide_eq_true (by simp only [List.length_map, List.length_cons]; omega)
    have e2 : decide (0 ≤ (0 : Int) ∧ (0 : Int) < ((((t :: l').map mk).length : Nat) : Int)) = true := decide_eq_true (by simp only [List.length_map, List.length_cons]; omega)
    have e3 : decide (0 ≤ (1 : Int) ∧ (1 : Int) ≤ ((((t :: l').map mk).length : Nat) : Int)) = true := decide_eq_true (by simp only [List.length_map, List.length_cons]; omega)
    have e4 : ((t :: l').map mk).getD ((0 : Int).toNat) S106.d = mk t := rfl
    have e5 : ((t :: l').map mk).drop (1 : Int).toNat = l'.map mk := rfl
    simp only [e1]
    rw [need_eq]
    simp only [cond_true, cond_false, Option.bind_some, e2, e3, e4, e5]
    rw [show ((mk t).Kind == (7 : Int)) = (t.1 == 7) from rfl, show ((mk t).Kind == (2 : Int)) = (t.1 == 2) from rfl, show (mk t).Raw = t.2.1 from rfl, show (mk t).Value = t.2.2.1 from rfl]
    obtain ⟨p1, p2⟩ := paren_eq k (by omega) hR l' n g hf' h0 h1
    have p2' := p2.of htd (Int.le_refl n)
    cases h7 : t.1 == (7 : Int) with
    | true =>
      simp only [cond_true]
      rw [dim_eq k hk t (hf.al t ht) (eq_of_beq h7) (hf.sz t ht)]
      simp only [Option.bind_some]
      rw [need_eq]
      simp only [Option.bind_some]
      cases (dimP t).2.2 == (0 : Int) with
      | false => exact ⟨rfl, Beh.err _ _ _⟩
      | true =>
        simp only [cond_true, cond_false]
        refine ⟨?_, (Beh.made h1 _ _).of htd (Int.le_refl n)⟩
        unfold calc_reader__made calc_reader__made.c8 madeP
        simp only [wrap_i64 (n := n + 1) (by omega) (by omega)]
        cases decide (n + 1 > 30) <;> rfl
    | false =>
      simp only [cond_false]
      have hc : (cond a (t.2.1 == ([40] : List UInt8)) false) = (a && t.2.1 == [40]) := by cases a <;> rfl
      rw [hc]
      cases (a && t.2.1 == ([40] : List UInt8)) with
      | true => exact ⟨p1, p2'⟩
      | false =>
        simp only [cond_false]
        rw [need_eq]
        simp only [Option.bind_some]
        cases t.1 == (2 : Int) with
        | false => exact ⟨rfl, Beh.err _ _ _⟩
        | true =>
          simp only [cond_true, cond_false, Bool.not_true]
          rw [lower_eq' k _ (hf.va t ht) (by omega)]
          simp only [Option.bind_some]
          cases t.2.2.1.map lowB == ([99, 97, 108, 99] : List UInt8) with
          | true => exact ⟨p1, p2'⟩
          | false =>
            simp only [cond_false]
            have hi : slices_Index___string_string_ k [[], [], [], [], [], [], ([109, 105, 110] : List UInt8), ([109, 97, 120] : List UInt8), ([99, 108, 97, 109, 112] : List UInt8)] (t.2.2.1.map lowB) = some (idxF (t.2.2.1.map lowB) names 0) := Index_eq k (by omega) names _ (by decide)
            rw [hi]
            simp only [Option.bind_some]
            rw [need_eq]
            simp only [Option.bind_some]
            cases hp : decide (idxF (t.2.2.1.map lowB) names 0 > 0) with
            | false => exact ⟨rfl, Beh.err _ _ _⟩
            | true =>
              simp only [cond_true, cond_false]
              have hp := of_decide_eq_true hp
              have hkd : idxF (t.2.2.1.map lowB) names 0 = 6 ∨ idxF (t.2.2.1.map lowB) names 0 = 7 ∨ idxF (t.2.2.1.map lowB) names 0 = 8 := by
                rcases idx_names (t.2.2.1.map lowB) with h | h | ⟨h, _⟩ | ⟨h, _⟩ | ⟨h, _⟩ <;> omega
              obtain ⟨m1, m2⟩ := minL_eq k (by omega) hR _ hkd 0 0 [] k [] l' n g hf' h0 h1 (by simp; omega)
              exact ⟨m1, m2.of htd (Int.le_refl n)⟩

theorem rec_eq (k : Nat) (hk : 100010 < k) : ∀ f : Nat, REq (calc_reader__value.G.rec k f) (recP k f)
  | 0 => ⟨fun _ _ _ _ _ _ _ => ⟨rfl, Beh.none _ _⟩, fun _ _ _ _ _ _ => ⟨rfl, Beh.none _ _⟩, fun _ _ _ _ _ _ => ⟨rfl, Beh.none _ _⟩⟩
  | f + 1 => ⟨fun a l n g hf h0 h1 => val_eq k hk (rec_eq k hk f) a l n g hf h0 h1, fun l n g hf h0 h1 => sum_eq k (by omega) (rec_eq k hk f) l n g hf h0 h1, fun l n g hf h0 h1 => prod_eq k (by omega) (rec_eq k hk f) l n g hf h0 h1⟩

end Go.Ev.Ck

-- from EvCkB
set_option linter.unusedVariables false
set_option linter.unusedSimpArgs false
namespace Go.Ev.Ck
open Go Go.Ev.Tok

def GoodD (x : Int) (u : List UInt8) : Prop := (-1000000000 ≤ x ∧ x ≤ 1000000000) ∧ ∃ i, i < 7 ∧ u = units.getD i []

mutual
/-- Terms that are read, and how many they are. -/
inductive GoodT : S52 → Nat → Prop
  | num (x : Int) (u : List UInt8) (h : GoodD x u) : GoodT ⟨1, x, u, []⟩ 1
  | bin (k : Int) (a b : S52) (m n : Nat) (hk : k = 2 ∨ k = 3 ∨ k = 4 ∨ k = 5) (ha : GoodT a m) (hb : GoodT b n) : GoodT ⟨k, 0, [], [a, b]⟩ (m + n + 1)
  | fn (k : Int) (l : List S52) (m : Nat) (hk : k = 6 ∨ k = 7 ∨ k = 8) (hs : shp k l.length = true) (hl : GoodL l m) : GoodT ⟨k, 0, [], l⟩ (m + 1)
inductive GoodL : List S52 → Nat → Prop
  | nil : GoodL [] 0
  | cons (t : S52) (l : List S52) (m n : Nat) (ht : GoodT t m) (hl : GoodL l n) : GoodL (t :: l) (m + n)
end

theorem GoodL.snoc : ∀ {l : List S52} {n m : Nat} {t : S52}, GoodL l n → GoodT t m → GoodL (l ++ [t]) (n + m)
  | [], n, m, t, h, ht => by
    cases h
    have := GoodL.cons t [] m 0 ht .nil
    simpa using this
  | a :: l, n, m, t, h, ht => by
    cases h with
    | cons _ _ m1 n1 h1 h2 =>
      have := GoodL.cons a (l ++ [t]) m1 (n1 + m) h1 (GoodL.snoc h2 ht)
      rw [← Nat.add_assoc] at this
      exact this

theorem dimP_good (t : Tk) (hb : -1000000000 ≤ t.2.2.2 ∧ t.2.2.2 ≤ 1000000000) (h : ((dimP t).2.2 == (0 : Int)) = true) : GoodD (dimP t).1 (dimP t).2.1 := by
  unfold dimP at *
  cases hd : decide (idxF t.2.2.1 g1_0 0 ≥ 0) with
  | false => rw [hd] at h; cases h
  | true =>
    refine ⟨hb, ?_⟩
    have hd := of_decide_eq_true hd
    have key : ∀ (l : List (List UInt8)) (i : Nat), idxF t.2.2.1 l i ≥ 0 → ∃ j, j < l.length ∧ t.2.2.1 = l.getD j [] := by
      intro l
      induction l with
      | nil => intro i h; simp [idxF] at h
      | cons y r ih =>
        intro i h
        unfold idxF at h
        cases hy : t.2.2.1 == y with
        | true => exact ⟨0, by simp, eq_of_beq hy⟩
        | false =>
          rw [hy] at h
          obtain ⟨j, h1, h2⟩ := ih (i + 1) h
          exact ⟨j + 1, by simp; omega, by simpa using h2⟩
    obtain ⟨j, h1, h2⟩ := key g1_0 0 hd
    exact ⟨j, h1, h2⟩

/-- What reading comes to. -/
def OkV (l : List Tk) (n : Int) (o : Option Out) : Prop := ∃ x, o = some x ∧ match x with
  | .err e => e = 4 ∨ e = 2
  | .ok t l' n' _ => (∃ j, 1 ≤ j ∧ j ≤ l.length ∧ l' = l.drop j) ∧ ∃ m : Nat, GoodT t m ∧ n' = n + m
/-- .. behind a term of m terms. -/
def OkL (m : Nat) (l : List Tk) (n : Int) (o : Option Out) : Prop := ∃ x, o = some x ∧ match x with
  | .err e => e = 4 ∨ e = 2
  | .ok t l' n' _ => (∃ j, j ≤ l.length ∧ l' = l.drop j) ∧ ∃ m' : Nat, GoodT t m' ∧ n' + m = n + m'

theorem okL_err {m : Nat} {l : List Tk} {n e : Int} (h : e = 4 ∨ e = 2) : OkL m l n (some (.err e)) := ⟨_, rfl, h⟩
theorem okV_err {l : List Tk} {n e : Int} (h : e = 4 ∨ e = 2) : OkV l n (some (.err e)) := ⟨_, rfl, h⟩

theorem okL_then {m : Nat} {l : List Tk} {n : Int} {o : Option Out} {K : S52 → List Tk → Int → Bool → Option Out} {l1 : List Tk} {n1 : Int} (h : OkV l1 n1 o)
    (hK : ∀ t l' n' g' m', (∃ j, 1 ≤ j ∧ j ≤ l1.length ∧ l' = l1.drop j) → GoodT t m' → n' = n1 + (m' : Nat) → OkL m l n (K t l' n' g')) : OkL m l n (thenP o K) := by
  obtain ⟨x, rfl, hx⟩ := h
  cases x with
  | err e => exact okL_err hx
  | ok t l' n' g' =>
    obtain ⟨h1, m', h2, h3⟩ := hx
    exact hK t l' n' g' m' h1 h2 h3

theorem okV_then {l : List Tk} {n : Int} {o : Option Out} {K : S52 → List Tk → Int → Bool → Option Out} {l1 : List Tk} {n1 : Int} (h : OkV l1 n1 o)
    (hK : ∀ t l' n' g' m', (∃ j, 1 ≤ j ∧ j ≤ l1.length ∧ l' = l1.drop j) → GoodT t m' → n' = n1 + (m' : Nat) → OkV l n (K t l' n' g')) : OkV l n (thenP o K) := by
  obtain ⟨x, rfl, hx⟩ := h
  cases x with
  | err e => exact okV_err hx
  | ok t l' n' g' =>
    obtain ⟨h1, m', h2, h3⟩ := hx
    exact hK t l' n' g' m' h1 h2 h3

theorem made_cases (t : S52) (l : List Tk) (n : Int) (g : Bool) : madeP t l n g = .err 2 ∨ (n + 1 ≤ 30 ∧ madeP t l n g = .ok t l (n + 1) g) := by
  unfold madeP
  cases hd : decide (n + 1 > 30) with
  | true => exact .inl rfl
  | false => exact .inr ⟨by have := of_decide_eq_false hd; omega, rfl⟩

structure Ends (R : RR) (N : Nat) : Prop where
  val : ∀ a l n g, Fit l → 3 * l.length + 1 ≤ N → OkV l n (R.val a l n g)
  prod : ∀ l n g, Fit l → 3 * l.length + 2 ≤ N → OkV l n (R.prod l n g)
  sum : ∀ l n g, Fit l → 3 * l.length + 3 ≤ N → OkV l n (R.sum l n g)

theorem prodL_ends {R : RR} {N : Nat} (hR : Ends R N) : ∀ (f : Nat) (t : S52) (m : Nat) (l : List Tk) (n : Int) (g : Bool), Fit l → GoodT t m → 3 * l.length + 1 ≤ N → l.length < f → OkL m l n (prodL R f t l n g)
  | 0, t, m, l, n, g, _, _, _, h => by omega
  | f + 1, t, m, l, n, g, hf, ht, hN, hl => by
    obtain ⟨i, hi, hil⟩ := gapP_drop l
    unfold prodL
    have step : ∀ kd, (kd = 2 ∨ kd = 3 ∨ kd = 4 ∨ kd = 5) → ∀ s, hdR (gapP l) s = true → OkL m l n (thenP (R.val true (gapP (gapP l).tail) n (decide ((gapP l).length < l.length))) fun t2 l2 n2 g2 => thenP (some (madeP ⟨kd, 0, [], [t, t2]⟩ l2 n2 g2)) fun t3 l3 n3 g3 => prodL R f t3 l3 n3 g3) := by
      intro kd hkd s hs
      obtain ⟨u, q, hq, _⟩ := hdR_cons hs
      obtain ⟨i2, hi2, hil2⟩ := gapP_drop (gapP l).tail
      have htl : (gapP l).tail = l.drop (i + 1) := by rw [hi, List.tail_drop]
      have hll : (gapP l).length = l.length - i := by rw [hi, List.length_drop]
      have hpos : i < l.length := by
        have : (gapP l).length = q.length + 1 := by rw [hq]; rfl
        omega
      have hgl : (gapP (gapP l).tail).length ≤ l.length - (i + 1) := by
        have := gapP_le (gapP l).tail
        rw [htl, List.length_drop] at this
        rw [htl]; exact this
      refine okL_then (hR.val true _ n _ (by rw [htl]; exact (hf.drop _).gap) (by omega)) fun t2 l2 n2 g2 m2 ⟨j, j1, j2, hj⟩ ht2 hn2 => ?_
      have hl2 : l2 = l.drop (i + 1 + i2 + j) := by rw [hj, hi2, htl, List.drop_drop, List.drop_drop]; congr 1; omega
      rcases made_cases ⟨kd, 0, [], [t, t2]⟩ l2 n2 g2 with he | ⟨hb, he⟩
      · rw [he]; exact okL_err (.inr rfl)
      · rw [he]
        show OkL m l n (prodL R f ⟨kd, 0, [], [t, t2]⟩ l2 (n2 + 1) g2)
        have hlen : l2.length ≤ l.length - (i + 1) := by rw [hl2, List.length_drop]; omega
        obtain ⟨x, hx, hx2⟩ := prodL_ends hR f ⟨kd, 0, [], [t, t2]⟩ (m + m2 + 1) l2 (n2 + 1) g2 (by rw [hl2]; exact hf.drop _) (.bin kd t t2 m m2 hkd ht ht2) (by omega) (by omega)
        refine ⟨x, hx, ?_⟩
        cases x with
        | err e => exact hx2
        | ok t' l' n' g' =>
          obtain ⟨⟨j', hj1, hj2⟩, m', h1, h2⟩ := hx2
          refine ⟨⟨min (i + 1 + i2 + j + j') l.length, Nat.min_le_right _ _, ?_⟩, m', h1, by omega⟩
          rw [hj2, hl2, List.drop_drop]
          rcases Nat.le_total (i + 1 + i2 + j + j') l.length with h | h
          · rw [Nat.min_eq_left h]
          · rw [Nat.min_eq_right h, List.drop_eq_nil_of_le h, List.drop_length]
    cases h42 : hdR (gapP l) [42] with
    | true => exact step 4 (by decide) _ h42
    | false =>
      simp only [cond_false]
      cases h47 : hdR (gapP l) [47] with
      | true => exact step 5 (by decide) _ h47
      | false => exact ⟨_, rfl, ⟨i, hil, hi⟩, m, ht, by omega⟩

theorem okV_ofL {m : Nat} {l l1 : List Tk} {n n1 : Int} {o : Option Out} (h : OkL m l1 n1 o) (hl : ∃ j, 1 ≤ j ∧ j ≤ l.length ∧ l1 = l.drop j) (hn : n1 = n + m) : OkV l n o := by
  obtain ⟨x, hx, hx2⟩ := h
  refine ⟨x, hx, ?_⟩
  cases x with
  | err e => exact hx2
  | ok t' l' n' g' =>
    obtain ⟨⟨j', hj1, hj2⟩, m', h1, h2⟩ := hx2
    obtain ⟨j, a1, a2, a3⟩ := hl
    refine ⟨⟨j + j', by omega, by rw [a3, List.length_drop] at hj1; omega, by rw [hj2, a3, List.drop_drop]⟩, m', h1, by omega⟩

theorem okV_drop {l : List Tk} {n : Int} {o : Option Out} (i : Nat) (hi : i ≤ l.length) (h : OkV (l.drop i) n o) : OkV l n o := by
  obtain ⟨x, hx, hx2⟩ := h
  refine ⟨x, hx, ?_⟩
  cases x with
  | err e => exact hx2
  | ok t' l' n' g' =>
    obtain ⟨⟨j, a1, a2, a3⟩, r⟩ := hx2
    rw [List.length_drop] at a2
    exact ⟨⟨i + j, by omega, by omega, by rw [a3, List.drop_drop]⟩, r⟩

theorem sumL_ends {R : RR} {N : Nat} (hR : Ends R N) : ∀ (f : Nat) (t : S52) (m : Nat) (l : List Tk) (n : Int) (g : Bool), Fit l → GoodT t m → 3 * l.length + 2 ≤ N → l.length < f → OkL m l n (sumL R f t l n g)
  | 0, t, m, l, n, g, _, _, _, h => by omega
  | f + 1, t, m, l, n, g, hf, ht, hN, hl => by
    unfold sumL
    have step : ∀ kd, (kd = 2 ∨ kd = 3 ∨ kd = 4 ∨ kd = 5) → ∀ s, hdR l s = true → OkL m l n (sumStep R kd t l n g (sumL R f)) := by
      intro kd hkd s hs
      obtain ⟨u, q, hq, _⟩ := hdR_cons hs
      obtain ⟨i2, hi2, hil2⟩ := gapP_drop l.tail
      have htl : l.tail = l.drop 1 := List.drop_one.symm
      have hpos : 0 < l.length := by rw [hq]; simp
      have hgl : (gapP l.tail).length ≤ l.length - 1 := by
        have := gapP_le l.tail
        rw [List.length_tail] at this; exact this
      unfold sumStep
      cases (!(g && decide ((gapP l.tail).length < l.tail.length))) with
      | true => exact okL_err (.inl rfl)
      | false =>
        simp only [cond_false]
        refine okL_then (hR.prod _ n _ hf.tail.gap (by omega)) fun t2 l2 n2 g2 m2 ⟨j, j1, j2, hj⟩ ht2 hn2 => ?_
        have hl2 : l2 = l.drop (1 + i2 + j) := by rw [hj, hi2, htl, List.drop_drop, List.drop_drop]; congr 1; omega
        rcases made_cases ⟨kd, 0, [], [t, t2]⟩ l2 n2 g2 with he | ⟨hb, he⟩
        · rw [he]; exact okL_err (.inr rfl)
        · rw [he]
          show OkL m l n (sumL R f ⟨kd, 0, [], [t, t2]⟩ l2 (n2 + 1) g2)
          have hlen : l2.length ≤ l.length - 1 := by rw [hl2, List.length_drop]; omega
          obtain ⟨x, hx, hx2⟩ := sumL_ends hR f ⟨kd, 0, [], [t, t2]⟩ (m + m2 + 1) l2 (n2 + 1) g2 (by rw [hl2]; exact hf.drop _) (.bin kd t t2 m m2 hkd ht ht2) (by omega) (by omega)
          refine ⟨x, hx, ?_⟩
          cases x with
          | err e => exact hx2
          | ok t' l' n' g' =>
            obtain ⟨⟨j', hj1, hj2⟩, m', h1, h2⟩ := hx2
            refine ⟨⟨min (1 + i2 + j + j') l.length, Nat.min_le_right _ _, ?_⟩, m', h1, by omega⟩
            rw [hj2, hl2, List.drop_drop]
            rcases Nat.le_total (1 + i2 + j + j') l.length with h | h
            · rw [Nat.min_eq_left h]
            · rw [Nat.min_eq_right h, List.drop_eq_nil_of_le h, List.drop_length]
    cases h43 : hdR l [43] with
    | true => exact step 2 (by decide) _ h43
    | false =>
      simp only [cond_false]
      cases h45 : hdR l [45] with
      | true => exact step 3 (by decide) _ h45
      | false => exact ⟨_, rfl, ⟨0, Nat.zero_le _, rfl⟩, m, ht, by omega⟩

theorem minL_ends {R : RR} {N : Nat} (hR : Ends R N) (kd : Int) (hkd : kd = 6 ∨ kd = 7 ∨ kd = 8) : ∀ (f : Nat) (acc : List S52) (m : Nat) (l : List Tk) (n : Int) (g : Bool), Fit l → GoodL acc m → 3 * l.length + 3 ≤ N → l.length < f → OkL m l n (minL R kd f acc l n g)
  | 0, acc, m, l, n, g, _, _, _, h => by omega
  | f + 1, acc, m, l, n, g, hf, ha, hN, hl => by
    unfold minL
    refine okL_then (hR.sum _ n _ hf hN) fun t2 l2 n2 g2 m2 ⟨j, j1, j2, hj⟩ ht2 hn2 => ?_
    have hf2 : Fit l2 := by rw [hj]; exact hf.drop j
    have hl2 : l2.length = l.length - j := by rw [hj, List.length_drop]
    have hg := ha.snoc ht2
    have htl : l2.tail = l.drop (j + 1) := by rw [hj, List.tail_drop]
    cases h44 : hdR l2 [44] with
    | true =>
      simp only [cond_true]
      obtain ⟨u, q, hq, _⟩ := hdR_cons h44
      have hpos : 0 < l2.length := by rw [hq]; simp
      obtain ⟨x, hx, hx2⟩ := minL_ends hR kd hkd f (acc ++ [t2]) (m + m2) l2.tail n2 g2 hf2.tail hg (by rw [List.length_tail]; omega) (by rw [List.length_tail]; omega)
      refine ⟨x, hx, ?_⟩
      cases x with
      | err e => exact hx2
      | ok t' l' n' g' =>
        obtain ⟨⟨j', hj1, hj2⟩, m', h1, h2⟩ := hx2
        rw [htl, List.length_drop] at hj1
        exact ⟨⟨j + 1 + j', by omega, by rw [hj2, htl, List.drop_drop]⟩, m', h1, by omega⟩
    | false =>
      simp only [cond_false]
      cases h41 : hdR l2 [41] with
      | false => exact okL_err (.inl rfl)
      | true =>
        simp only [cond_true]
        obtain ⟨u, q, hq, _⟩ := hdR_cons h41
        have hpos : 0 < l2.length := by rw [hq]; simp
        cases hs : shp kd (acc ++ [t2]).length with
        | false => exact okL_err (.inl rfl)
        | true =>
          simp only [cond_true]
          rcases made_cases ⟨kd, 0, [], acc ++ [t2]⟩ l2.tail n2 g2 with he | ⟨hb, he⟩
          · rw [he]; exact okL_err (.inr rfl)
          · rw [he]
            exact ⟨_, rfl, ⟨j + 1, by omega, htl⟩, m + m2 + 1, .fn kd _ _ hkd hs hg, by omega⟩

theorem paren_ends {R : RR} {N : Nat} (hR : Ends R N) (l : List Tk) (n : Int) (g : Bool) (hf : Fit l) (hN : 3 * l.length + 3 ≤ N) : OkV l n (parenP R l n g) := by
  unfold parenP
  refine okV_then (hR.sum _ n _ hf hN) fun t2 l2 n2 g2 m2 ⟨j, j1, j2, hj⟩ ht2 hn2 => ?_
  cases h41 : hdR l2 [41] with
  | false => exact okV_err (.inl rfl)
  | true =>
    obtain ⟨u, q, hq, _⟩ := hdR_cons h41
    have hl2 : l2.length = l.length - j := by rw [hj, List.length_drop]
    have hpos : 0 < l2.length := by rw [hq]; simp
    exact ⟨_, rfl, ⟨j + 1, by omega, by omega, by rw [hj, List.tail_drop]⟩, m2, ht2, hn2⟩

theorem rec_ends (k : Nat) (hk : 2000 < k) : ∀ N, Ends (recP k N) N
  | 0 => ⟨fun _ _ _ _ _ h => by omega, fun _ _ _ _ h => by omega, fun _ _ _ _ h => by omega⟩
  | N + 1 => by
    have hR := rec_ends k hk N
    refine ⟨fun a l n g hf hN => ?_, fun l n g hf hN => ?_, fun l n g hf hN => ?_⟩
    · show OkV l n (valP k (recP k N) a l n g)
      have hl := hf.len
      unfold valP
      match l, hf with
      | [], _ => exact okV_err (.inl rfl)
      | t :: l', hf =>
        simp only [List.length_cons] at hN hl
        have hf' : Fit l' := hf.sub (List.sublist_cons_self t l')
        have hp := paren_ends hR l' n g hf' (by omega)
        have hp' : OkV (t :: l') n (parenP (recP k N) l' n g) := okV_drop 1 (by simp) hp
        simp only
        cases t.1 == (7 : Int) with
        | true =>
          simp only [cond_true]
          cases hd : (dimP t).2.2 == (0 : Int) with
          | false => exact okV_err (.inl rfl)
          | true =>
            simp only [cond_true]
            rcases made_cases ⟨1, (dimP t).1, (dimP t).2.1, []⟩ l' n g with he | ⟨hb, he⟩
            · rw [he]; exact okV_err (.inr rfl)
            · rw [he]
              exact ⟨_, rfl, ⟨1, Nat.le_refl _, by simp, rfl⟩, 1, .num _ _ (dimP_good t (hf.nb t (by simp)) hd), rfl⟩
        | false =>
          simp only [cond_false]
          cases (a && t.2.1 == ([40] : List UInt8)) with
          | true => exact hp'
          | false =>
            simp only [cond_false]
            cases (!(t.1 == (2 : Int))) with
            | true => exact okV_err (.inl rfl)
            | false =>
              simp only [cond_false]
              cases t.2.2.1.map lowB == ([99, 97, 108, 99] : List UInt8) with
              | true => exact hp'
              | false =>
                simp only [cond_false]
                cases hp : decide (idxF (t.2.2.1.map lowB) names 0 > 0) with
                | false => exact okV_err (.inl rfl)
                | true =>
                  simp only [cond_true]
                  have hp := of_decide_eq_true hp
                  have hkd : idxF (t.2.2.1.map lowB) names 0 = 6 ∨ idxF (t.2.2.1.map lowB) names 0 = 7 ∨ idxF (t.2.2.1.map lowB) names 0 = 8 := by
                    rcases idx_names (t.2.2.1.map lowB) with h | h | ⟨h, _⟩ | ⟨h, _⟩ | ⟨h, _⟩ <;> omega
                  exact okV_ofL (minL_ends hR _ hkd k [] 0 l' n g hf' .nil (by omega) (by omega)) ⟨1, Nat.le_refl _, by simp, rfl⟩ (by simp)
    · show OkV l n (prodP k (recP k N) l n g)
      obtain ⟨i, hi, hil⟩ := gapP_drop l
      have := gapP_le l
      have hl := hf.len
      unfold prodP
      refine okV_then (hR.val true (gapP l) n g hf.gap (by omega)) fun t2 l2 n2 g2 m2 ⟨j, j1, j2, hj⟩ ht2 hn2 => ?_
      have hl2 : l2 = l.drop (i + j) := by rw [hj, hi, List.drop_drop]
      have hle : i + j ≤ l.length := by rw [hi, List.length_drop] at j2; omega
      exact okV_ofL (prodL_ends hR k t2 m2 l2 n2 g2 (by rw [hl2]; exact hf.drop _) ht2 (by rw [hl2, List.length_drop]; omega) (by rw [hl2, List.length_drop]; omega)) ⟨i + j, by omega, hle, hl2⟩ hn2
    · show OkV l n (sumP k (recP k N) l n g)
      have hl := hf.len
      unfold sumP
      refine okV_then (hR.prod l n g hf (by omega)) fun t2 l2 n2 g2 m2 ⟨j, j1, j2, hj⟩ ht2 hn2 => ?_
      exact okV_ofL (sumL_ends hR k t2 m2 l2 n2 g2 (by rw [hj]; exact hf.drop _) ht2 (by rw [hj, List.length_drop]; omega) (by rw [hj, List.length_drop]; omega)) ⟨j, j1, j2, hj⟩ hn2

end Go.Ev.Ck

-- from EvCkC
set_option linter.unusedVariables false
set_option linter.unusedSimpArgs false
set_option maxRecDepth 10000
namespace Go.Ev.Ck
open Go Go.Ev.Tok

/-- Texts with one between. -/
def joinP (sep : List UInt8) : List (List UInt8) → List UInt8
  | [] => []
  | x :: r => x ++ (r.map fun y => sep ++ y).flatten

def lenS (l : List (List UInt8)) : Nat := (l.map List.length).sum

theorem lenS_cons (x : List UInt8) (l : List (List UInt8)) : lenS (x :: l) = x.length + lenS l := by simp [lenS]

theorem join_sum (k : Nat) (L : List (List UInt8)) (sep : List UInt8) (hl : L.length ≤ 100000) (K : List (List UInt8) → List UInt8 → Int → Option (List UInt8)) : ∀ (n i a : Nat), i ≤ L.length → L.length - i < n →
    a + lenS (L.drop i) ≤ 1000000000000 →
    strings_Join_v2.c25 k n L sep (a : Int) L (L.length : Int) (i : Int) K = K L sep ((a + lenS (L.drop i) : Nat) : Int)
  | 0, i, a, _, h, _ => by omega
  | n + 1, i, a, hi, hn, hm => by
    unfold strings_Join_v2.c25
    simp only [Int.toNat_natCast]
    rcases Nat.lt_or_ge i L.length with h1 | h1
    · have hd : L.drop i = L[i] :: L.drop (i + 1) := List.drop_eq_getElem_cons h1
      have hg : L.getD i [] = L[i] := by rw [List.getD_eq_getElem?_getD, List.getElem?_eq_getElem h1]; rfl
      have w1 : IntKind.wrap .i64 ((i : Int) + 1) = ((i + 1 : Nat) : Int) := by rw [wrap_i64 (by omega) (by omega)]; omega
      rw [hd, lenS_cons] at hm
      have w2 : IntKind.wrap .i64 ((9223372036854775807 : Int) - (a : Int)) = 9223372036854775807 - (a : Int) := wrap_i64 (by omega) (by omega)
      have w3 : IntKind.wrap .i64 ((a : Int) + (L[i].length : Int)) = ((a + L[i].length : Nat) : Int) := by rw [wrap_i64 (by omega) (by omega)]; omega
      rw [cond_dec (by omega), cond_dec (by omega)]
      simp only [hg, w2]
      rw [cond_ndec (by omega)]
      unfold strings_Join_v2.c32
      simp only [w3, w1]
      rw [join_sum k L sep hl K n (i + 1) (a + L[i].length) (by omega) (by omega) (by omega), hd, lenS_cons, Nat.add_assoc]
    · have : i = L.length := by omega
      subst this
      rw [cond_ndec (by omega), List.drop_length]
      rfl

theorem join_put (k : Nat) (L : List (List UInt8)) (sep : List UInt8) (hl : L.length ≤ 100000) (hs : sep.length ≤ 100) (K : List UInt8 → Option (List UInt8)) : ∀ (n i : Nat) (acc : List UInt8), i ≤ L.length → L.length - i < n →
    acc.length + lenS (L.drop i) + 100 * (L.length - i) ≤ 10000000000000 →
    strings_Join_v2.c45 k n sep L (L.length : Int) (i : Int) acc K = K (acc ++ ((L.drop i).map fun y => sep ++ y).flatten)
  | 0, i, a, _, h, _ => by omega
  | n + 1, i, acc, hi, hn, hm => by
    unfold strings_Join_v2.c45
    simp only [Int.toNat_natCast]
    rcases Nat.lt_or_ge i L.length with h1 | h1
    · have hd : L.drop i = L[i] :: L.drop (i + 1) := List.drop_eq_getElem_cons h1
      have hg : L.getD i [] = L[i] := by rw [List.getD_eq_getElem?_getD, List.getElem?_eq_getElem h1]; rfl
      have w1 : IntKind.wrap .i64 ((i : Int) + 1) = ((i + 1 : Nat) : Int) := by rw [wrap_i64 (by omega) (by omega)]; omega
      rw [hd, lenS_cons] at hm
      rw [cond_dec (by omega), cond_dec (by omega)]
      simp only [hg, w1]
      have e1 : f__strings_Builder__WriteString k sep acc = some ((sep.length : Int), acc ++ sep) := by
        unfold f__strings_Builder__WriteString; rw [wStr_ok acc sep (by unfold blMax; omega)]; rfl
      have e2 : f__strings_Builder__WriteString k L[i] (acc ++ sep) = some ((L[i].length : Int), acc ++ sep ++ L[i]) := by
        unfold f__strings_Builder__WriteString; rw [wStr_ok (acc ++ sep) L[i] (by unfold blMax; rw [List.length_append]; omega)]; rfl
      rw [e1]
      simp only [Option.bind_some]
      rw [e2]
      simp only [Option.bind_some]
      rw [join_put k L sep hl hs K n (i + 1) (acc ++ sep ++ L[i]) (by omega) (by omega) (by simp only [List.length_append]; omega), hd]
      simp only [List.map_cons, List.flatten_cons, List.append_assoc]
    · have : i = L.length := by omega
      subst this
      rw [cond_ndec (by omega), List.drop_length]
      simp

theorem Join_eq (k : Nat) (hk : 100001 < k) (L : List (List UInt8)) (sep : List UInt8) (hl : L.length ≤ 100000) (hs : 0 < sep.length ∧ sep.length ≤ 100) (hm : lenS L ≤ 100000000000) : strings_Join_v2 k L sep = some (joinP sep L) := by
  unfold strings_Join_v2
  match L, hl, hm with
  | [], _, _ => rfl
  | [x], _, _ =>
    have : joinP sep [x] = x := by unfold joinP; simp
    rw [this]
    rfl
  | x :: y :: r, hl, hm =>
    have e0 : (((x :: y :: r).length : Int) == (0 : Int)) = false := beq_eq_false_iff_ne.2 (by simp only [List.length_cons]; omega)
    have e1 : (((x :: y :: r).length : Int) == (1 : Int)) = false := beq_eq_false_iff_ne.2 (by simp only [List.length_cons]; omega)
    have e2 : decide ((sep.length : Int) > (0 : Int)) = true := decide_eq_true (by omega)
    have w6 : IntKind.wrap .i64 (((x :: y :: r).length : Int) - 1) = ((r.length + 1 : Nat) : Int) := by
      rw [wrap_i64 (by simp only [List.length_cons]; omega) (by simp only [List.length_cons] at hl ⊢; omega)]; simp only [List.length_cons]; omega
    simp only [List.length_cons] at hl
    have e3 : (((r.length + 1 : Nat) : Int) != 0) = true := by rw [bne_iff_ne]; omega
    have hdiv : Int.tdiv (9223372036854775807 : Int) ((r.length + 1 : Nat) : Int) = ((9223372036854775807 / (r.length + 1) : Nat) : Int) := rfl
    have hge : 1000 ≤ 9223372036854775807 / (r.length + 1) := by
      rw [Nat.le_div_iff_mul_le (by omega)]
      omega
    have hle : 9223372036854775807 / (r.length + 1) ≤ 9223372036854775807 := Nat.div_le_self _ _
    have w7 : IntKind.wrap .i64 (Int.tdiv (9223372036854775807 : Int) ((r.length + 1 : Nat) : Int)) = ((9223372036854775807 / (r.length + 1) : Nat) : Int) := by
      rw [hdiv, wrap_i64 (by omega) (by omega)]
    simp only [e0, e1, e2, w6, e3, w7, cond_true, cond_false]
    rw [cond_ndec (by omega)]
    unfold strings_Join_v2.c20
    simp only [w6]
    have hmul : (sep.length : Int) * ((r.length + 1 : Nat) : Int) = ((sep.length * (r.length + 1) : Nat) : Int) := by rw [Int.natCast_mul]
    have hb : sep.length * (r.length + 1) ≤ 100 * 100000 := Nat.mul_le_mul hs.2 (by omega)
    have w8 : IntKind.wrap .i64 ((sep.length : Int) * ((r.length + 1 : Nat) : Int)) = ((sep.length * (r.length + 1) : Nat) : Int) := by rw [hmul, wrap_i64 (by omega) (by omega)]
    have w9 : IntKind.wrap .i64 ((0 : Int) + ((sep.length * (r.length + 1) : Nat) : Int)) = ((sep.length * (r.length + 1) : Nat) : Int) := by rw [wrap_i64 (by omega) (by omega)]; omega
    simp only [w8, w9]
    unfold strings_Join_v2.c22
    generalize sep.length * (r.length + 1) = a at *
    rw [show (0 : Int) = ((0 : Nat) : Int) from rfl, join_sum k (x :: y :: r) sep (by simpa using hl) _ k 0 a (by omega) (by simp only [List.length_cons]; omega) (by rw [List.drop_zero]; omega)]
    rw [List.drop_zero]
    have eg : f__strings_Builder__Grow k ((a + lenS (x :: y :: r) : Nat) : Int) ([] : List UInt8) = some [] := by
      unfold f__strings_Builder__Grow growS
      rw [show (([] : List UInt8) == []) = true from rfl, show (decide (0 ≤ ((a + lenS (x :: y :: r) : Nat) : Int) ∧ ((a + lenS (x :: y :: r) : Nat) : Int) ≤ 70368744177664)) = true from decide_eq_true (by omega)]
      rfl
    rw [eg]
    simp only [Option.bind_some]
    rw [lenS_cons, lenS_cons] at hm
    rw [show ((0 : Nat) : Int) = (0 : Int) from rfl]
    have hg0 : (x :: y :: r).getD ((0 : Int).toNat) [] = x := rfl
    have ew : f__strings_Builder__WriteString k x ([] : List UInt8) = some ((x.length : Int), x) := by
      unfold f__strings_Builder__WriteString; rw [wStr_ok [] x (by unfold blMax; simp; omega)]; rfl
    have d0 : decide (0 ≤ (0 : Int) ∧ (0 : Int) < (((x :: y :: r).length : Nat) : Int)) = true := decide_eq_true (by simp only [List.length_cons]; omega)
    have d1 : decide (0 ≤ (1 : Int) ∧ (1 : Int) ≤ (((x :: y :: r).length : Nat) : Int)) = true := decide_eq_true (by simp only [List.length_cons]; omega)
    have hdr : (x :: y :: r).drop (1 : Int).toNat = y :: r := rfl
    simp only [d0, d1, hg0, hdr, cond_true]
    rw [ew]
    simp only [Option.bind_some]
    have := join_put k (y :: r) sep (by simp only [List.length_cons]; omega) hs.2 (fun (y59 : List UInt8) => (f__strings_Builder__String k y59).bind fun r60 => some r60.1) k 0 x (by omega) (by simp only [List.length_cons]; omega)
      (by rw [List.drop_zero, lenS_cons]; simp only [List.length_cons]; omega)
    rw [List.drop_zero] at this
    exact this

/-- A text and its tokens; its end wants no more. -/
structure RelC (s : List UInt8) (T : List Tk) : Prop where
  ne : s ≠ []
  hb : cnt isBlank s = 0
  cu : cutP s = T
  nu : ∀ u, T.getLast? = some u → u.1 ≠ 6 ∧ u.1 ≠ 8 ∧ u.1 ≠ 9

def SPt : Tk := (8, [32], [], 0)
def COMt : Tk := (12, [44], [], 0)
def OPt : Tk := (10, [40], [], 0)
def CLt : Tk := (11, [41], [], 0)
def sgT (c : UInt8) : Tk := (12, [c], [], 0)
def FNt (w : List UInt8) : Tk := (2, w ++ [40], w, 0)

theorem stop32 : Stop 32 := ⟨by decide, by decide, by decide, by decide, by decide, by decide⟩
theorem stop44 : Stop 44 := ⟨by decide, by decide, by decide, by decide, by decide, by decide⟩
theorem stp41 : Stop 41 := ⟨by decide, by decide, by decide, by decide, by decide, by decide⟩

theorem RelC.fin {s : List UInt8} {T : List Tk} (h : RelC s T) (z : UInt8) : ¬ Unfin z s := by
  rintro ⟨u, hu, hk⟩
  rw [h.cu] at hu
  have := h.nu u hu
  rcases hk with hk | ⟨hk, _⟩ | hk
  · exact this.1 hk
  · exact this.2.1 hk
  · exact this.2.2 hk

theorem RelC.tne {s : List UInt8} {T : List Tk} (h : RelC s T) : T ≠ [] := by rw [← h.cu, cutP_cons s h.ne]; simp

theorem cnt_head {s t : List UInt8} (h : s ≠ []) (hb : cnt isBlank s = 0) : cnt isBlank (s ++ t) = 0 := by
  match s, h with
  | a :: r, _ =>
    have : isBlank a = false := by
      cases ha : isBlank a with
      | false => rfl
      | true => unfold cnt at hb; rw [List.takeWhile_cons, ha] at hb; simp at hb
    unfold cnt
    rw [List.cons_append, List.takeWhile_cons, this]; rfl

theorem last_app {α : Type} {a b : List α} (h : b ≠ []) : (a ++ b).getLast? = b.getLast? := by
  rw [List.getLast?_append]
  match hb : b.getLast? with
  | none => exact absurd (List.getLast?_eq_none_iff.1 hb) h
  | some x => rfl

theorem last_cons {α : Type} {x : α} {b : List α} (h : b ≠ []) : (x :: b).getLast? = b.getLast? := last_app (a := [x]) h

theorem cut_comma (t : List UInt8) : cutP (44 :: t) = COMt :: cutP t := by
  have e : tok1 (44 :: t) = (12, 1, [], 0) := by
    have h1 : cnt isBlank (44 :: t) = 0 := rfl
    have h2 : nlen (44 :: t) = 0 := rfl
    have h3 : bg (44 :: t) = false := by cases t <;> rfl
    unfold tok1
    rw [h1, h2, h3]
    rfl
  rw [cutP_cons _ (by simp), e]
  rfl

theorem cut_open (t : List UInt8) : cutP (40 :: t) = OPt :: cutP t := by
  have e : tok1 (40 :: t) = (10, 1, [], 0) := by
    have h1 : cnt isBlank (40 :: t) = 0 := rfl
    have h2 : nlen (40 :: t) = 0 := rfl
    have h3 : bg (40 :: t) = false := by cases t <;> rfl
    unfold tok1
    rw [h1, h2, h3]
    rfl
  rw [cutP_cons _ (by simp), e]
  rfl

theorem fn_of (w Z : List UInt8) (hw : w ≠ []) (e : tok1 (w ++ 40 :: Z) = (2, w.length + 1, w, 0)) : cutP (w ++ 40 :: Z) = FNt w :: cutP Z := by
  rw [cutP_cons _ (by simp), e]
  have h1 : (w ++ 40 :: Z).drop (w.length + 1) = Z := by
    have : w ++ 40 :: Z = (w ++ [40]) ++ Z := by simp
    rw [this]; exact List.drop_left' (by simp)
  have h2 : (w ++ 40 :: Z).take (w.length + 1) = w ++ [40] := by
    have : w ++ 40 :: Z = (w ++ [40]) ++ Z := by simp
    rw [this]; exact List.take_left' (by simp)
  simp only [h1]
  unfold tokO FNt
  rw [h2]

theorem nm40 (Z : List UInt8) : nm (40 :: Z) = ([], 0) := by cases Z <;> rfl

theorem tok_fn (w Z : List UInt8) (h1 : cnt isBlank (w ++ 40 :: Z) = 0) (h2 : hd1 (w ++ 40 :: Z) 47 = false) (h3 : hd1 (w ++ 40 :: Z) 39 = false) (h4 : hd1 (w ++ 40 :: Z) 34 = false) (h5 : hd1 (w ++ 40 :: Z) 35 = false)
    (h6 : hd1 (w ++ 40 :: Z) 64 = false) (h7 : nlen (w ++ 40 :: Z) = 0) (h8 : bg (w ++ 40 :: Z) = true) (h9 : nm (w ++ 40 :: Z) = (w, w.length)) : tok1 (w ++ 40 :: Z) = (2, w.length + 1, w, 0) := by
  unfold tok1 nameT
  rw [h1, h2, h3, h4, h5, h6, h7, h8, h9]
  have : (w ++ 40 :: Z).drop w.length = 40 :: Z := List.drop_left
  simp only [this]
  rfl

theorem nm_step (c d : UInt8) (r : List UInt8) (h1 : (c == 92 && d != 10) = false) (h2 : isSg c = true) : nm (c :: d :: r) = (c :: (nm (d :: r)).1, (nm (d :: r)).2 + 1) := by
  rw [nm, h1, h2]
  rfl

theorem cut_min (Z : List UInt8) : cutP ([109, 105, 110] ++ 40 :: Z) = FNt [109, 105, 110] :: cutP Z := by
  refine fn_of _ Z (by simp) (tok_fn _ Z rfl rfl rfl rfl rfl rfl rfl rfl ?_)
  show nm (109 :: 105 :: 110 :: 40 :: Z) = _
  rw [nm_step _ _ _ (by decide) (by decide), nm_step _ _ _ (by decide) (by decide), nm_step _ _ _ (by decide) (by decide), nm40]
  rfl
theorem cut_max (Z : List UInt8) : cutP ([109, 97, 120] ++ 40 :: Z) = FNt [109, 97, 120] :: cutP Z := by
  refine fn_of _ Z (by simp) (tok_fn _ Z rfl rfl rfl rfl rfl rfl rfl rfl ?_)
  show nm (109 :: 97 :: 120 :: 40 :: Z) = _
  rw [nm_step _ _ _ (by decide) (by decide), nm_step _ _ _ (by decide) (by decide), nm_step _ _ _ (by decide) (by decide), nm40]
  rfl
theorem cut_clamp (Z : List UInt8) : cutP ([99, 108, 97, 109, 112] ++ 40 :: Z) = FNt [99, 108, 97, 109, 112] :: cutP Z := by
  refine fn_of _ Z (by simp) (tok_fn _ Z rfl rfl rfl rfl rfl rfl rfl rfl ?_)
  show nm (99 :: 108 :: 97 :: 109 :: 112 :: 40 :: Z) = _
  rw [nm_step _ _ _ (by decide) (by decide), nm_step _ _ _ (by decide) (by decide), nm_step _ _ _ (by decide) (by decide), nm_step _ _ _ (by decide) (by decide), nm_step _ _ _ (by decide) (by decide), nm40]
  rfl
theorem cut_calc (Z : List UInt8) : cutP ([99, 97, 108, 99] ++ 40 :: Z) = FNt [99, 97, 108, 99] :: cutP Z := by
  refine fn_of _ Z (by simp) (tok_fn _ Z rfl rfl rfl rfl rfl rfl rfl rfl ?_)
  show nm (99 :: 97 :: 108 :: 99 :: 40 :: Z) = _
  rw [nm_step _ _ _ (by decide) (by decide), nm_step _ _ _ (by decide) (by decide), nm_step _ _ _ (by decide) (by decide), nm_step _ _ _ (by decide) (by decide), nm40]
  rfl

theorem RelC.sp {s s' : List UInt8} {T T' : List Tk} (h : RelC s T) (h' : RelC s' T') : RelC (s ++ 32 :: s') (T ++ SPt :: T') := by
  refine ⟨by simp, cnt_head h.ne h.hb, ?_, fun u hu => ?_⟩
  · rw [cut_apart' stop32 s' _ s (Nat.le_refl _) (h.fin 32), cut_blank s' h'.hb, h.cu, h'.cu]; rfl
  · rw [last_app (by simp), last_cons h'.tne] at hu
    exact h'.nu u hu

theorem RelC.com {s s' : List UInt8} {T T' : List Tk} (h : RelC s T) (h' : RelC s' T') : RelC (s ++ 44 :: 32 :: s') (T ++ COMt :: SPt :: T') := by
  refine ⟨by simp, cnt_head h.ne h.hb, ?_, fun u hu => ?_⟩
  · rw [cut_apart' stop44 (32 :: s') _ s (Nat.le_refl _) (h.fin 44), cut_comma, cut_blank s' h'.hb, h.cu, h'.cu]; rfl
  · rw [last_app (by simp), last_cons (by simp), last_cons h'.tne] at hu
    exact h'.nu u hu

theorem RelC.close {s : List UInt8} {T : List Tk} (h : RelC s T) : RelC (s ++ [41]) (T ++ [CLt]) := by
  refine ⟨by simp, cnt_head h.ne h.hb, ?_, fun u hu => ?_⟩
  · rw [cut_apart' stp41 [] _ s (Nat.le_refl _) (h.fin 41), h.cu]; rfl
  · rw [last_app (by simp)] at hu
    have : u = CLt := (Option.some.inj hu).symm
    subst this
    exact ⟨by decide, by decide, by decide⟩

theorem RelC.op {s : List UInt8} {T : List Tk} (h : RelC s T) : RelC (40 :: s) (OPt :: T) := by
  refine ⟨by simp, rfl, by rw [cut_open, h.cu], fun u hu => ?_⟩
  rw [last_cons h.tne] at hu
  exact h.nu u hu

theorem RelC.fn {w s : List UInt8} {T : List Tk} (h : RelC s T) (hw : cutP (w ++ 40 :: s) = FNt w :: cutP s) (hb : cnt isBlank (w ++ 40 :: s) = 0) : RelC (w ++ 40 :: s) (FNt w :: T) := by
  refine ⟨by simp, hb, by rw [hw, h.cu], fun u hu => ?_⟩
  rw [last_cons h.tne] at hu
  exact h.nu u hu

theorem rel_sign (c : UInt8) (h : c = 43 ∨ c = 45 ∨ c = 42 ∨ c = 47) : RelC [c] [sgT c] := by
  have hn : ∀ u, ([sgT c] : List Tk).getLast? = some u → u.1 ≠ 6 ∧ u.1 ≠ 8 ∧ u.1 ≠ 9 := fun u hu => by
    have : u = sgT c := (Option.some.inj hu).symm
    subst this
    exact ⟨show (12 : Int) ≠ 6 by decide, show (12 : Int) ≠ 8 by decide, show (12 : Int) ≠ 9 by decide⟩
  rcases h with rfl | rfl | rfl | rfl <;> exact ⟨by simp, by decide +kernel, by decide +kernel, hn⟩

-- what is told

structure Told (k : Nat) (t : S52) (m : Nat) (s : List UInt8) (T : List Tk) : Prop where
  tx : ∀ f, m ≤ f → (calc_Text.G.rec k f).calc_Text t.Kind t.Dim_Num t.Dim_Unit t.Subs = some s
  ln : s.length ≤ 100 * m
  rc : RelC s T
  hd : ∃ u r, T = u :: r ∧ silT u = false
  pr : ∀ (f : Nat) (rest : List Tk) (n : Int) (g : Bool), 3 * m ≤ f → 0 ≤ n → n + m ≤ 30 → ∃ g', (recP k f).val true (T ++ rest) n g = some (.ok t rest (n + m) g')
  ps : 1 ≤ m

theorem gap_hd {T rest : List Tk} (h : ∃ u r, T = u :: r ∧ silT u = false) : gapP (T ++ rest) = T ++ rest := by
  obtain ⟨u, r, rfl, hs⟩ := h
  unfold gapP
  rw [List.cons_append, List.dropWhile_cons, hs]
  rfl

theorem gap_sp {T rest : List Tk} (h : ∃ u r, T = u :: r ∧ silT u = false) : gapP (SPt :: (T ++ rest)) = T ++ rest := by
  have := gap_hd (rest := rest) h
  unfold gapP at this ⊢
  rw [List.dropWhile_cons]
  exact this

theorem prodL_stop (R : RR) (k : Nat) (hk : 0 < k) (t : S52) (rest : List Tk) (n : Int) (g : Bool) (h1 : gapP rest = rest) (h2 : hdR rest [42] = false) (h3 : hdR rest [47] = false) : prodL R k t rest n g = some (.ok t rest n false) := by
  obtain ⟨j, rfl⟩ : ∃ j, k = j + 1 := ⟨k - 1, by omega⟩
  unfold prodL
  rw [h1, h2, h3]
  simp only [cond_false]
  rw [decide_eq_false (by omega)]

theorem sumL_stop (R : RR) (k : Nat) (hk : 0 < k) (t : S52) (rest : List Tk) (n : Int) (g : Bool) (h2 : hdR rest [43] = false) (h3 : hdR rest [45] = false) : sumL R k t rest n g = some (.ok t rest n g) := by
  obtain ⟨j, rfl⟩ : ∃ j, k = j + 1 := ⟨k - 1, by omega⟩
  unfold sumL
  rw [h2, h3]
  rfl

/-- Behind a term nothing is told that goes on with it. -/
structure Stp (rest : List Tk) : Prop where
  ga : gapP rest = rest
  mu : hdR rest [42] = false
  di : hdR rest [47] = false
  ad : hdR rest [43] = false
  su : hdR rest [45] = false

theorem stp_cl (r : List Tk) : Stp (CLt :: r) := ⟨rfl, rfl, rfl, rfl, rfl⟩
theorem stp_com (r : List Tk) : Stp (COMt :: r) := ⟨rfl, rfl, rfl, rfl, rfl⟩

theorem prod_one {k : Nat} (hk : 0 < k) {t : S52} {m : Nat} {s : List UInt8} {T : List Tk} (h : Told k t m s T) (f : Nat) (hf : 3 * m ≤ f) (l rest : List Tk) (n : Int) (g : Bool) (h0 : 0 ≤ n) (h1 : n + m ≤ 30)
    (hl : gapP l = T ++ rest) (hs : Stp rest) : (recP k (f + 1)).prod l n g = some (.ok t rest (n + m) false) := by
  show prodP k (recP k f) l n g = _
  unfold prodP
  rw [hl]
  obtain ⟨g', hg⟩ := h.pr f rest n g hf h0 h1
  rw [hg]
  exact prodL_stop _ k hk t rest _ g' hs.ga hs.mu hs.di

theorem sum_one {k : Nat} (hk : 0 < k) {t : S52} {m : Nat} {s : List UInt8} {T : List Tk} (h : Told k t m s T) (f : Nat) (hf : 3 * m ≤ f) (l rest : List Tk) (n : Int) (g : Bool) (h0 : 0 ≤ n) (h1 : n + m ≤ 30)
    (hl : gapP l = T ++ rest) (hs : Stp rest) : (recP k (f + 2)).sum l n g = some (.ok t rest (n + m) false) := by
  show sumP k (recP k (f + 1)) l n g = _
  unfold sumP
  rw [prod_one hk h f hf l rest n g h0 h1 hl hs]
  exact sumL_stop _ k hk t rest _ false hs.ad hs.su

theorem made_ok (t : S52) (l : List Tk) (n : Int) (g : Bool) (h : n + 1 ≤ 30) : madeP t l n g = .ok t l (n + 1) g := by
  unfold madeP
  rw [decide_eq_false (by omega)]
  rfl

def sgC (kd : Int) : UInt8 := bif kd == 2 then 43 else bif kd == 3 then 45 else bif kd == 4 then 42 else 47

theorem bin_parse {k : Nat} (hk : 1 < k) (kd : Int) (hkd : kd = 2 ∨ kd = 3 ∨ kd = 4 ∨ kd = 5) {a b : S52} {m1 m2 : Nat} {s1 s2 : List UInt8} {T1 T2 : List Tk} (ha : Told k a m1 s1 T1) (hb : Told k b m2 s2 T2)
    (f : Nat) (hf : 3 * (m1 + m2) ≤ f) (rest : List Tk) (n : Int) (g : Bool) (h0 : 0 ≤ n) (h1 : n + (m1 + m2 + 1 : Nat) ≤ 30) :
    ∃ g', (recP k (f + 3)).val true (OPt :: (T1 ++ SPt :: sgT (sgC kd) :: SPt :: (T2 ++ CLt :: rest))) n g = some (.ok ⟨kd, 0, [], [a, b]⟩ rest (n + (m1 + m2 + 1 : Nat)) g') := by
  have hT1 := gap_hd (rest := SPt :: sgT (sgC kd) :: SPt :: (T2 ++ CLt :: rest)) ha.hd
  have hT2 := gap_hd (rest := CLt :: rest) hb.hd
  have hT2s := gap_sp (rest := CLt :: rest) hb.hd
  have hsum : ∃ g', (recP k (f + 2)).sum (T1 ++ SPt :: sgT (sgC kd) :: SPt :: (T2 ++ CLt :: rest)) n g = some (.ok ⟨kd, 0, [], [a, b]⟩ (CLt :: rest) (n + (m1 + m2 + 1 : Nat)) g') := by
    show ∃ g', sumP k (recP k (f + 1)) _ n g = _
    unfold sumP
    show ∃ g', thenP (prodP k (recP k f) _ n g) _ = _
    unfold prodP
    rw [hT1]
    obtain ⟨g1, hg1⟩ := ha.pr f (SPt :: sgT (sgC kd) :: SPt :: (T2 ++ CLt :: rest)) n g (by omega) h0 (by omega)
    rw [hg1]
    simp only [thenP, Option.bind_some]
    obtain ⟨j, rfl⟩ : ∃ j, k = j + 2 := ⟨k - 2, by omega⟩
    have hgs : gapP (SPt :: sgT (sgC kd) :: SPt :: (T2 ++ CLt :: rest)) = sgT (sgC kd) :: SPt :: (T2 ++ CLt :: rest) := rfl
    have hlt : decide ((sgT (sgC kd) :: SPt :: (T2 ++ CLt :: rest)).length < (SPt :: sgT (sgC kd) :: SPt :: (T2 ++ CLt :: rest)).length) = true := decide_eq_true (by simp only [List.length_cons]; omega)
    have hn3 : (n + m1 : Int) + m2 + 1 = n + (m1 + m2 + 1 : Nat) := by omega
    rcases hkd with rfl | rfl | rfl | rfl
    · -- a sum
      have e1 : prodL (recP (j + 2) f) (j + 2) a (SPt :: sgT (sgC 2) :: SPt :: (T2 ++ CLt :: rest)) (n + m1) g1 = some (.ok a (sgT 43 :: SPt :: (T2 ++ CLt :: rest)) (n + m1) true) := by
        rw [prodL, hgs, hlt]; rfl
      rw [e1]
      refine ⟨false, ?_⟩
      simp only [Option.bind_some]
      rw [sumL]
      rw [show hdR (sgT 43 :: SPt :: (T2 ++ CLt :: rest)) [43] = true from rfl]
      simp only [cond_true]
      unfold sumStep
      simp only [List.tail_cons, hT2s]
      rw [decide_eq_true (show (T2 ++ CLt :: rest).length < (SPt :: (T2 ++ CLt :: rest)).length by simp)]
      simp only [Bool.and_self, Bool.not_true, cond_false]
      rw [prod_one (by omega) hb f (by omega) (T2 ++ CLt :: rest) (CLt :: rest) (n + m1) true (by omega) (by omega) hT2 (stp_cl rest)]
      simp only [thenP, Option.bind_some]
      rw [made_ok _ _ _ _ (by omega)]
      simp only []
      rw [sumL_stop _ _ (by omega) _ _ _ _ rfl rfl, hn3]
    · have e1 : prodL (recP (j + 2) f) (j + 2) a (SPt :: sgT (sgC 3) :: SPt :: (T2 ++ CLt :: rest)) (n + m1) g1 = some (.ok a (sgT 45 :: SPt :: (T2 ++ CLt :: rest)) (n + m1) true) := by
        rw [prodL, hgs, hlt]; rfl
      rw [e1]
      refine ⟨false, ?_⟩
      simp only [Option.bind_some]
      rw [sumL]
      rw [show hdR (sgT 45 :: SPt :: (T2 ++ CLt :: rest)) [43] = false from rfl, show hdR (sgT 45 :: SPt :: (T2 ++ CLt :: rest)) [45] = true from rfl]
      simp only [cond_true, cond_false]
      unfold sumStep
      simp only [List.tail_cons, hT2s]
      rw [decide_eq_true (show (T2 ++ CLt :: rest).length < (SPt :: (T2 ++ CLt :: rest)).length by simp)]
      simp only [Bool.and_self, Bool.not_true, cond_false]
      rw [prod_one (by omega) hb f (by omega) (T2 ++ CLt :: rest) (CLt :: rest) (n + m1) true (by omega) (by omega) hT2 (stp_cl rest)]
      simp only [thenP, Option.bind_some]
      rw [made_ok _ _ _ _ (by omega)]
      simp only []
      rw [sumL_stop _ _ (by omega) _ _ _ _ rfl rfl, hn3]
    · obtain ⟨g2, hg2⟩ := hb.pr f (CLt :: rest) (n + m1) true (by omega) (by omega) (by omega)
      refine ⟨false, ?_⟩
      rw [prodL, hgs, hlt]
      rw [show hdR (sgT (sgC 4) :: SPt :: (T2 ++ CLt :: rest)) [42] = true from rfl]
      simp only [cond_true, List.tail_cons, hT2s]
      rw [hg2]
      simp only [thenP, Option.bind_some]
      rw [made_ok _ _ _ _ (by omega)]
      simp only []
      rw [prodL_stop _ _ (by omega) _ _ _ _ rfl rfl rfl]
      simp only [Option.bind_some]
      rw [sumL_stop _ _ (by omega) _ _ _ _ rfl rfl, hn3]
    · obtain ⟨g2, hg2⟩ := hb.pr f (CLt :: rest) (n + m1) true (by omega) (by omega) (by omega)
      refine ⟨false, ?_⟩
      rw [prodL, hgs, hlt]
      rw [show hdR (sgT (sgC 5) :: SPt :: (T2 ++ CLt :: rest)) [42] = false from rfl, show hdR (sgT (sgC 5) :: SPt :: (T2 ++ CLt :: rest)) [47] = true from rfl]
      simp only [cond_true, cond_false, List.tail_cons, hT2s]
      rw [hg2]
      simp only [thenP, Option.bind_some]
      rw [made_ok _ _ _ _ (by omega)]
      simp only []
      rw [prodL_stop _ _ (by omega) _ _ _ _ rfl rfl rfl]
      simp only [Option.bind_some]
      rw [sumL_stop _ _ (by omega) _ _ _ _ rfl rfl, hn3]
  obtain ⟨g', hg'⟩ := hsum
  refine ⟨g', ?_⟩
  have hv : (recP k (f + 3)).val = valP k (recP k (f + 2)) := rfl
  rw [hv]
  unfold valP
  simp only []
  rw [show ((OPt : Tk).1 == (7 : Int)) = false from rfl, show (true && (OPt : Tk).2.1 == ([40] : List UInt8)) = true from rfl]
  simp only [cond_true, cond_false]
  unfold parenP
  rw [hg']
  rfl

/-- Terms that are told, with what is told of them. -/
abbrev Q4 := S52 × Nat × List UInt8 × List Tk
def AllT (k : Nat) (q : List Q4) : Prop := ∀ x ∈ q, Told k x.1 x.2.1 x.2.2.1 x.2.2.2
def sumM (q : List Q4) : Nat := (q.map fun x => x.2.1).sum
def joinT : List Q4 → List Tk
  | [] => []
  | x :: q => x.2.2.2 ++ (q.map fun y => COMt :: SPt :: y.2.2.2).flatten

theorem sumM_cons (x : Q4) (q : List Q4) : sumM (x :: q) = x.2.1 + sumM q := by simp [sumM]

theorem min_parse {k : Nat} (hk : 0 < k) (kd : Int) (f : Nat) (rest : List Tk) : ∀ (q : List Q4) (x : Q4) (F : Nat) (acc : List S52) (l : List Tk) (n : Int) (g : Bool), AllT k (x :: q) → q.length < F → 3 * sumM (x :: q) ≤ f → 0 ≤ n → n + (sumM (x :: q) + 1 : Nat) ≤ 30 →
    gapP l = x.2.2.2 ++ ((q.map fun y => COMt :: SPt :: y.2.2.2).flatten ++ CLt :: rest) → shp kd (acc ++ (x :: q).map fun y => y.1).length = true →
    minL (recP k (f + 2)) kd F acc l n g = some (.ok ⟨kd, 0, [], acc ++ (x :: q).map fun y => y.1⟩ rest (n + (sumM (x :: q) + 1 : Nat)) false)
  | q, x, 0, acc, l, n, g, _, h, _, _, _, _, _ => by omega
  | [], x, F + 1, acc, l, n, g, hA, _, hf, h0, h1, hl, hs => by
    rw [sumM_cons] at hf h1 ⊢
    have hx := hA x (by simp)
    unfold minL
    rw [sum_one hk hx f (by omega) l (CLt :: rest) n g h0 (by omega) hl (stp_cl rest)]
    simp only [thenP, Option.bind_some]
    rw [show hdR (CLt :: rest) [44] = false from rfl, show hdR (CLt :: rest) [41] = true from rfl]
    have hs' : shp kd (acc ++ [x.1]).length = true := hs
    simp only [cond_true, cond_false, hs', List.tail_cons]
    rw [made_ok _ _ _ _ (by omega)]
    have : (n + x.2.1 : Int) + 1 = n + ((x.2.1 + sumM []) + 1 : Nat) := by simp [sumM]; omega
    rw [this]
    rfl
  | y :: q, x, F + 1, acc, l, n, g, hA, hF, hf, h0, h1, hl, hs => by
    rw [sumM_cons] at hf h1 ⊢
    have hx := hA x (by simp)
    have hy := hA y (by simp)
    unfold minL
    have hl' : gapP l = x.2.2.2 ++ (COMt :: SPt :: (y.2.2.2 ++ ((q.map fun y => COMt :: SPt :: y.2.2.2).flatten ++ CLt :: rest))) := by rw [hl]; simp
    rw [sum_one hk hx f (by omega) l _ n g h0 (by omega) hl' (stp_com _)]
    simp only [thenP, Option.bind_some]
    rw [show hdR (COMt :: SPt :: (y.2.2.2 ++ ((q.map fun y => COMt :: SPt :: y.2.2.2).flatten ++ CLt :: rest))) [44] = true from rfl]
    simp only [cond_true, List.tail_cons]
    have ih := min_parse hk kd f rest q y F (acc ++ [x.1]) (SPt :: (y.2.2.2 ++ ((q.map fun y => COMt :: SPt :: y.2.2.2).flatten ++ CLt :: rest))) (n + x.2.1) false (fun z hz => hA z (by simp at hz ⊢; exact .inr hz)) (by simp only [List.length_cons] at hF; omega) (by omega) (by omega) (by omega)
      (gap_sp hy.hd) (by rw [← hs]; congr 1; simp)
    rw [ih]
    have e1 : (n + x.2.1 : Int) + (sumM (y :: q) + 1 : Nat) = n + (x.2.1 + sumM (y :: q) + 1 : Nat) := by omega
    rw [e1]
    simp

theorem fn_parse {k : Nat} (hk : 40 < k) (kd : Int) (w : List UInt8) (hw : (kd = 6 ∧ w = [109, 105, 110]) ∨ (kd = 7 ∧ w = [109, 97, 120]) ∨ (kd = 8 ∧ w = [99, 108, 97, 109, 112])) (x : Q4) (q : List Q4) (hA : AllT k (x :: q)) (hs : shp kd ((x :: q).map fun y => y.1).length = true)
    (f : Nat) (hf : 3 * sumM (x :: q) ≤ f) (hq : q.length ≤ 30) (rest : List Tk) (n : Int) (g : Bool) (h0 : 0 ≤ n) (h1 : n + (sumM (x :: q) + 1 : Nat) ≤ 30) :
    ∃ g', (recP k (f + 3)).val true (FNt w :: (joinT (x :: q) ++ CLt :: rest)) n g = some (.ok ⟨kd, 0, [], (x :: q).map fun y => y.1⟩ rest (n + (sumM (x :: q) + 1 : Nat)) g') := by
  refine ⟨false, ?_⟩
  have hv : (recP k (f + 3)).val = valP k (recP k (f + 2)) := rfl
  rw [hv]
  have hx := hA x (by simp)
  have hm := min_parse (by omega : 0 < k) kd f rest q x k [] (joinT (x :: q) ++ CLt :: rest) n g hA (by omega) hf h0 h1 (by
    show gapP ((x.2.2.2 ++ _) ++ CLt :: rest) = _
    rw [List.append_assoc]; exact gap_hd hx.hd) (by simpa using hs)
  rcases hw with ⟨rfl, rfl⟩ | ⟨rfl, rfl⟩ | ⟨rfl, rfl⟩ <;> exact hm

theorem word_eq (k : Nat) (kd : Int) (w : List UInt8) (hw : (kd = 6 ∧ w = [109, 105, 110]) ∨ (kd = 7 ∧ w = [109, 97, 120]) ∨ (kd = 8 ∧ w = [99, 108, 97, 109, 112])) : calc_word k kd = some w ∧ calc_sign k kd = some [44, 32] ∧ ∀ (a : Int) (b : List UInt8) (l : List S52), calc_shaped_v2 k kd a b l = some (shp kd l.length) := by
  rcases hw with ⟨rfl, rfl⟩ | ⟨rfl, rfl⟩ | ⟨rfl, rfl⟩ <;> exact ⟨rfl, rfl, fun a b l => rfl⟩

theorem opw_eq (k : Nat) (kd : Int) (hkd : kd = 2 ∨ kd = 3 ∨ kd = 4 ∨ kd = 5) : calc_word k kd = some [] ∧ calc_sign k kd = some [32, sgC kd, 32] ∧ ∀ (x : Int) (y : List UInt8) (a b : S52), calc_shaped_v2 k kd x y [a, b] = some true := by
  rcases hkd with rfl | rfl | rfl | rfl <;> exact ⟨rfl, rfl, fun x y a b => rfl⟩

theorem ctext_loop (k : Nat) (r : calc_Text.G.R) (q : List Q4) (hl : q.length ≤ 100000) (hr : ∀ i (h : i < q.length), r.calc_Text (q[i]).1.Kind (q[i]).1.Dim_Num (q[i]).1.Dim_Unit (q[i]).1.Subs = some (q[i]).2.2.1) (a b : Int) (c : List UInt8) (d : List S52)
    (K : Int → Int → List UInt8 → List S52 → List (List UInt8) → Option (List UInt8)) : ∀ (n i : Nat) (acc : List (List UInt8)), i ≤ q.length → q.length - i < n → acc.length ≤ i →
    calc_Text.c15 k r n (q.map fun y => y.1) (q.length : Int) (i : Int) a b c d acc K = K a b c d (acc ++ (q.drop i).map fun y => y.2.2.1)
  | 0, i, _, _, h, _ => by omega
  | n + 1, i, acc, hi, hn, ha => by
    unfold calc_Text.c15
    simp only [List.length_map, Int.toNat_natCast]
    rcases Nat.lt_or_ge i q.length with h1 | h1
    · have hd : q.drop i = q[i] :: q.drop (i + 1) := List.drop_eq_getElem_cons h1
      have hg : (q.map fun y => y.1).getD i S52.d = (q[i]).1 := by rw [List.getD_eq_getElem?_getD, List.getElem?_map, List.getElem?_eq_getElem h1]; rfl
      have w1 : IntKind.wrap .i64 ((i : Int) + 1) = ((i + 1 : Nat) : Int) := by rw [wrap_i64 (by omega) (by omega)]; omega
      rw [cond_dec (by omega), cond_dec (by omega)]
      simp only [hg]
      rw [hr i h1]
      simp only [Option.bind_some, w1]
      rw [cond_dec (by simp only [List.length_append, List.length_cons, List.length_nil, most]; omega)]
      rw [ctext_loop k r q hl hr a b c d K n (i + 1) _ (by omega) (by omega) (by simp only [List.length_append, List.length_cons, List.length_nil]; omega), hd]
      simp only [List.map_cons, List.append_assoc, List.singleton_append]
    · have : i = q.length := by omega
      subst this
      rw [cond_ndec (by omega), List.drop_length]
      simp

theorem text_of (k : Nat) (hk : 100001 < k) (r : calc_Text.G.R) (kd : Int) (h1 : (kd == (1 : Int)) = false) (w sg : List UInt8) (q : List Q4) (hl : q.length ≤ 100) (hr : ∀ i (h : i < q.length), r.calc_Text (q[i]).1.Kind (q[i]).1.Dim_Num (q[i]).1.Dim_Unit (q[i]).1.Subs = some (q[i]).2.2.1)
    (hsh : calc_shaped_v2 k kd 0 [] (q.map fun y => y.1) = some true) (hw : calc_word k kd = some w) (hsg : calc_sign k kd = some sg) (hw2 : w.length ≤ 10) (hsg2 : 0 < sg.length ∧ sg.length ≤ 10) (hm : lenS (q.map fun y => y.2.2.1) ≤ 1000000) :
    calc_Text.nat k r kd 0 [] (q.map fun y => y.1) = some (w ++ [40] ++ joinP sg (q.map fun y => y.2.2.1) ++ [41]) ∧ (joinP sg (q.map fun y => y.2.2.1)).length ≤ lenS (q.map fun y => y.2.2.1) + q.length * sg.length := by
  have hjl : (joinP sg (q.map fun y => y.2.2.1)).length ≤ lenS (q.map fun y => y.2.2.1) + q.length * sg.length := by
    match q with
    | [] => simp [joinP]
    | x :: r =>
      have : ∀ r : List (List UInt8), ((r.map fun y => sg ++ y).flatten).length = lenS r + r.length * sg.length := by
        intro r
        induction r with
        | nil => simp [lenS]
        | cons a b ih => rw [List.map_cons, List.flatten_cons, List.length_append, ih, lenS_cons, List.length_append, List.length_cons, Nat.succ_mul]; omega
      rw [List.map_cons]
      unfold joinP
      rw [List.length_append, this, lenS_cons, List.length_map, List.length_cons, Nat.succ_mul]
      omega
  refine ⟨?_, hjl⟩
  have hb : q.length * sg.length ≤ 100 * 10 := Nat.mul_le_mul hl hsg2.2
  unfold calc_Text.nat
  rw [hsh]
  simp only [Option.bind_some, Bool.not_true, cond_false, h1, List.length_map]
  rw [show calc_Text.c15 k r k (q.map fun y => y.1) (q.length : Int) (0 : Int) = calc_Text.c15 k r k (q.map fun y => y.1) (q.length : Int) ((0 : Nat) : Int) from rfl]
  rw [ctext_loop k r q (by omega) hr _ _ _ _ _ k 0 [] (by omega) (by omega) (by simp), List.drop_zero, List.nil_append, hw]
  simp only [Option.bind_some]
  rw [hsg]
  simp only [Option.bind_some]
  rw [Join_eq k hk _ sg (by rw [List.length_map]; omega) ⟨hsg2.1, by omega⟩ (by omega)]
  simp only [Option.bind_some]
  have b1 : Nat.ble (w.length + ([40] : List UInt8).length) 9223372036854775807 = true := Nat.ble_eq_true_of_le (by simp only [List.length_cons, List.length_nil]; omega)
  have b2 : Nat.ble ((w ++ ([40] : List UInt8)).length + (joinP sg (q.map fun y => y.2.2.1)).length) 9223372036854775807 = true := Nat.ble_eq_true_of_le (by simp only [List.length_append, List.length_cons, List.length_nil]; omega)
  have b3 : Nat.ble (((w ++ ([40] : List UInt8)) ++ joinP sg (q.map fun y => y.2.2.1)).length + ([41] : List UInt8).length) 9223372036854775807 = true := Nat.ble_eq_true_of_le (by simp only [List.length_append, List.length_cons, List.length_nil]; omega)
  rw [b1, b2, b3]
  rfl

theorem units_ok : ∀ i : Fin 7, decide (idxF (units.getD i.val []) g1_0 0 ≥ 0) = true := by decide +kernel

theorem told_num (k : Nat) (hk : 200 ≤ k) (x : Int) (u : List UInt8) (h : GoodD x u) : ∃ s T, Told k ⟨1, x, u, []⟩ 1 s T := by
  obtain ⟨⟨h0, h1⟩, i, hi, rfl⟩ := h
  have hul := units_len ⟨i, hi⟩
  simp only at hul
  obtain ⟨hu1, hu2⟩ := unit_of i hi
  have hlen : (txt x (units.getD i [])).length ≤ 30 := by
    unfold txt
    have := numS_le (decide (x < 0)) x.natAbs (by omega)
    rw [List.length_append]; omega
  have hcut : cutP (txt x (units.getD i [])) = [(7, txt x (units.getD i []), units.getD i [], x)] := by
    unfold txt
    rw [tok_numS _ _ _ hu2 hu1 (by omega)]
    congr 2
    by_cases h : x < 0
    · rw [decide_eq_true h, if_pos rfl]; congr 2; omega
    · rw [decide_eq_false h, if_neg (by decide)]; congr 2; omega
  have hne : txt x (units.getD i []) ≠ [] := by
    intro e; rw [e] at hcut; cases hcut
  have hbl : cnt isBlank (txt x (units.getD i [])) = 0 := by
    have ht : (tok1 (txt x (units.getD i []))).1 = 7 := by
      rw [cutP_cons _ hne] at hcut
      simp only [List.cons.injEq] at hcut
      have := congrArg (fun t : Tk => t.1) hcut.1
      exact this
    exact blank_of _ hne (by rw [ht]; decide)
  refine ⟨txt x (units.getD i []), [(7, txt x (units.getD i []), units.getD i [], x)], ⟨fun f hf => ?_, by omega, ⟨hne, hbl, hcut, fun w hw => ?_⟩, ⟨_, [], rfl, rfl⟩, fun f rest n g hf hn0 hn1 => ?_, Nat.le_refl _⟩⟩
  · obtain ⟨j, rfl⟩ : ∃ j, f = j + 1 := ⟨f - 1, by omega⟩
    show calc_Text.nat k (calc_Text.G.rec k j) 1 x (units.getD i []) [] = _
    unfold calc_Text.nat
    rw [show calc_shaped_v2 k 1 x (units.getD i []) [] = some true from rfl]
    simp only [Option.bind_some, Bool.not_true, cond_false]
    rw [text_eq' k x h0 h1 _ (by omega)]
    rfl
  · have : w = (7, txt x (units.getD i []), units.getD i [], x) := (Option.some.inj hw).symm
    subst this
    exact ⟨show (7 : Int) ≠ 6 by decide, show (7 : Int) ≠ 8 by decide, show (7 : Int) ≠ 9 by decide⟩
  · obtain ⟨j, rfl⟩ : ∃ j, f = j + 1 := ⟨f - 1, by omega⟩
    refine ⟨g, ?_⟩
    show valP k (recP k j) true ((7, txt x (units.getD i []), units.getD i [], x) :: rest) n g = _
    have hd : dimP (7, txt x (units.getD i []), units.getD i [], x) = (x, units.getD i [], 0) := by
      unfold dimP
      rw [units_ok ⟨i, hi⟩]
      rfl
    unfold valP
    simp only [hd]
    rw [made_ok _ _ _ _ (by omega)]
    rfl

theorem all_nth {k : Nat} {q : List Q4} (hA : AllT k q) (f : Nat) (hf : sumM q ≤ f) : ∀ i (h : i < q.length), (calc_Text.G.rec k f).calc_Text (q[i]).1.Kind (q[i]).1.Dim_Num (q[i]).1.Dim_Unit (q[i]).1.Subs = some (q[i]).2.2.1 := by
  intro i h
  have hm : ∀ (q : List Q4) (x : Q4), x ∈ q → x.2.1 ≤ sumM q := by
    intro q
    induction q with
    | nil => intro x hx; cases hx
    | cons y r ih =>
      intro x hx
      rw [sumM_cons]
      rcases List.mem_cons.1 hx with rfl | hx
      · omega
      · have := ih x hx; omega
  exact (hA _ (List.getElem_mem h)).tx f (by have := hm q _ (List.getElem_mem h); omega)

theorem len_told {k : Nat} : ∀ {q : List Q4}, AllT k q → lenS (q.map fun y => y.2.2.1) ≤ 100 * sumM q ∧ q.length ≤ sumM q
  | [], _ => by simp [lenS, sumM]
  | x :: q, h => by
    obtain ⟨h1, h2⟩ := len_told (q := q) (fun y hy => h y (by simp [hy]))
    have hx := h x (by simp)
    have := hx.ln
    have := hx.ps
    rw [List.map_cons, lenS_cons, sumM_cons]
    simp only [List.length_cons]
    omega

theorem rel_join {k : Nat} : ∀ (q : List Q4) (s : List UInt8) (T : List Tk), AllT k q → RelC s T → RelC (s ++ ((q.map fun y => y.2.2.1).map fun y => [44, 32] ++ y).flatten) (T ++ (q.map fun y => COMt :: SPt :: y.2.2.2).flatten)
  | [], s, T, _, h => by simpa using h
  | x :: q, s, T, hA, h => by
    have h1 := h.com (hA x (by simp)).rc
    have := rel_join q _ _ (fun y hy => hA y (by simp [hy])) h1
    simpa [List.append_assoc] using this

theorem told (k : Nat) (hk : 100010 < k) : ∀ (N : Nat) (t : S52) (m : Nat), m ≤ N → m ≤ 30 → GoodT t m → ∃ s T, Told k t m s T
  | 0, t, m, hN, _, h => by
    exfalso
    cases h <;> omega
  | N + 1, t, m, hN, h30, h => by
    cases h with
    | num x u h => exact told_num k (by omega) x u h
    | bin kd a b m1 m2 hkd ha hb =>
      obtain ⟨s1, T1, hA⟩ := told k hk N a m1 (by omega) (by omega) ha
      obtain ⟨s2, T2, hB⟩ := told k hk N b m2 (by omega) (by omega) hb
      have l1 := hA.ln
      have l2 := hB.ln
      have hsg : sgC kd = 43 ∨ sgC kd = 45 ∨ sgC kd = 42 ∨ sgC kd = 47 := by rcases hkd with rfl | rfl | rfl | rfl <;> decide
      have hrc := ((hA.rc.sp (rel_sign _ hsg)).sp hB.rc).close.op
      refine ⟨_, _, ⟨fun f hf => ?_, ?_, hrc, ⟨OPt, _, rfl, rfl⟩, fun f rest n g hf h0 h1 => ?_, by omega⟩⟩
      · obtain ⟨j, rfl⟩ : ∃ j, f = j + 1 := ⟨f - 1, by omega⟩
        obtain ⟨o1, o2, o3⟩ := opw_eq k kd hkd
        have hq : AllT k [(a, m1, s1, T1), (b, m2, s2, T2)] := by
          intro x hx
          simp at hx
          rcases hx with rfl | rfl
          · exact hA
          · exact hB
        have := (text_of k (by omega) (calc_Text.G.rec k j) kd (by rcases hkd with rfl | rfl | rfl | rfl <;> rfl) [] [32, sgC kd, 32] [(a, m1, s1, T1), (b, m2, s2, T2)] (by simp) (all_nth hq j (by simp [sumM]; omega)) (o3 _ _ _ _) o1 o2 (by simp) ⟨by simp, by simp⟩
          (by simp [lenS]; omega)).1
        have e : ([] ++ [40] ++ joinP [32, sgC kd, 32] [s1, s2] ++ [41] : List UInt8) = 40 :: (s1 ++ 32 :: [sgC kd] ++ 32 :: s2 ++ [41]) := by
          unfold joinP
          simp
        rw [← e]
        exact this
      · simp only [List.length_cons, List.length_append, List.length_nil]; omega
      · obtain ⟨j, rfl⟩ : ∃ j, f = j + 3 := ⟨f - 3, by omega⟩
        obtain ⟨g', hg'⟩ := bin_parse (by omega) kd hkd hA hB j (by omega) rest n g h0 h1
        refine ⟨g', ?_⟩
        rw [← hg']
        congr 1
        simp [List.append_assoc]
    | fn kd l m' hkd hs hl =>
      have hlist : ∀ (l : List S52) (m' : Nat), m' ≤ N → m' ≤ 30 → GoodL l m' → ∃ q : List Q4, AllT k q ∧ l = (q.map fun y => y.1) ∧ m' = sumM q := by
        intro l
        induction l with
        | nil => intro m' _ _ h; cases h; exact ⟨[], fun x hx => (by cases hx), rfl, rfl⟩
        | cons t l ih =>
          intro m' h1 h2 h
          cases h with
          | cons _ _ m n ht hl =>
            obtain ⟨s, T, hT⟩ := told k hk N t m (by omega) (by omega) ht
            obtain ⟨q, q1, q2, q3⟩ := ih n (by omega) (by omega) hl
            refine ⟨(t, m, s, T) :: q, fun x hx => ?_, by rw [q2]; rfl, by rw [sumM_cons, q3]⟩
            rcases List.mem_cons.1 hx with rfl | hx
            · exact hT
            · exact q1 x hx
      obtain ⟨q, q1, q2, q3⟩ := hlist l m' (by omega) (by omega) hl
      subst q2 q3
      obtain ⟨w, hw⟩ : ∃ w, (kd = 6 ∧ w = [109, 105, 110]) ∨ (kd = 7 ∧ w = [109, 97, 120]) ∨ (kd = 8 ∧ w = ([99, 108, 97, 109, 112] : List UInt8)) := by
        rcases hkd with h | h | h
        · exact ⟨_, .inl ⟨h, rfl⟩⟩
        · exact ⟨_, .inr (.inl ⟨h, rfl⟩)⟩
        · exact ⟨_, .inr (.inr ⟨h, rfl⟩)⟩
      obtain ⟨o1, o2, o3⟩ := word_eq k kd w hw
      have hw5 : w.length ≤ 5 := by rcases hw with ⟨_, rfl⟩ | ⟨_, rfl⟩ | ⟨_, rfl⟩ <;> decide
      match q, q1, hs with
      | [], _, hs => rcases hkd with rfl | rfl | rfl <;> exact absurd hs (by decide)
      | x :: q, q1, hs =>
        obtain ⟨n1, n2⟩ := len_told q1
        have hx := q1 x (by simp)
        have hrj := rel_join q x.2.2.1 x.2.2.2 (fun y hy => q1 y (by simp [hy])) hx.rc
        have hcutw : ∀ Z, cutP (w ++ 40 :: Z) = FNt w :: cutP Z := by
          rcases hw with ⟨_, rfl⟩ | ⟨_, rfl⟩ | ⟨_, rfl⟩
          · exact cut_min
          · exact cut_max
          · exact cut_clamp
        have hblw : ∀ Z, cnt isBlank (w ++ 40 :: Z) = 0 := by
          rcases hw with ⟨_, rfl⟩ | ⟨_, rfl⟩ | ⟨_, rfl⟩ <;> exact fun Z => rfl
        have hrc := hrj.close.fn (w := w) (hcutw _) (hblw _)
        have ht := fun j (hj : sumM (x :: q) ≤ j) => text_of k (by omega) (calc_Text.G.rec k j) kd (by rcases hkd with rfl | rfl | rfl <;> rfl) w [44, 32] (x :: q) (by simp only [List.length_cons] at n2 ⊢; omega) (all_nth q1 j hj) (by rw [o3, hs]) o1 o2 (by omega) ⟨by simp, by simp⟩ (by omega)
        refine ⟨_, _, ⟨fun f hf => ?_, ?_, hrc, ⟨FNt w, _, rfl, rfl⟩, fun f rest n g hf h0 h1 => ?_, by omega⟩⟩
        · obtain ⟨j, rfl⟩ : ∃ j, f = j + 1 := ⟨f - 1, by omega⟩
          have := (ht j (by omega)).1
          have e : (w ++ [40] ++ joinP [44, 32] ((x :: q).map fun y => y.2.2.1) ++ [41] : List UInt8) = w ++ 40 :: (x.2.2.1 ++ ((q.map fun y => y.2.2.1).map fun y => [44, 32] ++ y).flatten ++ [41]) := by
            rw [List.map_cons]
            unfold joinP
            simp
          rw [← e]
          exact this
        · have := (ht (sumM (x :: q)) (Nat.le_refl _)).2
          rw [List.map_cons] at this
          unfold joinP at this
          rw [List.map_cons] at n1
          simp only [List.length_append, List.length_cons, List.length_nil] at this n1 n2 ⊢
          omega
        · obtain ⟨j, rfl⟩ : ∃ j, f = j + 3 := ⟨f - 3, by omega⟩
          obtain ⟨g', hg'⟩ := fn_parse (by omega) kd w hw x q q1 hs j (by omega) (by simp only [List.length_cons] at n2; omega) rest n g h0 h1
          refine ⟨g', ?_⟩
          rw [← hg']
          congr 1
          unfold joinT
          simp [List.append_assoc]

end Go.Ev.Ck
