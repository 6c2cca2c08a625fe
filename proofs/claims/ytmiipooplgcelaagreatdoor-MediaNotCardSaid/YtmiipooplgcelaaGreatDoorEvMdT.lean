/- A part of the evaluator of Go code over small heaps and of its proof: no condition beyond those that each theorem names. -/
import Derived.Test.YtmiipooplgcelaaGreatDoorEvMd
import Derived.Test.YtmiipooplgcelaaGreatDoorEvTkS
set_option linter.unusedVariables false
set_option linter.unusedSimpArgs false
set_option linter.constructorNameAsVariable false
set_option maxRecDepth 100000
namespace Go.Ev.Md
open Go.Ev Go.Ev.Tok

theorem starts_eq (k : Nat) (c : UInt8) : csstok_starts k (c.toNat : Int) = some (isSt c) := by
  have h : ∀ n : Fin 256, csstok_starts 0 ((n.val : Nat) : Int) = some (isSt (UInt8.ofNat n.val)) := by decide +kernel
  have := h ⟨c.toNat, c.toNat_lt⟩
  show csstok_starts 0 _ = _
  simpa using this

theorem digit_eq (k : Nat) (c : UInt8) : csstok_digit k (c.toNat : Int) = some (isDig c) := by
  have h : ∀ n : Fin 256, csstok_digit 0 ((n.val : Nat) : Int) = some (isDig (UInt8.ofNat n.val)) := by decide +kernel
  have := h ⟨c.toNat, c.toNat_lt⟩
  show csstok_digit 0 _ = _
  simpa using this

theorem byte_eq (c d : UInt8) : (((c.toNat : Nat) : Int) == ((d.toNat : Nat) : Int)) = (c == d) := by
  by_cases h : c = d
  · subst h; simp
  · have h2 : c.toNat ≠ d.toNat := fun e => h (UInt8.toNat_inj.1 e)
    have e1 : (((c.toNat : Nat) : Int) == ((d.toNat : Nat) : Int)) = false := by simp; omega
    have e2 : (c == d) = false := by simpa using h
    rw [e1, e2]

theorem sign_eq (k : Nat) (c : UInt8) : csstok_sign k (c.toNat : Int) = some (isSg c) := by
  unfold csstok_sign isSg
  simp only [starts_eq, digit_eq, Option.bind_some]
  have e : (((c.toNat : Nat) : Int) == (45 : Int)) = (c == 45) := byte_eq c 45
  rw [e]
  cases isSt c <;> simp

theorem get_at (s : List UInt8) (i : Nat) (c : UInt8) (r : List UInt8) (h : s.drop i = c :: r) : i < s.length ∧ s.getD i 0 = c ∧ s.drop (i + 1) = r := by
  have hi : i < s.length := by
    rcases Nat.lt_or_ge i s.length with h1 | h1
    · exact h1
    · rw [List.drop_eq_nil_of_le h1] at h; cases h
  rw [List.drop_eq_getElem_cons hi] at h
  simp only [List.cons.injEq] at h
  exact ⟨hi, by rw [List.getD_eq_getElem?_getD, List.getElem?_eq_getElem hi]; simpa using h.1, h.2⟩

theorem escape_eq (k : Nat) (s : List UInt8) : csstok_escape k s = some (esc s) := by
  unfold csstok_escape
  match s with
  | [] => rfl
  | [a] => simp [esc]
  | a :: b :: r =>
    have e1 : (((a.toNat : Nat) : Int) == (92 : Int)) = (a == 92) := byte_eq a 92
    have e2 : (((b.toNat : Nat) : Int) != (10 : Int)) = (b != 10) := by
      show (!(((b.toNat : Nat) : Int) == (10 : Int))) = !(b == 10)
      rw [show (((b.toNat : Nat) : Int) == (10 : Int)) = (b == 10) from byte_eq b 10]
    have h1 : decide (((a :: b :: r).length : Int) > 1) = true := by simp; omega
    have h2 : decide (0 ≤ (0 : Int) ∧ (0 : Int) < ((a :: b :: r).length : Int)) = true := by simp; omega
    have h3 : decide (0 ≤ (1 : Int) ∧ (1 : Int) < ((a :: b :: r).length : Int)) = true := by simp; omega
    simp only [h1, h2, h3, Bool.true_or, cond_true]
    show some (cond (((a.toNat : Nat) : Int) == (92 : Int)) (((b.toNat : Nat) : Int) != (10 : Int)) false) = _
    rw [e1, e2]
    simp only [esc]
    cases (a == 92) <;> rfl

theorem wByte_at (s : List UInt8) (c : UInt8) (h : s.length < 1000000) : wByte s ((c.toNat : Nat) : Int) = some (s ++ [c]) := wByte_ok s c (by unfold blMax; omega)

theorem name_loop (k : Nat) (s : List UInt8) (hs : s.length ≤ 100000) : ∀ (n i : Nat) (acc : List UInt8), i ≤ s.length → s.length - i < n → acc.length ≤ i →
    csstok_name.c7 k n s (i : Int) acc (fun (y17 : Int) (y18 : List UInt8) => (f__strings_Builder__String k y18).bind fun r19 => some (r19.1, y17)) = some (acc ++ (nm (s.drop i)).1, ((i + (nm (s.drop i)).2 : Nat) : Int))
  | 0, i, acc, _, h, _ => by omega
  | n + 1, i, acc, h1, h2, h3 => by
    rw [csstok_name.c7]
    match hd : s.drop i with
    | [] =>
      have : ¬ (i : Int) < (s.length : Int) := by
        intro hlt
        have : s.drop i ≠ [] := by simp; omega
        exact this hd
      simp only []
      rw [cond_ndec this]
      simp [f__strings_Builder__String, nm]
    | c :: r =>
      obtain ⟨g1, g2, g3⟩ := get_at s i c r hd
      have l1 : (i : Int) < (s.length : Int) := by omega
      have l2 : 0 ≤ (i : Int) ∧ (i : Int) ≤ (s.length : Int) := by omega
      have l3 : 0 ≤ (i : Int) ∧ (i : Int) < (s.length : Int) := by omega
      have w1 : IntKind.wrap .i64 ((i : Int) + 1) = ((i + 1 : Nat) : Int) := wrap_i64 (by omega) (by omega)
      have w2 : IntKind.wrap .i64 ((i : Int) + 2) = ((i + 2 : Nat) : Int) := wrap_i64 (by omega) (by omega)
      simp only [w1, w2, Int.toNat_natCast, g2]
      rw [cond_dec l1, cond_dec l2, escape_eq]
      simp only [Option.bind_some]
      match r, g3 with
      | [], g3 =>
        simp only [esc, cond_false, sign_eq, Option.bind_some, f__strings_Builder__WriteByte, wByte_at acc c (by omega)]
        rw [cond_dec l3]
        cases hsg : isSg c with
        | true =>
          simp only [cond_true]
          rw [cond_dec l3, name_loop k s hs n (i + 1) (acc ++ [c]) (by omega) (by omega) (by simp; omega), g3]
          simp [nm, hsg]
        | false => simp [nm, hsg, f__strings_Builder__String]
      | d :: r', g3 =>
        obtain ⟨g4, g5, g6⟩ := get_at s (i + 1) d r' g3
        simp only [esc]
        cases he : (c == 92 && d != 10) with
        | true =>
          simp only [cond_true, g5, f__strings_Builder__WriteByte, wByte_at acc d (by omega), Option.bind_some]
          rw [cond_dec (by omega), name_loop k s hs n (i + 2) (acc ++ [d]) (by omega) (by omega) (by simp; omega), g6]
          simp [nm, he]
          omega
        | false =>
          simp only [cond_false, sign_eq, Option.bind_some, f__strings_Builder__WriteByte, wByte_at acc c (by omega)]
          rw [cond_dec l3]
          cases hsg : isSg c with
          | true =>
            simp only [cond_true]
            rw [cond_dec l3, name_loop k s hs n (i + 1) (acc ++ [c]) (by omega) (by omega) (by simp; omega), g3]
            simp [nm, he, hsg]
            omega
          | false => simp [nm, he, hsg, f__strings_Builder__String]

theorem name_eq (k : Nat) (s : List UInt8) (hs : s.length ≤ 100000) (hk : s.length < k) : csstok_name k s = some ((nm s).1, ((nm s).2 : Int)) := by
  unfold csstok_name
  have := name_loop k s hs k 0 [] (by omega) (by omega) (by simp)
  simpa using this

theorem bne_eq (c d : UInt8) : (((c.toNat : Nat) : Int) != ((d.toNat : Nat) : Int)) = (c != d) := by
  show (!(((c.toNat : Nat) : Int) == ((d.toNat : Nat) : Int))) = !(c == d)
  rw [byte_eq]

theorem begins_eq (k : Nat) (s : List UInt8) : csstok_begins k s = some (bg s) := by
  unfold csstok_begins
  match s with
  | [] => rfl
  | [a] =>
    have h1 : (([a] : List UInt8) == []) = false := rfl
    have e1 : (((a.toNat : Nat) : Int) == (45 : Int)) = (a == 45) := byte_eq a 45
    have e2 : decide ((([a] : List UInt8).length : Int) > 1) = false := by simp
    have e3 : (cond (a == 45) false false) = false := by cases (a == 45) <;> rfl
    have d0 : decide (0 ≤ (0 : Int) ∧ (0 : Int) < (([a] : List UInt8).length : Int)) = true := by simp
    have g0 : ([a] : List UInt8).getD (0 : Int).toNat 0 = a := rfl
    simp only [h1, cond_false, d0, g0, e1, e2, e3, cond_true, starts_eq, escape_eq, Option.bind_some, esc, bg]
    cases isSt a <;> rfl
  | a :: b :: r =>
    have h1 : ((a :: b :: r) == ([] : List UInt8)) = false := rfl
    have e1 : (((a.toNat : Nat) : Int) == (45 : Int)) = (a == 45) := byte_eq a 45
    have e4 : (((b.toNat : Nat) : Int) == (45 : Int)) = (b == 45) := byte_eq b 45
    have d0 : decide (0 ≤ (0 : Int) ∧ (0 : Int) < ((a :: b :: r).length : Int)) = true := by simp; omega
    have d1 : decide (0 ≤ (1 : Int) ∧ (1 : Int) < ((a :: b :: r).length : Int)) = true := by simp; omega
    have d2 : decide (0 ≤ (1 : Int) ∧ (1 : Int) ≤ ((a :: b :: r).length : Int)) = true := by simp; omega
    have d3 : decide (((a :: b :: r).length : Int) > 1) = true := by simp; omega
    have g0 : (a :: b :: r).getD (0 : Int).toNat 0 = a := rfl
    have g1 : (a :: b :: r).getD (1 : Int).toNat 0 = b := rfl
    have g2 : (a :: b :: r).drop (1 : Int).toNat = b :: r := rfl
    simp only [h1, cond_false, d0, d1, d2, d3, g0, g1, g2, e1, e4, cond_true, Bool.true_or, starts_eq, escape_eq, Option.bind_some, bg]
    cases (a == 45) <;> cases (b == 45) <;> cases (isSt a) <;> cases (isSt b) <;> simp

theorem str_ret (k : Nat) (s : List UInt8) : f__strings_Builder__String k s = some (s, s) := rfl

theorem text_loop (k : Nat) (s : List UInt8) (q : UInt8) (hs : s.length ≤ 100000) (h0 : 0 < s.length) (hq : s.getD 0 0 = q) : ∀ (n i : Nat) (acc : List UInt8), i ≤ s.length → s.length - i < n → acc.length ≤ i →
    csstok_text.c7 k n s (i : Int) 0 [] [] 0 acc (fun (y23 : List UInt8) (y24 : Int) (y25 : List UInt8) (y26 : List UInt8) (y27 : Int) => some ((6 : Int), y23, [], (0 : Int))) =
      some (bif (tx q (s.drop i)).1 then ((5 : Int), s.take (i + (tx q (s.drop i)).2.1), acc ++ (tx q (s.drop i)).2.2, (0 : Int)) else ((6 : Int), s.take (i + (tx q (s.drop i)).2.1), [], (0 : Int)))
  | 0, i, acc, _, h, _ => by omega
  | n + 1, i, acc, h1, h2, h3 => by
    rw [csstok_text.c7]
    match hd : s.drop i with
    | [] =>
      have hi : i = s.length := by
        have := congrArg List.length hd
        simp at this; omega
      simp only []
      rw [cond_ndec (show ¬ (i : Int) < (s.length : Int) by omega)]
      simp [tx, hi]
    | c :: r =>
      obtain ⟨g1, g2, g3⟩ := get_at s i c r hd
      have l1 : (i : Int) < (s.length : Int) := by omega
      have l3 : 0 ≤ (i : Int) ∧ (i : Int) < (s.length : Int) := by omega
      have l4 : 0 ≤ (0 : Int) ∧ (0 : Int) < (s.length : Int) := by omega
      have w1 : IntKind.wrap .i64 ((i : Int) + 1) = ((i + 1 : Nat) : Int) := wrap_i64 (by omega) (by omega)
      have w2 : IntKind.wrap .i64 (((i + 1 : Nat) : Int) + 1) = ((i + 2 : Nat) : Int) := wrap_i64 (by omega) (by omega)
      have q0 : s.getD (0 : Int).toNat 0 = q := hq
      simp only [w1, w2, Int.toNat_natCast, g2, q0, byte_eq c q]
      rw [cond_dec l1, cond_dec l3, cond_dec l4]
      have e10 : (((c.toNat : Nat) : Int) == (10 : Int)) = (c == 10) := byte_eq c 10
      have e92 : (((c.toNat : Nat) : Int) == (92 : Int)) = (c == 92) := byte_eq c 92
      rw [e10, e92]
      have lA : 0 ≤ ((i + 1 : Nat) : Int) ∧ ((i + 1 : Nat) : Int) ≤ (s.length : Int) := by omega
      have lB : 0 ≤ (i : Int) ∧ (i : Int) ≤ (s.length : Int) := by omega
      match r, g3 with
      | [], g3 =>
        have hl : i + 1 = s.length := by
          have := congrArg List.length g3
          simp at this; omega
        have e15 : decide (((i + 1 : Nat) : Int) < (s.length : Int)) = false := by simp; omega
        have e16 : (cond (c == 92) false false) = false := by cases (c == 92) <;> rfl
        cases hcq : (c == q) with
        | true =>
          simp only [cond_true, str_ret, Option.bind_some, decide_eq_true lA]
          simp [tx, hcq]
        | false =>
          cases h10 : (c == 10) with
          | true =>
            simp only [cond_true, cond_false, decide_eq_true lB]
            simp [tx, hcq, h10]
          | false =>
            simp only [e15, e16, cond_false, f__strings_Builder__WriteByte, wByte_at acc c (by omega), Option.bind_some]
            rw [text_loop k s q hs h0 hq n (i + 1) (acc ++ [c]) (by omega) (by omega) (by simp; omega), g3]
            simp [tx, hcq, h10]
      | d :: r', g3 =>
        obtain ⟨g4, g5, g6⟩ := get_at s (i + 1) d r' g3
        have e15 : decide (((i + 1 : Nat) : Int) < (s.length : Int)) = true := by simp; omega
        have lC : 0 ≤ ((i + 1 : Nat) : Int) ∧ ((i + 1 : Nat) : Int) < (s.length : Int) := by omega
        cases hcq : (c == q) with
        | true =>
          simp only [cond_true, str_ret, Option.bind_some, decide_eq_true lA]
          simp [tx, hcq]
        | false =>
          cases h10 : (c == 10) with
          | true =>
            simp only [cond_true, cond_false, decide_eq_true lB]
            simp [tx, hcq, h10]
          | false =>
            cases h92 : (c == 92) with
            | true =>
              simp only [e15, cond_true, cond_false, decide_eq_true lC, g5, f__strings_Builder__WriteByte, wByte_at acc d (by omega), Option.bind_some]
              rw [text_loop k s q hs h0 hq n (i + 2) (acc ++ [d]) (by omega) (by omega) (by simp; omega), g6]
              simp only [tx, hcq, h10, h92, cond_true, cond_false, List.append_assoc, List.singleton_append]
              rw [show i + 2 + (tx q r').2.1 = i + ((tx q r').2.1 + 2) by omega]
            | false =>
              simp only [e15, cond_false, f__strings_Builder__WriteByte, wByte_at acc c (by omega), Option.bind_some]
              rw [text_loop k s q hs h0 hq n (i + 1) (acc ++ [c]) (by omega) (by omega) (by simp; omega), g3]
              simp only [tx, hcq, h10, h92, cond_true, cond_false, List.append_assoc, List.singleton_append]
              rw [show i + 1 + (tx q (d :: r')).2.1 = i + ((tx q (d :: r')).2.1 + 1) by omega]

theorem dig_set (c : UInt8) : ([48, 49, 50, 51, 52, 53, 54, 55, 56, 57] : List UInt8).contains c = isDig c := by
  have h : ∀ n : Fin 256, ([48, 49, 50, 51, 52, 53, 54, 55, 56, 57] : List UInt8).contains (UInt8.ofNat n.val) = isDig (UInt8.ofNat n.val) := by decide +kernel
  have := h ⟨c.toNat, c.toNat_lt⟩
  simpa using this

theorem bl_set (c : UInt8) : ([32, 9, 10, 12, 13] : List UInt8).contains c = isBlank c := by
  have h : ∀ n : Fin 256, ([32, 9, 10, 12, 13] : List UInt8).contains (UInt8.ofNat n.val) = isBlank (UInt8.ofNat n.val) := by decide +kernel
  have := h ⟨c.toNat, c.toNat_lt⟩
  simpa using this

theorem trim_dig (k : Nat) (s : List UInt8) : strings_TrimLeft k s ([48, 49, 50, 51, 52, 53, 54, 55, 56, 57] : List UInt8) = some (s.dropWhile isDig) := by
  unfold strings_TrimLeft trimL
  have h : (asciiB [48, 49, 50, 51, 52, 53, 54, 55, 56, 57] && (([48, 49, 50, 51, 52, 53, 54, 55, 56, 57] : List UInt8).length).blt findMax) = true := by decide
  rw [h, cond_true]
  congr 2
  funext c
  exact dig_set c

theorem trim_bl (k : Nat) (s : List UInt8) : strings_TrimLeft k s ([32, 9, 10, 12, 13] : List UInt8) = some (s.dropWhile isBlank) := by
  unfold strings_TrimLeft trimL
  have h : (asciiB [32, 9, 10, 12, 13] && (([32, 9, 10, 12, 13] : List UInt8).length).blt findMax) = true := by decide
  rw [h, cond_true]
  congr 2
  funext c
  exact bl_set c

theorem digits_eq (k : Nat) (s : List UInt8) (hs : s.length ≤ 100000) : csstok_digits k s = some ((cnt isDig s : Nat) : Int) := by
  unfold csstok_digits
  rw [trim_dig]
  simp only [Option.bind_some]
  have h1 := cnt_drop isDig s
  have h2 := cnt_le isDig s
  rw [wrap_i64 (by omega) (by omega)]
  congr 1
  omega

theorem pre_eq (k : Nat) (s : List UInt8) (c : UInt8) : strings_HasPrefix k s [c] = some (match s with | a :: _ => a == c | [] => false) := by
  unfold strings_HasPrefix stringslite_HasPrefix
  match s with
  | [] => rfl
  | a :: r =>
    have h1 : decide (((a :: r).length : Int) ≥ (([c] : List UInt8).length : Int)) = true := by simp; omega
    have h2 : decide (0 ≤ (([c] : List UInt8).length : Int) ∧ (([c] : List UInt8).length : Int) ≤ ((a :: r).length : Int)) = true := by simp; omega
    simp only [h1, h2, Bool.true_or, cond_true, Option.bind_some]
    show some ([a] == [c]) = _
    cases h : a == c
    · have : ([a] == [c]) = false := by simpa using h
      rw [this]
    · have : ([a] == [c]) = true := by simpa using h
      rw [this]

theorem add_eq (k : Nat) (c : UInt8) (n : Int) (h0 : 0 ≤ n) (h1 : n ≤ 1000000000) : csstok_Number_1 k ((c.toNat : Nat) : Int) n = some (addD n c) := by
  unfold csstok_Number_1
  simp only []
  rw [wrap_i64 (n := 10 * n) (by omega) (by omega), wrap_u8, wrap_i64 (n := (((c.toNat : Nat) : Int) - 48) % 256) (by omega) (by omega), wrap_i64 (n := 10 * n + (((c.toNat : Nat) : Int) - 48) % 256) (by omega) (by omega)]
  rfl

theorem get_bytes (l : List UInt8) (i : Nat) (hi : i < l.length) : (bytesI l).getD i 0 = ((l.getD i 0).toNat : Int) := by
  unfold bytesI
  simp [List.getD_eq_getElem?_getD, List.getElem?_eq_getElem hi]

theorem whole_loop (k : Nat) (a b c d : Int) (s l : List UInt8) (hl : l.length ≤ 100000) (K : List UInt8 → Int → Int → Int → Int → Option (Int × Int)) : ∀ (n i : Nat) (m : Int), i ≤ l.length → l.length - i < n → 0 ≤ m → m ≤ 1000000000 →
    csstok_Number.c29 k n s a b c ((bytesI l).length : Int) (i : Int) m (bytesI l) K = K s a b c ((l.drop i).foldl addD m)
  | 0, i, m, _, h, _, _ => by omega
  | n + 1, i, m, h1, h2, h3, h4 => by
    have hlen : (bytesI l).length = l.length := by simp [bytesI]
    rw [csstok_Number.c29]
    match hd : l.drop i with
    | [] =>
      have hi : i = l.length := by
        have := congrArg List.length hd
        simp at this; omega
      rw [cond_ndec (by omega)]
      rfl
    | x :: r =>
      obtain ⟨g1, g2, g3⟩ := get_at l i x r hd
      rw [cond_dec (by omega), cond_dec (by omega)]
      simp only [Int.toNat_natCast, get_bytes l i g1, g2, add_eq k x m h3 h4, Option.bind_some]
      rw [wrap_i64 (n := (i : Int) + 1) (by omega) (by omega)]
      have hb := addD_bd x h3
      have ih := whole_loop k a b c d s l hl K n (i + 1) (addD m x) (by omega) (by omega) hb.1 hb.2
      rw [g3] at ih
      rw [show (i : Int) + 1 = ((i + 1 : Nat) : Int) by omega, ih]
      rfl

theorem frac_step (k n : Nat) (s f : List UInt8) (a m : Int) (i : Nat) (K : List UInt8 → Int → Int → Option (Int × Int)) (hi : i < 3) (h0 : 0 ≤ m) (h1 : m ≤ 1000000000) :
    csstok_Number.c49 k (n + 1) s a f (i : Int) m K = csstok_Number.c49 k n s a f ((i + 1 : Nat) : Int) (addD m (f.getD i 48)) K := by
  rw [csstok_Number.c49, cond_dec (by omega)]
  have w : IntKind.wrap .i64 ((i : Int) + 1) = ((i + 1 : Nat) : Int) := wrap_i64 (by omega) (by omega)
  simp only [w, Int.toNat_natCast]
  by_cases hl : i < f.length
  · rw [cond_dec (by omega), cond_dec (by omega)]
    have e : f.getD i 0 = f.getD i 48 := by rw [List.getD_eq_getElem?_getD, List.getD_eq_getElem?_getD, List.getElem?_eq_getElem hl]; rfl
    rw [e, add_eq k _ m h0 h1]
    rfl
  · rw [cond_ndec (by omega)]
    have e : f.getD i 48 = 48 := by rw [List.getD_eq_getElem?_getD, List.getElem?_eq_none (by omega)]; rfl
    have := add_eq k 48 m h0 h1
    rw [show (((48 : UInt8).toNat : Nat) : Int) = 48 from rfl] at this
    rw [e, this]
    rfl

theorem frac_loop (k n : Nat) (s f : List UInt8) (a m : Int) (K : List UInt8 → Int → Int → Option (Int × Int)) (h0 : 0 ≤ m) (h1 : m ≤ 1000000000) :
    csstok_Number.c49 k (n + 4) s a f 0 m K = K s a (addD (addD (addD m (f.getD 0 48)) (f.getD 1 48)) (f.getD 2 48)) := by
  have b1 := addD_bd (f.getD 0 48) h0
  have b2 := addD_bd (f.getD 1 48) b1.1
  have s0 := frac_step k (n + 3) s f a m 0 K (by omega) h0 h1
  have s1 := frac_step k (n + 2) s f a _ 1 K (by omega) b1.1 b1.2
  have s2 := frac_step k (n + 1) s f a _ 2 K (by omega) b2.1 b2.2
  rw [show ((0 : Nat) : Int) = 0 from rfl] at s0
  rw [s0, s1, s2, csstok_Number.c49, cond_ndec (by omega)]

/-- Behind both parts' digits. -/
theorem num_end (k : Nat) (s f : List UInt8) (m : Int) (e : Nat) (hk : 4 ≤ k) (hs : s ≠ []) (h0 : 0 ≤ m) (h1 : m ≤ 1000000000) :
    csstok_Number.c46 k s (e : Int) f m = some (if s.getD 0 0 = 45 then - addD (addD (addD m (f.getD 0 48)) (f.getD 1 48)) (f.getD 2 48) else addD (addD (addD m (f.getD 0 48)) (f.getD 1 48)) (f.getD 2 48), (e : Int)) := by
  obtain ⟨k, rfl⟩ : ∃ n, k = n + 4 := ⟨k - 4, by omega⟩
  unfold csstok_Number.c46
  rw [frac_loop (k + 4) k s f (e : Int) m _ h0 h1]
  have b1 := addD_bd (f.getD 0 48) h0
  have b2 := addD_bd (f.getD 1 48) b1.1
  have b3 := addD_bd (f.getD 2 48) b2.1
  have hl : 0 < s.length := List.length_pos_iff.2 hs
  obtain ⟨r, hr⟩ : ∃ r, r = addD (addD (addD m (f.getD 0 48)) (f.getD 1 48)) (f.getD 2 48) := ⟨_, rfl⟩
  rw [← hr] at b3 ⊢
  rw [cond_dec (by omega)]
  show cond ((((s.getD 0 0).toNat : Nat) : Int) == (45 : Int)) _ _ = _
  rw [show ((((s.getD 0 0).toNat : Nat) : Int) == (45 : Int)) = (s.getD 0 0 == 45) from byte_eq (s.getD 0 0) 45]
  by_cases h45 : s.getD 0 0 = 45
  · rw [if_pos h45, h45]
    show some (IntKind.wrap .i64 (0 - r), (e : Int)) = _
    rw [wrap_i64 (by omega) (by omega)]
    congr 2
    omega
  · rw [if_neg h45]
    have : (s.getD 0 0 == 45) = false := by simpa using h45
    rw [this]
    rfl

theorem Number_c18 (k : Nat) (s : List UInt8) (g : Nat) (hg : g = sgn s) (hs : s.length ≤ 100000) (hk : s.length + 4 < k) (hne : s ≠ []) :
    csstok_Number.c18 k s (g : Int) ((whl s : Nat) : Int) ((bhd s : Nat) : Int) = some (nval s, ((nlen s : Nat) : Int)) := by
  subst hg
  have hw := whl_le s
  have hb := bhd_le s
  have hbl : bhd s ≤ 100000 := by
    by_cases h : bhd s = 0
    · omega
    · have := hb h; omega
  unfold csstok_Number.c18
  have w1 : IntKind.wrap .i64 (((whl s : Nat) : Int) + ((bhd s : Nat) : Int)) = ((whl s + bhd s : Nat) : Int) := wrap_i64 (by omega) (by omega)
  have w2 : IntKind.wrap .i64 (((sgn s : Nat) : Int) + ((whl s : Nat) : Int)) = ((sgn s + whl s : Nat) : Int) := wrap_i64 (by omega) (by omega)
  simp only [w1, w2]
  by_cases h0 : whl s + bhd s = 0
  · rw [h0]
    unfold nval nlen
    rw [if_pos h0, if_pos h0]
    rfl
  · have hz : (((whl s + bhd s : Nat) : Int) == (0 : Int)) = false := by simp; omega
    rw [hz, cond_false, cond_dec (by omega)]
    have hl : (s.take (((sgn s + whl s : Nat) : Int)).toNat).drop (((sgn s : Nat) : Int)).toNat = (s.drop (sgn s)).take (whl s) := by
      simp only [Int.toNat_natCast]
      rw [List.drop_take]
      congr 1
      omega
    rw [hl]
    have hll : ((s.drop (sgn s)).take (whl s)).length ≤ 100000 := by simp; omega
    have hlk : ((s.drop (sgn s)).take (whl s)).length < k := by simp; omega
    have hwl := fun K => whole_loop k ((sgn s : Nat) : Int) ((whl s : Nat) : Int) ((bhd s : Nat) : Int) 0 s ((s.drop (sgn s)).take (whl s)) hll K k 0 0 (by omega) (by omega) (by omega) (by omega)
    have hf := fold_bd ((s.drop (sgn s)).take (whl s)) 0 (by omega) (by omega)
    refine (hwl _).trans ?_
    simp only [List.drop_zero, w2]
    have hv : nval s = if s.getD 0 0 = 45 then - nabs s else nabs s := by unfold nval; rw [if_neg h0]
    by_cases hb0 : bhd s = 0
    · rw [hb0, cond_ndec (by omega), num_end k s [] _ _ (by omega) hne hf.1 hf.2]
      have hfp : fpart s = [] := by unfold fpart; rw [if_pos hb0]
      have hn : nlen s = sgn s + whl s := by unfold nlen; rw [if_neg h0, if_pos hb0]; rfl
      rw [hv, hn]
      unfold nabs
      rw [hfp]
    · have hbb := hb hb0
      have w3 : IntKind.wrap .i64 (((sgn s + whl s : Nat) : Int) + 1) = ((sgn s + whl s + 1 : Nat) : Int) := wrap_i64 (by omega) (by omega)
      have w4 : IntKind.wrap .i64 (((sgn s + whl s + 1 : Nat) : Int) + ((bhd s : Nat) : Int)) = ((sgn s + whl s + 1 + bhd s : Nat) : Int) := wrap_i64 (by omega) (by omega)
      have w5 : IntKind.wrap .i64 ((1 : Int) + ((bhd s : Nat) : Int)) = ((1 + bhd s : Nat) : Int) := wrap_i64 (by omega) (by omega)
      have w6 : IntKind.wrap .i64 (((sgn s + whl s : Nat) : Int) + ((1 + bhd s : Nat) : Int)) = ((sgn s + whl s + (1 + bhd s) : Nat) : Int) := wrap_i64 (by omega) (by omega)
      rw [cond_dec (by omega)]
      simp only [w3, w4, w5, w6]
      rw [cond_dec (by omega)]
      have hfp : (s.take (((sgn s + whl s + 1 + bhd s : Nat) : Int)).toNat).drop (((sgn s + whl s + 1 : Nat) : Int)).toNat = fpart s := by
        unfold fpart
        rw [if_neg hb0]
        simp only [Int.toNat_natCast]
        rw [List.drop_take]
        congr 1
        omega
      rw [hfp, num_end k s (fpart s) _ _ (by omega) hne hf.1 hf.2]
      have hn : nlen s = sgn s + whl s + (1 + bhd s) := by unfold nlen; rw [if_neg h0, if_neg hb0]
      rw [hv, hn]
      rfl

theorem Number_c8 (k : Nat) (s : List UInt8) (g : Nat) (hg : g = sgn s) (hs : s.length ≤ 100000) (hk : s.length + 4 < k) (hne : s ≠ []) :
    csstok_Number.c8 k s (g : Int) = some (nval s, ((nlen s : Nat) : Int)) := by
  have hw := whl_le s
  unfold csstok_Number.c8
  rw [cond_dec (by have := (sgn_le s).1; omega)]
  simp only [Int.toNat_natCast]
  rw [digits_eq k _ (by simp; omega)]
  simp only [Option.bind_some]
  have e1 : cnt isDig (s.drop g) = whl s := by rw [hg]; rfl
  rw [e1]
  have w2 : IntKind.wrap .i64 ((g : Int) + ((whl s : Nat) : Int)) = ((g + whl s : Nat) : Int) := wrap_i64 (by omega) (by omega)
  simp only [w2, Int.toNat_natCast]
  rw [cond_dec (by omega), pre_eq]
  simp only [Option.bind_some]
  have hbd : bhd s = frc (s.drop (g + whl s)) := by rw [hg]; rfl
  cases hd : s.drop (g + whl s) with
  | nil =>
    have hb : bhd s = 0 := by rw [hbd, hd]; rfl
    have := Number_c18 k s g hg hs hk hne
    rw [hb] at this
    exact this
  | cons a r =>
    have hl := congrArg List.length hd
    simp only [List.length_drop, List.length_cons] at hl
    cases h46 : (a == 46) with
    | false =>
      have hb : bhd s = 0 := by rw [hbd, hd]; simp [frc, h46]
      have := Number_c18 k s g hg hs hk hne
      rw [hb] at this
      show cond (a == 46) _ _ = _
      rw [h46]
      exact this
    | true =>
      have hb : bhd s = cnt isDig r := by rw [hbd, hd]; simp [frc, h46]
      show cond (a == 46) _ _ = _
      rw [h46, cond_true, cond_dec (by simp; omega)]
      show ((csstok_digits k r).bind _) = _
      rw [digits_eq k r (by omega)]
      simp only [Option.bind_some]
      rw [← hb]
      exact Number_c18 k s g hg hs hk hne

theorem Number_eq (k : Nat) (s : List UInt8) (hs : s.length ≤ 100000) (hk : s.length + 4 < k) (hne : s ≠ []) :
    csstok_Number k s = some (nval s, ((nlen s : Nat) : Int)) := by
  unfold csstok_Number
  match s, hne with
  | a :: r, hne =>
    have h1 : ((a :: r) == ([] : List UInt8)) = false := rfl
    have d0 : decide (0 ≤ (0 : Int) ∧ (0 : Int) < ((a :: r).length : Int)) = true := by simp
    have g0 : (a :: r).getD (0 : Int).toNat 0 = a := rfl
    have e43 : (((a.toNat : Nat) : Int) == (43 : Int)) = (a == 43) := byte_eq a 43
    have e45 : (((a.toNat : Nat) : Int) == (45 : Int)) = (a == 45) := byte_eq a 45
    simp only [h1, d0, g0, e43, e45, Bool.true_or, cond_true, Bool.not_false]
    have hc : (cond (a == 43) true (a == 45)) = (a == 43 || a == 45) := by cases (a == 43) <;> rfl
    rw [hc]
    cases hs' : (a == 43 || a == 45) with
    | true => exact Number_c8 k (a :: r) 1 (by simp [sgn, hs']) hs hk hne
    | false => exact Number_c8 k (a :: r) 0 (by simp [sgn, hs']) hs hk hne

theorem text_eq (k : Nat) (s : List UInt8) (hs : s.length ≤ 100000) (hk : s.length < k) (h0 : 0 < s.length) :
    csstok_text k s = some (bif (tx (s.getD 0 0) (s.drop 1)).1 then ((5 : Int), s.take (1 + (tx (s.getD 0 0) (s.drop 1)).2.1), (tx (s.getD 0 0) (s.drop 1)).2.2, (0 : Int)) else ((6 : Int), s.take (1 + (tx (s.getD 0 0) (s.drop 1)).2.1), [], (0 : Int))) := by
  unfold csstok_text
  have := text_loop k s (s.getD 0 0) hs h0 rfl k 1 [] (by omega) (by omega) (by simp)
  simpa using this

theorem lowB_eq (c : UInt8) : (bif (cond (decide (((c.toNat : Nat) : Int) ≥ 65)) (decide (((c.toNat : Nat) : Int) ≤ 90)) false) then IntKind.wrap .u8 (((c.toNat : Nat) : Int) + 32) else ((c.toNat : Nat) : Int)) = (((lowB c).toNat : Nat) : Int) := by
  have h : ∀ n : Fin 256, (bif (cond (decide (((n.val : Nat) : Int) ≥ 65)) (decide (((n.val : Nat) : Int) ≤ 90)) false) then IntKind.wrap .u8 (((n.val : Nat) : Int) + 32) else ((n.val : Nat) : Int)) = (((lowB (UInt8.ofNat n.val)).toNat : Nat) : Int) := by decide +kernel
  have := h ⟨c.toNat, c.toNat_lt⟩
  simpa using this

theorem bytesU_I (l : List UInt8) : bytesU (bytesI l) = l := by
  unfold bytesU bytesI
  rw [List.map_map]
  conv => rhs; rw [← List.map_id l]
  congr 1
  funext c
  simp

theorem lower_loop (k : Nat) (l : List UInt8) (hl : l.length ≤ 100000) : ∀ (n i : Nat), i ≤ l.length → l.length - i < n →
    csstok_lower.c7 k n ((bytesI l).length : Int) (i : Int) (bytesI ((l.take i).map lowB ++ l.drop i)) (fun y10 => some (bytesU y10)) = some (l.map lowB)
  | 0, i, _, h => by omega
  | n + 1, i, h1, h2 => by
    have hlen : (bytesI l).length = l.length := by simp [bytesI]
    rw [csstok_lower.c7]
    match hd : l.drop i with
    | [] =>
      have hi : i = l.length := by
        have := congrArg List.length hd
        simp at this; omega
      rw [cond_ndec (by omega)]
      subst hi
      simp [bytesU_I]
    | c :: r =>
      obtain ⟨g1, g2, g3⟩ := get_at l i c r hd
      have hll : (bytesI ((l.take i).map lowB ++ c :: r)).length = l.length := by
        have := congrArg List.length hd
        simp at this
        simp [bytesI]; omega
      have htl : ((l.take i).map lowB).length = i := by simp; omega
      have hg : (bytesI ((l.take i).map lowB ++ c :: r)).getD i 0 = ((c.toNat : Nat) : Int) := by
        rw [get_bytes _ i (by simp; omega), List.getD_eq_getElem?_getD, List.getElem?_append_right (by omega), htl]
        simp
      rw [cond_dec (by omega), cond_dec (by omega)]
      simp only [Int.toNat_natCast, hg]
      rw [wrap_i64 (n := (i : Int) + 1) (by omega) (by omega)]
      have hset : (bytesI ((l.take i).map lowB ++ c :: r)).set i (((lowB c).toNat : Nat) : Int) = bytesI ((l.take (i + 1)).map lowB ++ l.drop (i + 1)) := by
        rw [g3]
        unfold bytesI
        rw [List.map_append, List.set_append_right _ _ (by simp; omega)]
        have : i - (((l.take i).map lowB).map fun b => ((b.toNat : Nat) : Int)).length = 0 := by simp; omega
        rw [this]
        have ht : l.take (i + 1) = l.take i ++ [c] := by
          rw [List.take_add_one, List.getElem?_eq_getElem g1]
          rw [List.getD_eq_getElem?_getD, List.getElem?_eq_getElem g1] at g2
          simp at g2
          simp [g2]
        rw [ht]
        simp
      have hlow := lowB_eq c
      have ih := lower_loop k l hl n (i + 1) (by omega) (by omega)
      rw [show ((i + 1 : Nat) : Int) = (i : Int) + 1 by omega] at ih
      cases hb : (cond (decide (((c.toNat : Nat) : Int) ≥ 65)) (decide (((c.toNat : Nat) : Int) ≤ 90)) false) with
      | true =>
        rw [hb, cond_true] at hlow
        rw [cond_true, cond_dec (by omega), hlow, hset]
        exact ih
      | false =>
        rw [hb, cond_false] at hlow
        rw [cond_false]
        have hc : c = lowB c := UInt8.toNat_inj.1 (by omega)
        have e : bytesI ((l.take i).map lowB ++ c :: r) = bytesI ((l.take (i + 1)).map lowB ++ l.drop (i + 1)) := by
          rw [← hset, ← hlow, ← hg]
          apply List.ext_getElem
          · simp
          · intro j hj hj'
            rw [List.getElem_set]
            split
            · rename_i hij; subst hij
              rw [List.getD_eq_getElem?_getD, List.getElem?_eq_getElem hj]; rfl
            · rfl
        rw [e]
        exact ih

theorem lower_eq (k : Nat) (l : List UInt8) (hl : l.length ≤ 100000) (hk : l.length < k) : csstok_lower k l = some (l.map lowB) := by
  unfold csstok_lower
  have := lower_loop k l hl k 0 (by omega) (by omega)
  simpa using this

theorem pre_hd (k : Nat) (s : List UInt8) (c : UInt8) : strings_HasPrefix k s [c] = some (hd1 s c) := pre_eq k s c

theorem hd1_len {s : List UInt8} {c : UInt8} (h : hd1 s c = true) : 0 < s.length := by
  cases s with
  | nil => simp [hd1] at h
  | cons a r => simp

theorem number_eq (k : Nat) (s : List UInt8) (hs : s.length ≤ 100000) (hk : s.length < k) :
    csstok_number k s (nval s) ((nlen s : Nat) : Int) = some ((numT s).1, s.take (numT s).2.1, (numT s).2.2.1, (numT s).2.2.2) := by
  have hn := nlen_le s
  unfold csstok_number
  rw [cond_dec (by omega), cond_dec (by omega)]
  simp only [Int.toNat_natCast]
  rw [pre_hd]
  simp only [Option.bind_some]
  unfold numT
  cases h37 : hd1 (s.drop (nlen s)) 37 with
  | true =>
    have := hd1_len h37
    simp only [List.length_drop] at this
    have w : IntKind.wrap .i64 (((nlen s : Nat) : Int) + 1) = ((nlen s + 1 : Nat) : Int) := wrap_i64 (by omega) (by omega)
    simp only [cond_true, w]
    rw [cond_dec (by omega)]
    rfl
  | false =>
    simp only [cond_false, begins_eq, Option.bind_some]
    cases hb : bg (s.drop (nlen s)) with
    | true =>
      have h1 := nm_le (s.drop (nlen s))
      have h2 := nm_len (s.drop (nlen s))
      simp only [List.length_drop] at h1
      have w : IntKind.wrap .i64 (((nlen s : Nat) : Int) + (((nm (s.drop (nlen s))).2 : Nat) : Int)) = ((nlen s + (nm (s.drop (nlen s))).2 : Nat) : Int) := wrap_i64 (by omega) (by omega)
      simp only [cond_true]
      rw [name_eq k _ (by simp; omega) (by simp; omega)]
      simp only [Option.bind_some, w]
      rw [cond_dec (by omega), lower_eq k _ (by omega) (by omega)]
      rfl
    | false => rfl

theorem named_eq (k : Nat) (s : List UInt8) (kind : Int) (a : Nat) (ha : a ≤ s.length) (hs : s.length ≤ 100000) (hk : s.length < k) :
    csstok_named k kind s (a : Int) = some (kind, s.take (a + (nm (s.drop a)).2), (nm (s.drop a)).1, 0) := by
  unfold csstok_named
  have h1 := nm_le (s.drop a)
  simp only [List.length_drop] at h1
  rw [cond_dec (by omega)]
  simp only [Int.toNat_natCast]
  rw [name_eq k _ (by simp; omega) (by simp; omega)]
  have w : IntKind.wrap .i64 ((a : Int) + (((nm (s.drop a)).2 : Nat) : Int)) = ((a + (nm (s.drop a)).2 : Nat) : Int) := wrap_i64 (by omega) (by omega)
  simp only [Option.bind_some, w]
  rw [cond_dec (by omega)]
  rfl

theorem nameT_eq (k : Nat) (s : List UInt8) (hs : s.length ≤ 100000) (hk : s.length < k) :
    ((csstok_named k (1 : Int) s (0 : Int)).bind fun r28 =>
      cond (decide (0 ≤ (r28.2.1.length : Int) ∧ (r28.2.1.length : Int) ≤ (s.length : Int))) (
      let v29 : List UInt8 := (s.drop (r28.2.1.length : Int).toNat)
      (strings_HasPrefix k v29 ([40] : List UInt8)).bind fun r30 =>
      cond r30 (
      let v31 : Int := (IntKind.wrap .i64 ((r28.2.1.length : Int) + (1 : Int)))
      cond (decide (0 ≤ v31 ∧ v31 ≤ (s.length : Int))) (
      csstok_first.c52 k (0 : Int) ([]) ([]) (0 : Int) (2 : Int) (s.take v31.toNat) r28.2.2.1 r28.2.2.2) none) (
      csstok_first.c52 k (0 : Int) ([]) ([]) (0 : Int) r28.1 r28.2.1 r28.2.2.1 r28.2.2.2)) none) = some ((nameT s).1, s.take (nameT s).2.1, (nameT s).2.2.1, (nameT s).2.2.2) := by
  have h1 := nm_le s
  have hn := named_eq k s 1 0 (Nat.zero_le _) hs hk
  rw [show ((0 : Nat) : Int) = 0 from rfl] at hn
  rw [hn]
  have hl : (s.take (0 + (nm (s.drop 0)).2)).length = (nm s).2 := by simp; omega
  simp only [Option.bind_some, hl, Int.toNat_natCast]
  rw [cond_dec (by omega), pre_hd]
  simp only [Option.bind_some]
  unfold nameT
  cases h40 : hd1 (s.drop (nm s).2) 40 with
  | true =>
    have := hd1_len h40
    simp only [List.length_drop] at this
    have w : IntKind.wrap .i64 (((nm s).2 : Int) + 1) = (((nm s).2 + 1 : Nat) : Int) := wrap_i64 (by omega) (by omega)
    simp only [cond_true, w]
    rw [cond_dec (by omega)]
    simp [csstok_first.c52]
  | false => simp [csstok_first.c52]

/-- A token, as the cutter gives it. -/
theorem one_eq (k : Nat) (kind : Int) (s : List UInt8) (h : 0 < s.length) : csstok_first_1 k kind s = some (kind, s.take 1, [], 0, s) := by
  unfold csstok_first_1
  rw [cond_dec (by omega)]
  rfl

theorem c76_eq (k : Nat) (a b : Int) (x y : List UInt8) (s : List UInt8) (h : 0 < s.length) : csstok_first.c76 k a x y b s = some (12, s.take 1, [], 0) := by
  unfold csstok_first.c76
  rw [one_eq k 12 s h]
  rfl

theorem cut_eq2 (k : Nat) (s : List UInt8) (c d : UInt8) : strings_CutPrefix k s [c, d] = some (bif hd1 s c && hd1 (s.drop 1) d then (s.drop 2, true) else (s, false)) := by
  unfold strings_CutPrefix stringslite_CutPrefix stringslite_HasPrefix
  match s with
  | [] => rfl
  | [a] => 
    have h1 : decide ((([a] : List UInt8).length : Int) ≥ (([c, d] : List UInt8).length : Int)) = false := by simp
    have h2 : decide (0 ≤ (([c, d] : List UInt8).length : Int) ∧ (([c, d] : List UInt8).length : Int) ≤ (([a] : List UInt8).length : Int)) = false := by simp
    simp only [h1, h2, Bool.not_false, Bool.or_true, cond_true, Option.bind_some, cond_false]
    show some (([a] : List UInt8), false) = _
    have : hd1 ([a].drop 1) d = false := rfl
    rw [this, Bool.and_false, cond_false]
  | a :: b :: r =>
    have h1 : decide (((a :: b :: r).length : Int) ≥ (([c, d] : List UInt8).length : Int)) = true := by simp; omega
    have h2 : decide (0 ≤ (([c, d] : List UInt8).length : Int) ∧ (([c, d] : List UInt8).length : Int) ≤ ((a :: b :: r).length : Int)) = true := by simp; omega
    simp only [h1, h2, Bool.true_or, cond_true, Option.bind_some]
    have e : ((a :: b :: r).take ((([c, d] : List UInt8).length : Int)).toNat == [c, d]) = (a == c && b == d) := by
      show ([a, b] == [c, d]) = _
      cases h : (a == c) <;> cases h' : (b == d) <;> simp_all
    have hR : (hd1 (a :: b :: r) c && hd1 ((a :: b :: r).drop 1) d) = (a == c && b == d) := rfl
    rw [e, hR]
    cases (a == c && b == d) <;> rfl

def numB (k : Nat) (a1 : List UInt8) : Option (Int × (List UInt8) × (List UInt8) × Int) :=
(csstok_Number k a1).bind fun r25 =>
cond (decide (r25.2 > (0 : Int))) (
(csstok_number k a1 r25.1 r25.2).bind fun r26 =>
some (r26.1, r26.2.1, r26.2.2.1, r26.2.2.2)) (
(csstok_begins k a1).bind fun r27 =>
cond r27 (
(csstok_named k (1 : Int) a1 (0 : Int)).bind fun r28 =>
cond (decide (0 ≤ (r28.2.1.length : Int) ∧ (r28.2.1.length : Int) ≤ (a1.length : Int))) (
let v29 : List UInt8 := (a1.drop (r28.2.1.length : Int).toNat)
(strings_HasPrefix k v29 ([40] : List UInt8)).bind fun r30 =>
cond r30 (
let v31 : Int := (IntKind.wrap .i64 ((r28.2.1.length : Int) + (1 : Int)))
cond (decide (0 ≤ v31 ∧ v31 ≤ (a1.length : Int))) (
csstok_first.c52 k (0 : Int) ([]) ([]) (0 : Int) (2 : Int) (a1.take v31.toNat) r28.2.2.1 r28.2.2.2) none) (
csstok_first.c52 k (0 : Int) ([]) ([]) (0 : Int) r28.1 r28.2.1 r28.2.2.1 r28.2.2.2)) none) (
cond (decide (0 ≤ (0 : Int) ∧ (0 : Int) < (a1.length : Int))) (
let v40 : Int := ((a1.getD (0 : Int).toNat 0).toNat : Int)
cond (v40 == (40 : Int)) (
cond (v40 == (40 : Int)) (
(csstok_first_1 k (10 : Int) a1).bind fun r41 =>
some (r41.1, r41.2.1, r41.2.2.1, r41.2.2.2.1)) (
cond (v40 == (41 : Int)) (
cond (v40 == (41 : Int)) (
(csstok_first_1 k (11 : Int) a1).bind fun r42 =>
some (r42.1, r42.2.1, r42.2.2.1, r42.2.2.2.1)) (
cond (v40 == (92 : Int)) (
(csstok_first_1 k (6 : Int) a1).bind fun r43 =>
some (r43.1, r43.2.1, r43.2.2.1, r43.2.2.2.1)) (
csstok_first.c76 k (0 : Int) ([]) ([]) (0 : Int) a1))) (
cond (v40 == (93 : Int)) (
cond (v40 == (93 : Int)) (
(csstok_first_1 k (11 : Int) a1).bind fun r50 =>
some (r50.1, r50.2.1, r50.2.2.1, r50.2.2.2.1)) (
cond (v40 == (92 : Int)) (
(csstok_first_1 k (6 : Int) a1).bind fun r51 =>
some (r51.1, r51.2.1, r51.2.2.1, r51.2.2.2.1)) (
csstok_first.c76 k (0 : Int) ([]) ([]) (0 : Int) a1))) (
cond (v40 == (125 : Int)) (
(csstok_first_1 k (11 : Int) a1).bind fun r52 =>
some (r52.1, r52.2.1, r52.2.2.1, r52.2.2.2.1)) (
cond (v40 == (92 : Int)) (
(csstok_first_1 k (6 : Int) a1).bind fun r53 =>
some (r53.1, r53.2.1, r53.2.2.1, r53.2.2.2.1)) (
csstok_first.c76 k (0 : Int) ([]) ([]) (0 : Int) a1)))))) (
cond (v40 == (91 : Int)) (
cond (v40 == (91 : Int)) (
(csstok_first_1 k (10 : Int) a1).bind fun r54 =>
some (r54.1, r54.2.1, r54.2.2.1, r54.2.2.2.1)) (
cond (v40 == (41 : Int)) (
cond (v40 == (41 : Int)) (
(csstok_first_1 k (11 : Int) a1).bind fun r55 =>
some (r55.1, r55.2.1, r55.2.2.1, r55.2.2.2.1)) (
cond (v40 == (92 : Int)) (
(csstok_first_1 k (6 : Int) a1).bind fun r56 =>
some (r56.1, r56.2.1, r56.2.2.1, r56.2.2.2.1)) (
csstok_first.c76 k (0 : Int) ([]) ([]) (0 : Int) a1))) (
cond (v40 == (93 : Int)) (
cond (v40 == (93 : Int)) (
(csstok_first_1 k (11 : Int) a1).bind fun r57 =>
some (r57.1, r57.2.1, r57.2.2.1, r57.2.2.2.1)) (
cond (v40 == (92 : Int)) (
(csstok_first_1 k (6 : Int) a1).bind fun r58 =>
some (r58.1, r58.2.1, r58.2.2.1, r58.2.2.2.1)) (
csstok_first.c76 k (0 : Int) ([]) ([]) (0 : Int) a1))) (
cond (v40 == (125 : Int)) (
(csstok_first_1 k (11 : Int) a1).bind fun r59 =>
some (r59.1, r59.2.1, r59.2.2.1, r59.2.2.2.1)) (
cond (v40 == (92 : Int)) (
(csstok_first_1 k (6 : Int) a1).bind fun r60 =>
some (r60.1, r60.2.1, r60.2.2.1, r60.2.2.2.1)) (
csstok_first.c76 k (0 : Int) ([]) ([]) (0 : Int) a1)))))) (
cond (v40 == (123 : Int)) (
(csstok_first_1 k (10 : Int) a1).bind fun r61 =>
some (r61.1, r61.2.1, r61.2.2.1, r61.2.2.2.1)) (
cond (v40 == (41 : Int)) (
cond (v40 == (41 : Int)) (
(csstok_first_1 k (11 : Int) a1).bind fun r62 =>
some (r62.1, r62.2.1, r62.2.2.1, r62.2.2.2.1)) (
cond (v40 == (92 : Int)) (
(csstok_first_1 k (6 : Int) a1).bind fun r63 =>
some (r63.1, r63.2.1, r63.2.2.1, r63.2.2.2.1)) (
csstok_first.c76 k (0 : Int) ([]) ([]) (0 : Int) a1))) (
cond (v40 == (93 : Int)) (
cond (v40 == (93 : Int)) (
(csstok_first_1 k (11 : Int) a1).bind fun r64 =>
some (r64.1, r64.2.1, r64.2.2.1, r64.2.2.2.1)) (
cond (v40 == (92 : Int)) (
(csstok_first_1 k (6 : Int) a1).bind fun r65 =>
some (r65.1, r65.2.1, r65.2.2.1, r65.2.2.2.1)) (
csstok_first.c76 k (0 : Int) ([]) ([]) (0 : Int) a1))) (
cond (v40 == (125 : Int)) (
(csstok_first_1 k (11 : Int) a1).bind fun r66 =>
some (r66.1, r66.2.1, r66.2.2.1, r66.2.2.2.1)) (
cond (v40 == (92 : Int)) (
(csstok_first_1 k (6 : Int) a1).bind fun r67 =>
some (r67.1, r67.2.1, r67.2.2.1, r67.2.2.2.1)) (
csstok_first.c76 k (0 : Int) ([]) ([]) (0 : Int) a1)))))))) none))

def tailB (k : Nat) (a1 : List UInt8) (v12 : Int) : Option (Int × (List UInt8) × (List UInt8) × Int) :=
cond ((decide (0 ≤ (1 : Int) ∧ (1 : Int) ≤ (a1.length : Int))) || !(v12 == (64 : Int))) (
(cond (v12 == (64 : Int)) (csstok_begins k (a1.drop (1 : Int).toNat)) (some false)).bind fun r22 =>
let v23 : Bool := (cond (v12 == (64 : Int)) r22 false)
cond v23 (
(csstok_named k (3 : Int) a1 (1 : Int)).bind fun r24 =>
some (r24.1, r24.2.1, r24.2.2.1, r24.2.2.2)) (
numB k a1)) none

def hashB (k : Nat) (a1 : List UInt8) (v12 : Int) : Option (Int × (List UInt8) × (List UInt8) × Int) :=
let v15 : Bool := (decide ((a1.length : Int) > (1 : Int)))
let v16 : Bool := (cond (v12 == (35 : Int)) v15 false)
cond ((decide (0 ≤ (1 : Int) ∧ (1 : Int) < (a1.length : Int))) || !v16) (
let v17 : Int := ((a1.getD (1 : Int).toNat 0).toNat : Int)
(cond v16 (csstok_sign k v17) (some false)).bind fun r18 =>
cond ((decide (0 ≤ (1 : Int) ∧ (1 : Int) ≤ (a1.length : Int))) || !(v16 && (!r18))) (
(cond (v16 && (!r18)) (csstok_escape k (a1.drop (1 : Int).toNat)) (some false)).bind fun r19 =>
let v20 : Bool := (cond v16 (cond r18 true r19) false)
cond v20 (
(csstok_named k (4 : Int) a1 (1 : Int)).bind fun r21 =>
some (r21.1, r21.2.1, r21.2.2.1, r21.2.2.2)) (
tailB k a1 v12)) none) none

theorem numB_eq (k : Nat) (s : List UInt8) (hs : s.length ≤ 100000) (hk : s.length + 4 < k) (hne : s ≠ []) :
    numB k s = some (tokO s (if nlen s > 0 then numT s else bif bg s then nameT s else (oneK (s.getD 0 0), 1, [], 0))) := by
  have hl : 0 < s.length := List.length_pos_iff.2 hne
  unfold numB
  rw [Number_eq k s hs hk hne]
  simp only [Option.bind_some]
  by_cases hn : nlen s > 0
  · rw [if_pos hn, cond_dec (by omega), number_eq k s hs (by omega)]
    rfl
  · rw [if_neg hn, cond_ndec (by omega), begins_eq]
    simp only [Option.bind_some]
    cases hb : bg s with
    | true =>
      simp only [cond_true]
      exact nameT_eq k s hs (by omega)
    | false =>
      simp only [cond_false]
      rw [cond_dec (by omega)]
      obtain ⟨c, hc⟩ : ∃ c, c = s.getD 0 0 := ⟨_, rfl⟩
      have e40 : (((c.toNat : Nat) : Int) == (40 : Int)) = (c == 40) := byte_eq c 40
      have e41 : (((c.toNat : Nat) : Int) == (41 : Int)) = (c == 41) := byte_eq c 41
      have e92 : (((c.toNat : Nat) : Int) == (92 : Int)) = (c == 92) := byte_eq c 92
      have e91 : (((c.toNat : Nat) : Int) == (91 : Int)) = (c == 91) := byte_eq c 91
      have e93 : (((c.toNat : Nat) : Int) == (93 : Int)) = (c == 93) := byte_eq c 93
      have e123 : (((c.toNat : Nat) : Int) == (123 : Int)) = (c == 123) := byte_eq c 123
      have e125 : (((c.toNat : Nat) : Int) == (125 : Int)) = (c == 125) := byte_eq c 125
      have g0 : s.getD (0 : Int).toNat 0 = c := hc.symm
      simp only [g0, ← hc, e40, e41, e92, e91, e93, e123, e125, one_eq k _ s hl, c76_eq k _ _ _ _ s hl, Option.bind_some]
      unfold oneK tokO
      by_cases h1 : c = 40
      · subst h1; rfl
      by_cases h2 : c = 41
      · subst h2; rfl
      by_cases h3 : c = 92
      · subst h3; rfl
      by_cases h4 : c = 91
      · subst h4; rfl
      by_cases h5 : c = 93
      · subst h5; rfl
      by_cases h6 : c = 123
      · subst h6; rfl
      by_cases h7 : c = 125
      · subst h7; rfl
      have n1 : (c == 40) = false := by simpa using h1
      have n2 : (c == 41) = false := by simpa using h2
      have n3 : (c == 92) = false := by simpa using h3
      have n4 : (c == 91) = false := by simpa using h4
      have n5 : (c == 93) = false := by simpa using h5
      have n6 : (c == 123) = false := by simpa using h6
      have n7 : (c == 125) = false := by simpa using h7
      rw [n1, n2, n3, n4, n5, n6, n7]
      rfl

theorem tailB_eq (k : Nat) (a : UInt8) (r : List UInt8) (hs : (a :: r).length ≤ 100000) (hk : (a :: r).length + 4 < k) :
    tailB k (a :: r) ((a.toNat : Nat) : Int) = some (tokO (a :: r) (bif hd1 (a :: r) 64 && bg ((a :: r).drop 1) then (3, 1 + (nm ((a :: r).drop 1)).2, (nm ((a :: r).drop 1)).1, 0)
      else if nlen (a :: r) > 0 then numT (a :: r) else bif bg (a :: r) then nameT (a :: r) else (oneK ((a :: r).getD 0 0), 1, [], 0))) := by
  unfold tailB
  have e64 : (((a.toNat : Nat) : Int) == (64 : Int)) = (a == 64) := byte_eq a 64
  have d2 : decide (0 ≤ (1 : Int) ∧ (1 : Int) ≤ ((a :: r).length : Int)) = true := by simp; omega
  have hh : hd1 (a :: r) 64 = (a == 64) := rfl
  simp only [e64, d2, Bool.true_or, cond_true, hh, numB_eq k (a :: r) hs hk (by simp)]
  have hn := named_eq k (a :: r) 3 1 (by simp) hs (by omega)
  rw [show ((1 : Nat) : Int) = 1 from rfl] at hn
  cases h : (a == 64) with
  | false => rfl
  | true =>
    simp only [cond_true, begins_eq, Option.bind_some, Bool.true_and]
    show cond (bg ((a :: r).drop 1)) _ _ = _
    cases hb : bg ((a :: r).drop 1) with
    | true =>
      simp only [cond_true, hn, Option.bind_some]
      rfl
    | false => rfl

theorem hashB_eq (k : Nat) (a : UInt8) (r : List UInt8) (hs : (a :: r).length ≤ 100000) (hk : (a :: r).length + 4 < k) :
    hashB k (a :: r) ((a.toNat : Nat) : Int) = some (tokO (a :: r) (bif hd1 (a :: r) 35 && decide (1 < (a :: r).length) && (isSg ((a :: r).getD 1 0) || esc ((a :: r).drop 1)) then (4, 1 + (nm ((a :: r).drop 1)).2, (nm ((a :: r).drop 1)).1, 0)
      else bif hd1 (a :: r) 64 && bg ((a :: r).drop 1) then (3, 1 + (nm ((a :: r).drop 1)).2, (nm ((a :: r).drop 1)).1, 0)
      else if nlen (a :: r) > 0 then numT (a :: r) else bif bg (a :: r) then nameT (a :: r) else (oneK ((a :: r).getD 0 0), 1, [], 0))) := by
  unfold hashB
  have e35 : (((a.toNat : Nat) : Int) == (35 : Int)) = (a == 35) := byte_eq a 35
  have hh : hd1 (a :: r) 35 = (a == 35) := rfl
  have hn := named_eq k (a :: r) 4 1 (by simp) hs (by omega)
  rw [show ((1 : Nat) : Int) = 1 from rfl] at hn
  simp only [e35, hh, tailB_eq k a r hs hk, hn]
  match r with
  | [] =>
    have hd : decide ((([a] : List UInt8).length : Int) > 1) = false := by simp
    have hd' : decide (1 < ([a] : List UInt8).length) = false := by simp
    have hc : (cond (a == 35) false false) = false := by cases (a == 35) <;> rfl
    simp only [hd, hd', hc, Bool.not_false, Bool.or_true, cond_true, cond_false, Bool.false_and, Option.bind_some, Bool.and_false]
  | b :: r =>
    have hd : decide (((a :: b :: r).length : Int) > 1) = true := by simp; omega
    have hd' : decide (1 < (a :: b :: r).length) = true := by simp
    have d1 : decide (0 ≤ (1 : Int) ∧ (1 : Int) < ((a :: b :: r).length : Int)) = true := by simp; omega
    have d2 : decide (0 ≤ (1 : Int) ∧ (1 : Int) ≤ ((a :: b :: r).length : Int)) = true := by simp; omega
    have g1 : (a :: b :: r).getD (1 : Int).toNat 0 = b := rfl
    have g1' : (a :: b :: r).getD 1 0 = b := rfl
    have g2 : (a :: b :: r).drop (1 : Int).toNat = b :: r := rfl
    have g2' : (a :: b :: r).drop 1 = b :: r := rfl
    simp only [hd, hd', d1, d2, g1, g1', g2, g2', Bool.true_or, cond_true, sign_eq, escape_eq, Bool.and_true]
    cases (a == 35) with
    | false => rfl
    | true =>
      cases hsg : isSg b with
      | true => rfl
      | false =>
        cases he : esc (b :: r) with
        | true => rfl
        | false => rfl

theorem first_eq (k : Nat) (s : List UInt8) (hs : s.length ≤ 100000) (hk : s.length + 4 < k) (hne : s ≠ []) : csstok_first k s = some (tokO s (tok1 s)) := by
  have hl : 0 < s.length := List.length_pos_iff.2 hne
  unfold csstok_first
  rw [trim_bl]
  have hc1 := cnt_drop isBlank s
  have hc2 := cnt_le isBlank s
  have w : IntKind.wrap .i64 ((s.length : Int) - ((s.dropWhile isBlank).length : Int)) = ((cnt isBlank s : Nat) : Int) := by
    rw [wrap_i64 (by omega) (by omega)]; omega
  simp only [Option.bind_some, w]
  unfold tok1
  by_cases hb : cnt isBlank s > 0
  · rw [if_pos hb, cond_dec (by omega), cond_dec (by omega)]
    rfl
  · rw [if_neg hb, cond_ndec (by omega), cut_eq2]
    simp only [Option.bind_some]
    cases hn : (hd1 s 47 && hd1 (s.drop 1) 42) with
    | true =>
      simp only [cond_true]
      have hlen : 2 ≤ s.length := by
        rw [Bool.and_eq_true] at hn
        have := hd1_len hn.2
        simp at this; omega
      have hi : strings_Index k (s.drop 2) [42, 47] = some (Go.Lib.index (s.drop 2) [42, 47]) := by
        unfold strings_Index findS
        have : (s.drop 2).length.blt findMax = true := by simp [Nat.blt_eq, findMax]; omega
        rw [this]; rfl
      rw [hi]
      simp only [Option.bind_some]
      by_cases hx : Go.Lib.index (s.drop 2) [42, 47] ≥ 0
      · have hle := idx_le _ hx
        simp only [List.length_drop] at hle
        have w2 : IntKind.wrap .i64 (Go.Lib.index (s.drop 2) [42, 47] + 4) = Go.Lib.index (s.drop 2) [42, 47] + 4 := wrap_i64 (by omega) (by omega)
        rw [cond_dec hx]
        simp only [w2]
        rw [cond_dec (by omega)]
        have e : (Go.Lib.index (s.drop 2) [42, 47] + 4).toNat = noteN s := by
          unfold noteN; rw [if_pos hx]; omega
        rw [e]
        rfl
      · rw [cond_ndec hx]
        have e : noteN s = s.length := by unfold noteN; rw [if_neg hx]
        unfold csstok_first.c20 tokO
        simp [e]
    | false =>
      simp only [cond_false]
      rw [cond_dec (by omega)]
      match s, hne with
      | a :: r, hne =>
        have g0 : (a :: r).getD (0 : Int).toNat 0 = a := rfl
        have g0' : (a :: r).getD 0 0 = a := rfl
        have e39 : (((a.toNat : Nat) : Int) == (39 : Int)) = (a == 39) := byte_eq a 39
        have e34 : (((a.toNat : Nat) : Int) == (34 : Int)) = (a == 34) := byte_eq a 34
        simp only [g0, e39, e34]
        have hq : (cond (a == 39) true (a == 34)) = (hd1 (a :: r) 39 || hd1 (a :: r) 34) := by
          show _ = ((a == 39) || (a == 34))
          cases (a == 39) <;> rfl
        rw [hq]
        cases hqq : (hd1 (a :: r) 39 || hd1 (a :: r) 34) with
        | true =>
          simp only [cond_true]
          rw [text_eq k _ hs (by omega) hl]
          simp only [Option.bind_some, g0']
          cases (tx a ((a :: r).drop 1)).1 <;> rfl
        | false =>
          simp only [cond_false]
          exact hashB_eq k a r hs hk

end Go.Ev.Md
