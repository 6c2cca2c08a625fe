/- EvVpT, EvVpU, EvVpC, EvVpA, EvVpB, EvVpL in one: no condition beyond those that each theorem names. -/
import Derived.Test.YtahodlnphioepaaDoorEvVp
import Derived.Test.YtahodlnphioepaaDoorEvTkS
import Derived.Test.YtahodlnphioepaaDoorEvTkF
import Derived.Test.YtahodlnphioepaaDoorEvTkR
import GoSem.ClaimJoined
-- from EvVpT
set_option linter.unusedVariables false
set_option linter.unusedSimpArgs false
set_option linter.constructorNameAsVariable false
set_option maxRecDepth 100000
namespace Go.Ev.Vp
open Go.Ev Go.Ev.Tok

theorem starts_eq (k : Nat) (c : UInt8) : csstok_starts k (c.toNat : Int) = some (isSt c) := by
  have h : ∀ n : Fin 256, csstok_starts 0 ((n.val : Nat) : Int) = some (isSt (UInt8.ofNat n.val)) := by decide +kernel
  have := h ⟨c.toNat, c.toNat_lt⟩
  show csstok_starts 0 _ = _
  simpa using this

theorem digit_eq (k : Nat) (c : UInt8) : csstok_digit k (c.toNat : Int) = some (isDig c) := by
  have h : ∀ n : Fin 256, csstok_digit 0 ((n.val : Nat) : Int) = some (isDig (UInt8.ofNat n.val)) := by decide +kernel
  have := h ⟨c.toNat, c.toNat_lt⟩
  show csstok_digit 0 _ = _
  simpa using this

theorem byte_eq (c d : UInt8) : (((c.toNat : Nat) : Int) == ((d.toNat : Nat) : Int)) = (c == d) := by
  by_cases h : c = d
  · subst h; simp
  · have h2 : c.toNat ≠ d.toNat := fun e => h (UInt8.toNat_inj.1 e)
    have e1 : (((c.toNat : Nat) : Int) == ((d.toNat : Nat) : Int)) = false := by simp; omega
    have e2 : (c == d) = false := by simpa using h
    rw [e1, e2]

theorem sign_eq (k : Nat) (c : UInt8) : csstok_sign k (c.toNat : Int) = some (isSg c) := by
  unfold csstok_sign isSg
  simp only [starts_eq, digit_eq, Option.bind_some]
  have e : (((c.toNat : Nat) : Int) == (45 : Int)) = (c == 45) := byte_eq c 45
  rw [e]
  cases isSt c <;> simp

theorem get_at (s : List UInt8) (i : Nat) (c : UInt8) (r : List UInt8) (h : s.drop i = c :: r) : i < s.length ∧ s.getD i 0 = c ∧ s.drop (i + 1) = r := by
  have hi : i < s.length := by
    rcases Nat.lt_or_ge i s.length with h1 | h1
    · exact h1
    · rw [List.drop_eq_nil_of_le h1] at h; cases h
  rw [List.drop_eq_getElem_cons hi] at h
  simp only [List.cons.injEq] at h
  exact ⟨hi, by rw [List.getD_eq_getElem?_getD, List.getElem?_eq_getElem hi]; simpa using h.1, h.2⟩

theorem escape_eq (k : Nat) (s : List UInt8) : csstok_escape k s = some (esc s) := by
  unfold csstok_escape
  match s with
  | [] => rfl
  | [a] => simp [esc]
  | a :: b :: r =>
    have e1 : (((a.toNat : Nat) : Int) == (92 : Int)) = (a == 92) := byte_eq a 92
    have e2 : (((b.toNat : Nat) : Int) != (10 : Int)) = (b != 10) := by
      show (!(((b.toNat : Nat) : Int) == (10 : Int))) = !(b == 10)
      rw [show (((b.toNat : Nat) : Int) == (10 : Int)) = (b == 10) from byte_eq b 10]
    have h1 : decide (((a :: b :: r).length : Int) > 1) = true := by simp; omega
    have h2 : decide (0 ≤ (0 : Int) ∧ (0 : Int) < ((a :: b :: r).length : Int)) = true := by simp; omega
    have h3 : decide (0 ≤ (1 : Int) ∧ (1 : Int) < ((a :: b :: r).length : Int)) = true := by simp; omega
    simp only [h1, h2, h3, Bool.true_or, cond_true]
    show some (cond (((a.toNat : Nat) : Int) == (92 : Int)) (((b.toNat : Nat) : Int) != (10 : Int)) false) = _
    rw [e1, e2]
    simp only [esc]
    cases (a == 92) <;> rfl

theorem wByte_at (s : List UInt8) (c : UInt8) (h : s.length < 1000000) : wByte s ((c.toNat : Nat) : Int) = some (s ++ [c]) := wByte_ok s c (by unfold blMax; omega)

theorem name_loop (k : Nat) (s : List UInt8) (hs : s.length ≤ 100000) : ∀ (n i : Nat) (acc : List UInt8), i ≤ s.length → s.length - i < n → acc.length ≤ i →
    csstok_name.c7 k n s (i : Int) acc (fun (y17 : Int) (y18 : List UInt8) => (f__strings_Builder__String k y18).bind fun r19 => some (r19.1, y17)) = some (acc ++ (nm (s.drop i)).1, ((i + (nm (s.drop i)).2 : Nat) : Int))
  | 0, i, acc, _, h, _ => by omega
  | n + 1, i, acc, h1, h2, h3 => by
    rw [csstok_name.c7]
    match hd : s.drop i with
    | [] =>
      have : ¬ (i : Int) < (s.length : Int) := by
        intro hlt
        have : s.drop i ≠ [] := by simp; omega
        exact this hd
      simp only []
      rw [cond_ndec this]
      simp [f__strings_Builder__String, nm]
    | c :: r =>
      obtain ⟨g1, g2, g3⟩ := get_at s i c r hd
      have l1 : (i : Int) < (s.length : Int) := by omega
      have l2 : 0 ≤ (i : Int) ∧ (i : Int) ≤ (s.length : Int) := by omega
      have l3 : 0 ≤ (i : Int) ∧ (i : Int) < (s.length : Int) := by omega
      have w1 : IntKind.wrap .i64 ((i : Int) + 1) = ((i + 1 : Nat) : Int) := wrap_i64 (by omega) (by omega)
      have w2 : IntKind.wrap .i64 ((i : Int) + 2) = ((i + 2 : Nat) : Int) := wrap_i64 (by omega) (by omega)
      simp only [w1, w2, Int.toNat_natCast, g2]
      rw [cond_dec l1, cond_dec l2, escape_eq]
      simp only [Option.bind_some]
      match r, g3 with
      | [], g3 =>
        simp only [esc, cond_false, sign_eq, Option.bind_some, f__strings_Builder__WriteByte, wByte_at acc c (by omega)]
        rw [cond_dec l3]
        cases hsg : isSg c with
        | true =>
          simp only [cond_true]
          rw [cond_dec l3, name_loop k s hs n (i + 1) (acc ++ [c]) (by omega) (by omega) (by simp; omega), g3]
          simp [nm, hsg]
        | false => simp [nm, hsg, f__strings_Builder__String]
      | d :: r', g3 =>
        obtain ⟨g4, g5, g6⟩ := get_at s (i + 1) d r' g3
        simp only [esc]
        cases he : (c == 92 && d != 10) with
        | true =>
          simp only [cond_true, g5, f__strings_Builder__WriteByte, wByte_at acc d (by omega), Option.bind_some]
          rw [cond_dec (by omega), name_loop k s hs n (i + 2) (acc ++ [d]) (by omega) (by omega) (by simp; omega), g6]
          simp [nm, he]
          omega
        | false =>
          simp only [cond_false, sign_eq, Option.bind_some, f__strings_Builder__WriteByte, wByte_at acc c (by omega)]
          rw [cond_dec l3]
          cases hsg : isSg c with
          | true =>
            simp only [cond_true]
            rw [cond_dec l3, name_loop k s hs n (i + 1) (acc ++ [c]) (by omega) (by omega) (by simp; omega), g3]
            simp [nm, he, hsg]
            omega
          | false => simp [nm, he, hsg, f__strings_Builder__String]

theorem name_eq (k : Nat) (s : List UInt8) (hs : s.length ≤ 100000) (hk : s.length < k) : csstok_name k s = some ((nm s).1, ((nm s).2 : Int)) := by
  unfold csstok_name
  have := name_loop k s hs k 0 [] (by omega) (by omega) (by simp)
  simpa using this

theorem bne_eq (c d : UInt8) : (((c.toNat : Nat) : Int) != ((d.toNat : Nat) : Int)) = (c != d) := by
  show (!(((c.toNat : Nat) : Int) == ((d.toNat : Nat) : Int))) = !(c == d)
  rw [byte_eq]

theorem begins_eq (k : Nat) (s : List UInt8) : csstok_begins k s = some (bg s) := by
  unfold csstok_begins
  match s with
  | [] => rfl
  | [a] =>
    have h1 : (([a] : List UInt8) == []) = false := rfl
    have e1 : (((a.toNat : Nat) : Int) == (45 : Int)) = (a == 45) := byte_eq a 45
    have e2 : decide ((([a] : List UInt8).length : Int) > 1) = false := by simp
    have e3 : (cond (a == 45) false false) = false := by cases (a == 45) <;> rfl
    have d0 : decide (0 ≤ (0 : Int) ∧ (0 : Int) < (([a] : List UInt8).length : Int)) = true := by simp
    have g0 : ([a] : List UInt8).getD (0 : Int).toNat 0 = a := rfl
    simp only [h1, cond_false, d0, g0, e1, e2, e3, cond_true, starts_eq, escape_eq, Option.bind_some, esc, bg]
    cases isSt a <;> rfl
  | a :: b :: r =>
    have h1 : ((a :: b :: r) == ([] : List UInt8)) = false := rfl
    have e1 : (((a.toNat : Nat) : Int) == (45 : Int)) = (a == 45) := byte_eq a 45
    have e4 : (((b.toNat : Nat) : Int) == (45 : Int)) = (b == 45) := byte_eq b 45
    have d0 : decide (0 ≤ (0 : Int) ∧ (0 : Int) < ((a :: b :: r).length : Int)) = true := by simp; omega
    have d1 : decide (0 ≤ (1 : Int) ∧ (1 : Int) < ((a :: b :: r).length : Int)) = true := by simp; omega
    have d2 : decide (0 ≤ (1 : Int) ∧ (1 : Int) ≤ ((a :: b :: r).length : Int)) = true := by simp; omega
    have d3 : decide (((a :: b :: r).length : Int) > 1) = true := by simp; omega
    have g0 : (a :: b :: r).getD (0 : Int).toNat 0 = a := rfl
    have g1 : (a :: b :: r).getD (1 : Int).toNat 0 = b := rfl
    have g2 : (a :: b :: r).drop (1 : Int).toNat = b :: r := rfl
    simp only [h1, cond_false, d0, d1, d2, d3, g0, g1, g2, e1, e4, cond_true, Bool.true_or, starts_eq, escape_eq, Option.bind_some, bg]
    cases (a == 45) <;> cases (b == 45) <;> cases (isSt a) <;> cases (isSt b) <;> simp

theorem str_ret (k : Nat) (s : List UInt8) : f__strings_Builder__String k s = some (s, s) := rfl

theorem text_loop (k : Nat) (s : List UInt8) (q : UInt8) (hs : s.length ≤ 100000) (h0 : 0 < s.length) (hq : s.getD 0 0 = q) : ∀ (n i : Nat) (acc : List UInt8), i ≤ s.length → s.length - i < n → acc.length ≤ i →
    csstok_text.c7 k n s (i : Int) 0 [] [] 0 acc (fun (y23 : List UInt8) (y24 : Int) (y25 : List UInt8) (y26 : List UInt8) (y27 : Int) => some ((6 : Int), y23, [], (0 : Int))) =
      some (bif (tx q (s.drop i)).1 then ((5 : Int), s.take (i + (tx q (s.drop i)).2.1), acc ++ (tx q (s.drop i)).2.2, (0 : Int)) else ((6 : Int), s.take (i + (tx q (s.drop i)).2.1), [], (0 : Int)))
  | 0, i, acc, _, h, _ => by omega
  | n + 1, i, acc, h1, h2, h3 => by
    rw [csstok_text.c7]
    match hd : s.drop i with
    | [] =>
      have hi : i = s.length := by
        have := congrArg List.length hd
        simp at this; omega
      simp only []
      rw [cond_ndec (show ¬ (i : Int) < (s.length : Int) by omega)]
      simp [tx, hi]
    | c :: r =>
      obtain ⟨g1, g2, g3⟩ := get_at s i c r hd
      have l1 : (i : Int) < (s.length : Int) := by omega
      have l3 : 0 ≤ (i : Int) ∧ (i : Int) < (s.length : Int) := by omega
      have l4 : 0 ≤ (0 : Int) ∧ (0 : Int) < (s.length : Int) := by omega
      have w1 : IntKind.wrap .i64 ((i : Int) + 1) = ((i + 1 : Nat) : Int) := wrap_i64 (by omega) (by omega)
      have w2 : IntKind.wrap .i64 (((i + 1 : Nat) : Int) + 1) = ((i + 2 : Nat) : Int) := wrap_i64 (by omega) (by omega)
      have q0 : s.getD (0 : Int).toNat 0 = q := hq
      simp only [w1, w2, Int.toNat_natCast, g2, q0, byte_eq c q]
      rw [cond_dec l1, cond_dec l3, cond_dec l4]
      have e10 : (((c.toNat : Nat) : Int) == (10 : Int)) = (c == 10) := byte_eq c 10
      have e92 : (((c.toNat : Nat) : Int) == (92 : Int)) = (c == 92) := byte_eq c 92
      rw [e10, e92]
      have lA : 0 ≤ ((i + 1 : Nat) : Int) ∧ ((i + 1 : Nat) : Int) ≤ (s.length : Int) := by omega
      have lB : 0 ≤ (i : Int) ∧ (i : Int) ≤ (s.length : Int) := by omega
      match r, g3 with
      | [], g3 =>
        have hl : i + 1 = s.length := by
          have := congrArg List.length g3
          simp at this; omega
        have e15 : decide (((i + 1 : Nat) : Int) < (s.length : Int)) = false := by simp; omega
        have e16 : (cond (c == 92) false false) = false := by cases (c == 92) <;> rfl
        cases hcq : (c == q) with
        | true =>
          simp only [cond_true, str_ret, Option.bind_some, decide_eq_true lA]
          simp [tx, hcq]
        | false =>
          cases h10 : (c == 10) with
          | true =>
            simp only [cond_true, cond_false, decide_eq_true lB]
            simp [tx, hcq, h10]
          | false =>
            simp only [e15, e16, cond_false, f__strings_Builder__WriteByte, wByte_at acc c (by omega), Option.bind_some]
            rw [text_loop k s q hs h0 hq n (i + 1) (acc ++ [c]) (by omega) (by omega) (by simp; omega), g3]
            simp [tx, hcq, h10]
      | d :: r', g3 =>
        obtain ⟨g4, g5, g6⟩ := get_at s (i + 1) d r' g3
        have e15 : decide (((i + 1 : Nat) : Int) < (s.length : Int)) = true := by simp; omega
        have lC : 0 ≤ ((i + 1 : Nat) : Int) ∧ ((i + 1 : Nat) : Int) < (s.length : Int) := by omega
        cases hcq : (c == q) with
        | true =>
          simp only [cond_true, str_ret, Option.bind_some, decide_eq_true lA]
          simp [tx, hcq]
        | false =>
          cases h10 : (c == 10) with
          | true =>
            simp only [cond_true, cond_false, decide_eq_true lB]
            simp [tx, hcq, h10]
          | false =>
            cases h92 : (c == 92) with
            | true =>
              simp only [e15, cond_true, cond_false, decide_eq_true lC, g5, f__strings_Builder__WriteByte, wByte_at acc d (by omega), Option.bind_some]
              rw [text_loop k s q hs h0 hq n (i + 2) (acc ++ [d]) (by omega) (by omega) (by simp; omega), g6]
              simp only [tx, hcq, h10, h92, cond_true, cond_false, List.append_assoc, List.singleton_append]
              rw [show i + 2 + (tx q r').2.1 = i + ((tx q r').2.1 + 2) by omega]
            | false =>
              simp only [e15, cond_false, f__strings_Builder__WriteByte, wByte_at acc c (by omega), Option.bind_some]
              rw [text_loop k s q hs h0 hq n (i + 1) (acc ++ [c]) (by omega) (by omega) (by simp; omega), g3]
              simp only [tx, hcq, h10, h92, cond_true, cond_false, List.append_assoc, List.singleton_append]
              rw [show i + 1 + (tx q (d :: r')).2.1 = i + ((tx q (d :: r')).2.1 + 1) by omega]

theorem dig_set (c : UInt8) : ([48, 49, 50, 51, 52, 53, 54, 55, 56, 57] : List UInt8).contains c = isDig c := by
  have h : ∀ n : Fin 256, ([48, 49, 50, 51, 52, 53, 54, 55, 56, 57] : List UInt8).contains (UInt8.ofNat n.val) = isDig (UInt8.ofNat n.val) := by decide +kernel
  have := h ⟨c.toNat, c.toNat_lt⟩
  simpa using this

theorem bl_set (c : UInt8) : ([32, 9, 10, 12, 13] : List UInt8).contains c = isBlank c := by
  have h : ∀ n : Fin 256, ([32, 9, 10, 12, 13] : List UInt8).contains (UInt8.ofNat n.val) = isBlank (UInt8.ofNat n.val) := by decide +kernel
  have := h ⟨c.toNat, c.toNat_lt⟩
  simpa using this

theorem trim_dig (k : Nat) (s : List UInt8) : strings_TrimLeft k s ([48, 49, 50, 51, 52, 53, 54, 55, 56, 57] : List UInt8) = some (s.dropWhile isDig) := by
  unfold strings_TrimLeft trimL
  have h : (asciiB [48, 49, 50, 51, 52, 53, 54, 55, 56, 57] && (([48, 49, 50, 51, 52, 53, 54, 55, 56, 57] : List UInt8).length).blt findMax) = true := by decide
  rw [h, cond_true]
  congr 2
  funext c
  exact dig_set c

theorem trim_bl (k : Nat) (s : List UInt8) : strings_TrimLeft k s ([32, 9, 10, 12, 13] : List UInt8) = some (s.dropWhile isBlank) := by
  unfold strings_TrimLeft trimL
  have h : (asciiB [32, 9, 10, 12, 13] && (([32, 9, 10, 12, 13] : List UInt8).length).blt findMax) = true := by decide
  rw [h, cond_true]
  congr 2
  funext c
  exact bl_set c

theorem digits_eq (k : Nat) (s : List UInt8) (hs : s.length ≤ 100000) : csstok_digits k s = some ((cnt isDig s : Nat) : Int) := by
  unfold csstok_digits
  rw [trim_dig]
  simp only [Option.bind_some]
  have h1 := cnt_drop isDig s
  have h2 := cnt_le isDig s
  rw [wrap_i64 (by omega) (by omega)]
  congr 1
  omega

theorem pre_eq (k : Nat) (s : List UInt8) (c : UInt8) : strings_HasPrefix k s [c] = some (match s with | a :: _ => a == c | [] => false) := by
  unfold strings_HasPrefix stringslite_HasPrefix
  match s with
  | [] => rfl
  | a :: r =>
    have h1 : decide (((a :: r).length : Int) ≥ (([c] : List UInt8).length : Int)) = true := by simp; omega
    have h2 : decide (0 ≤ (([c] : List UInt8).length : Int) ∧ (([c] : List UInt8).length : Int) ≤ ((a :: r).length : Int)) = true := by simp; omega
    simp only [h1, h2, Bool.true_or, cond_true, Option.bind_some]
    show some ([a] == [c]) = _
    cases h : a == c
    · have : ([a] == [c]) = false := by simpa using h
      rw [this]
    · have : ([a] == [c]) = true := by simpa using h
      rw [this]

theorem add_eq (k : Nat) (c : UInt8) (n : Int) (h0 : 0 ≤ n) (h1 : n ≤ 1000000000) : csstok_Number_1 k ((c.toNat : Nat) : Int) n = some (addD n c) := by
  unfold csstok_Number_1
  simp only []
  rw [wrap_i64 (n := 10 * n) (by omega) (by omega), wrap_u8, wrap_i64 (n := (((c.toNat : Nat) : Int) - 48) % 256) (by omega) (by omega), wrap_i64 (n := 10 * n + (((c.toNat : Nat) : Int) - 48) % 256) (by omega) (by omega)]
  rfl

theorem get_bytes (l : List UInt8) (i : Nat) (hi : i < l.length) : (bytesI l).getD i 0 = ((l.getD i 0).toNat : Int) := by
  unfold bytesI
  simp [List.getD_eq_getElem?_getD, List.getElem?_eq_getElem hi]

theorem whole_loop (k : Nat) (a b c d : Int) (s l : List UInt8) (hl : l.length ≤ 100000) (K : List UInt8 → Int → Int → Int → Int → Option (Int × Int)) : ∀ (n i : Nat) (m : Int), i ≤ l.length → l.length - i < n → 0 ≤ m → m ≤ 1000000000 →
    csstok_Number.c29 k n s a b c ((bytesI l).length : Int) (i : Int) m (bytesI l) K = K s a b c ((l.drop i).foldl addD m)
  | 0, i, m, _, h, _, _ => by omega
  | n + 1, i, m, h1, h2, h3, h4 => by
    have hlen : (bytesI l).length = l.length := by simp [bytesI]
    rw [csstok_Number.c29]
    match hd : l.drop i with
    | [] =>
      have hi : i = l.length := by
        have := congrArg List.length hd
        simp at this; omega
      rw [cond_ndec (by omega)]
      rfl
    | x :: r =>
      obtain ⟨g1, g2, g3⟩ := get_at l i x r hd
      rw [cond_dec (by omega), cond_dec (by omega)]
      simp only [Int.toNat_natCast, get_bytes l i g1, g2, add_eq k x m h3 h4, Option.bind_some]
      rw [wrap_i64 (n := (i : Int) + 1) (by omega) (by omega)]
      have hb := addD_bd x h3
      have ih := whole_loop k a b c d s l hl K n (i + 1) (addD m x) (by omega) (by omega) hb.1 hb.2
      rw [g3] at ih
      rw [show (i : Int) + 1 = ((i + 1 : Nat) : Int) by omega, ih]
      rfl

theorem frac_step (k n : Nat) (s f : List UInt8) (a m : Int) (i : Nat) (K : List UInt8 → Int → Int → Option (Int × Int)) (hi : i < 3) (h0 : 0 ≤ m) (h1 : m ≤ 1000000000) :
    csstok_Number.c49 k (n + 1) s a f (i : Int) m K = csstok_Number.c49 k n s a f ((i + 1 : Nat) : Int) (addD m (f.getD i 48)) K := by
  rw [csstok_Number.c49, cond_dec (by omega)]
  have w : IntKind.wrap .i64 ((i : Int) + 1) = ((i + 1 : Nat) : Int) := wrap_i64 (by omega) (by omega)
  simp only [w, Int.toNat_natCast]
  by_cases hl : i < f.length
  · rw [cond_dec (by omega), cond_dec (by omega)]
    have e : f.getD i 0 = f.getD i 48 := by rw [List.getD_eq_getElem?_getD, List.getD_eq_getElem?_getD, List.getElem?_eq_getElem hl]; rfl
    rw [e, add_eq k _ m h0 h1]
    rfl
  · rw [cond_ndec (by omega)]
    have e : f.getD i 48 = 48 := by rw [List.getD_eq_getElem?_getD, List.getElem?_eq_none (by omega)]; rfl
    have := add_eq k 48 m h0 h1
    rw [show (((48 : UInt8).toNat : Nat) : Int) = 48 from rfl] at this
    rw [e, this]
    rfl

theorem frac_loop (k n : Nat) (s f : List UInt8) (a m : Int) (K : List UInt8 → Int → Int → Option (Int × Int)) (h0 : 0 ≤ m) (h1 : m ≤ 1000000000) :
    csstok_Number.c49 k (n + 4) s a f 0 m K = K s a (addD (addD (addD m (f.getD 0 48)) (f.getD 1 48)) (f.getD 2 48)) := by
  have b1 := addD_bd (f.getD 0 48) h0
  have b2 := addD_bd (f.getD 1 48) b1.1
  have s0 := frac_step k (n + 3) s f a m 0 K (by omega) h0 h1
  have s1 := frac_step k (n + 2) s f a _ 1 K (by omega) b1.1 b1.2
  have s2 := frac_step k (n + 1) s f a _ 2 K (by omega) b2.1 b2.2
  rw [show ((0 : Nat) : Int) = 0 from rfl] at s0
  rw [s0, s1, s2, csstok_Number.c49, cond_ndec (by omega)]

/-- Behind both parts' digits. -/
theorem num_end (k : Nat) (s f : List UInt8) (m : Int) (e : Nat) (hk : 4 ≤ k) (hs : s ≠ []) (h0 : 0 ≤ m) (h1 : m ≤ 1000000000) :
    csstok_Number.c46 k s (e : Int) f m = some (if s.getD 0 0 = 45 then - addD (addD (addD m (f.getD 0 48)) (f.getD 1 48)) (f.getD 2 48) else addD (addD (addD m (f.getD 0 48)) (f.getD 1 48)) (f.getD 2 48), (e : Int)) := by
  obtain ⟨k, rfl⟩ : ∃ n, k = n + 4 := ⟨k - 4, by omega⟩
  unfold csstok_Number.c46
  rw [frac_loop (k + 4) k s f (e : Int) m _ h0 h1]
  have b1 := addD_bd (f.getD 0 48) h0
  have b2 := addD_bd (f.getD 1 48) b1.1
  have b3 := addD_bd (f.getD 2 48) b2.1
  have hl : 0 < s.length := List.length_pos_iff.2 hs
  obtain ⟨r, hr⟩ : ∃ r, r = addD (addD (addD m (f.getD 0 48)) (f.getD 1 48)) (f.getD 2 48) := ⟨_, rfl⟩
  rw [← hr] at b3 ⊢
  rw [cond_dec (by omega)]
  show cond ((((s.getD 0 0).toNat : Nat) : Int) == (45 : Int)) _ _ = _
  rw [show ((((s.getD 0 0).toNat : Nat) : Int) == (45 : Int)) = (s.getD 0 0 == 45) from byte_eq (s.getD 0 0) 45]
  by_cases h45 : s.getD 0 0 = 45
  · rw [if_pos h45, h45]
    show some (IntKind.wrap .i64 (0 - r), (e : Int)) = _
    rw [wrap_i64 (by omega) (by omega)]
    congr 2
    omega
  · rw [if_neg h45]
    have : (s.getD 0 0 == 45) = false := by simpa using h45
    rw [this]
    rfl

theorem Number_c18 (k : Nat) (s : List UInt8) (g : Nat) (hg : g = sgn s) (hs : s.length ≤ 100000) (hk : s.length + 4 < k) (hne : s ≠ []) :
    csstok_Number.c18 k s (g : Int) ((whl s : Nat) : Int) ((bhd s : Nat) : Int) = some (nval s, ((nlen s : Nat) : Int)) := by
  subst hg
  have hw := whl_le s
  have hb := bhd_le s
  have hbl : bhd s ≤ 100000 := by
    by_cases h : bhd s = 0
    · omega
    · have := hb h; omega
  unfold csstok_Number.c18
  have w1 : IntKind.wrap .i64 (((whl s : Nat) : Int) + ((bhd s : Nat) : Int)) = ((whl s + bhd s : Nat) : Int) := wrap_i64 (by omega) (by omega)
  have w2 : IntKind.wrap .i64 (((sgn s : Nat) : Int) + ((whl s : Nat) : Int)) = ((sgn s + whl s : Nat) : Int) := wrap_i64 (by omega) (by omega)
  simp only [w1, w2]
  by_cases h0 : whl s + bhd s = 0
  · rw [h0]
    unfold nval nlen
    rw [if_pos h0, if_pos h0]
    rfl
  · have hz : (((whl s + bhd s : Nat) : Int) == (0 : Int)) = false := by simp; omega
    rw [hz, cond_false, cond_dec (by omega)]
    have hl : (s.take (((sgn s + whl s : Nat) : Int)).toNat).drop (((sgn s : Nat) : Int)).toNat = (s.drop (sgn s)).take (whl s) := by
      simp only [Int.toNat_natCast]
      rw [List.drop_take]
      congr 1
      omega
    rw [hl]
    have hll : ((s.drop (sgn s)).take (whl s)).length ≤ 100000 := by simp; omega
    have hlk : ((s.drop (sgn s)).take (whl s)).length < k := by simp; omega
    have hwl := fun K => whole_loop k ((sgn s : Nat) : Int) ((whl s : Nat) : Int) ((bhd s : Nat) : Int) 0 s ((s.drop (sgn s)).take (whl s)) hll K k 0 0 (by omega) (by omega) (by omega) (by omega)
    have hf := fold_bd ((s.drop (sgn s)).take (whl s)) 0 (by omega) (by omega)
    refine (hwl _).trans ?_
    simp only [List.drop_zero, w2]
    have hv : nval s = if s.getD 0 0 = 45 then - nabs s else nabs s := by unfold nval; rw [if_neg h0]
    by_cases hb0 : bhd s = 0
    · rw [hb0, cond_ndec (by omega), num_end k s [] _ _ (by omega) hne hf.1 hf.2]
      have hfp : fpart s = [] := by unfold fpart; rw [if_pos hb0]
      have hn : nlen s = sgn s + whl s := by unfold nlen; rw [if_neg h0, if_pos hb0]; rfl
      rw [hv, hn]
      unfold nabs
      rw [hfp]
    · have hbb := hb hb0
      have w3 : IntKind.wrap .i64 (((sgn s + whl s : Nat) : Int) + 1) = ((sgn s + whl s + 1 : Nat) : Int) := wrap_i64 (by omega) (by omega)
      have w4 : IntKind.wrap .i64 (((sgn s + whl s + 1 : Nat) : Int) + ((bhd s : Nat) : Int)) = ((sgn s + whl s + 1 + bhd s : Nat) : Int) := wrap_i64 (by omega) (by omega)
      have w5 : IntKind.wrap .i64 ((1 : Int) + ((bhd s : Nat) : Int)) = ((1 + bhd s : Nat) : Int) := wrap_i64 (by omega) (by omega)
      have w6 : IntKind.wrap .i64 (((sgn s + whl s : Nat) : Int) + ((1 + bhd s : Nat) : Int)) = ((sgn s + whl s + (1 + bhd s) : Nat) : Int) := wrap_i64 (by omega) (by omega)
      rw [cond_dec (by omega)]
      simp only [w3, w4, w5, w6]
      rw [cond_dec (by omega)]
      have hfp : (s.take (((sgn s + whl s + 1 + bhd s : Nat) : Int)).toNat).drop (((sgn s + whl s + 1 : Nat) : Int)).toNat = fpart s := by
        unfold fpart
        rw [if_neg hb0]
        simp only [Int.toNat_natCast]
        rw [List.drop_take]
        congr 1
        omega
      rw [hfp, num_end k s (fpart s) _ _ (by omega) hne hf.1 hf.2]
      have hn : nlen s = sgn s + whl s + (1 + bhd s) := by unfold nlen; rw [if_neg h0, if_neg hb0]
      rw [hv, hn]
      rfl

theorem Number_c8 (k : Nat) (s : List UInt8) (g : Nat) (hg : g = sgn s) (hs : s.length ≤ 100000) (hk : s.length + 4 < k) (hne : s ≠ []) :
    csstok_Number.c8 k s (g : Int) = some (nval s, ((nlen s : Nat) : Int)) := by
  have hw := whl_le s
  unfold csstok_Number.c8
  rw [cond_dec (by have := (sgn_le s).1; omega)]
  simp only [Int.toNat_natCast]
  rw [digits_eq k _ (by simp; omega)]
  simp only [Option.bind_some]
  have e1 : cnt isDig (s.drop g) = whl s := by rw [hg]; rfl
  rw [e1]
  have w2 : IntKind.wrap .i64 ((g : Int) + ((whl s : Nat) : Int)) = ((g + whl s : Nat) : Int) := wrap_i64 (by omega) (by omega)
  simp only [w2, Int.toNat_natCast]
  rw [cond_dec (by omega), pre_eq]
  simp only [Option.bind_some]
  have hbd : bhd s = frc (s.drop (g + whl s)) := by rw [hg]; rfl
  cases hd : s.drop (g + whl s) with
  | nil =>
    have hb : bhd s = 0 := by rw [hbd, hd]; rfl
    have := Number_c18 k s g hg hs hk hne
    rw [hb] at this
    exact this
  | cons a r =>
    have hl := congrArg List.length hd
    simp only [List.length_drop, List.length_cons] at hl
    cases h46 : (a == 46) with
    | false =>
      have hb : bhd s = 0 := by rw [hbd, hd]; simp [frc, h46]
      have := Number_c18 k s g hg hs hk hne
      rw [hb] at this
      show cond (a == 46) _ _ = _
      rw [h46]
      exact this
    | true =>
      have hb : bhd s = cnt isDig r := by rw [hbd, hd]; simp [frc, h46]
      show cond (a == 46) _ _ = _
      rw [h46, cond_true, cond_dec (by simp; omega)]
      show ((csstok_digits k r).bind _) = _
      rw [digits_eq k r (by omega)]
      simp only [Option.bind_some]
      rw [← hb]
      exact Number_c18 k s g hg hs hk hne

theorem Number_eq (k : Nat) (s : List UInt8) (hs : s.length ≤ 100000) (hk : s.length + 4 < k) (hne : s ≠ []) :
    csstok_Number k s = some (nval s, ((nlen s : Nat) : Int)) := by
  unfold csstok_Number
  match s, hne with
  | a :: r, hne =>
    have h1 : ((a :: r) == ([] : List UInt8)) = false := rfl
    have d0 : decide (0 ≤ (0 : Int) ∧ (0 : Int) < ((a :: r).length : Int)) = true := by simp
    have g0 : (a :: r).getD (0 : Int).toNat 0 = a := rfl
    have e43 : (((a.toNat : Nat) : Int) == (43 : Int)) = (a == 43) := byte_eq a 43
    have e45 : (((a.toNat : Nat) : Int) == (45 : Int)) = (a == 45) := byte_eq a 45
    simp only [h1, d0, g0, e43, e45, Bool.true_or, cond_true, Bool.not_false]
    have hc : (cond (a == 43) true (a == 45)) = (a == 43 || a == 45) := by cases (a == 43) <;> rfl
    rw [hc]
    cases hs' : (a == 43 || a == 45) with
    | true => exact Number_c8 k (a :: r) 1 (by simp [sgn, hs']) hs hk hne
    | false => exact Number_c8 k (a :: r) 0 (by simp [sgn, hs']) hs hk hne

theorem text_eq (k : Nat) (s : List UInt8) (hs : s.length ≤ 100000) (hk : s.length < k) (h0 : 0 < s.length) :
    csstok_text k s = some (bif (tx (s.getD 0 0) (s.drop 1)).1 then ((5 : Int), s.take (1 + (tx (s.getD 0 0) (s.drop 1)).2.1), (tx (s.getD 0 0) (s.drop 1)).2.2, (0 : Int)) else ((6 : Int), s.take (1 + (tx (s.getD 0 0) (s.drop 1)).2.1), [], (0 : Int))) := by
  unfold csstok_text
  have := text_loop k s (s.getD 0 0) hs h0 rfl k 1 [] (by omega) (by omega) (by simp)
  simpa using this

theorem lowB_eq (c : UInt8) : (bif (cond (decide (((c.toNat : Nat) : Int) ≥ 65)) (decide (((c.toNat : Nat) : Int) ≤ 90)) false) then IntKind.wrap .u8 (((c.toNat : Nat) : Int) + 32) else ((c.toNat : Nat) : Int)) = (((lowB c).toNat : Nat) : Int) := by
  have h : ∀ n : Fin 256, (bif (cond (decide (((n.val : Nat) : Int) ≥ 65)) (decide (((n.val : Nat) : Int) ≤ 90)) false) then IntKind.wrap .u8 (((n.val : Nat) : Int) + 32) else ((n.val : Nat) : Int)) = (((lowB (UInt8.ofNat n.val)).toNat : Nat) : Int) := by decide +kernel
  have := h ⟨c.toNat, c.toNat_lt⟩
  simpa using this

theorem bytesU_I (l : List UInt8) : bytesU (bytesI l) = l := by
  unfold bytesU bytesI
  rw [List.map_map]
  conv => rhs; rw [← List.map_id l]
  congr 1
  funext c
  simp

theorem lower_loop (k : Nat) (l : List UInt8) (hl : l.length ≤ 100000) : ∀ (n i : Nat), i ≤ l.length → l.length - i < n →
    csstok_lower.c7 k n ((bytesI l).length : Int) (i : Int) (bytesI ((l.take i).map lowB ++ l.drop i)) (fun y10 => some (bytesU y10)) = some (l.map lowB)
  | 0, i, _, h => by omega
  | n + 1, i, h1, h2 => by
    have hlen : (bytesI l).length = l.length := by simp [bytesI]
    rw [csstok_lower.c7]
    match hd : l.drop i with
    | [] =>
      have hi : i = l.length := by
        have := congrArg List.length hd
        simp at this; omega
      rw [cond_ndec (by omega)]
      subst hi
      simp [bytesU_I]
    | c :: r =>
      obtain ⟨g1, g2, g3⟩ := get_at l i c r hd
      have hll : (bytesI ((l.take i).map lowB ++ c :: r)).length = l.length := by
        have := congrArg List.length hd
        simp at this
        simp [bytesI]; omega
      have htl : ((l.take i).map lowB).length = i := by simp; omega
      have hg : (bytesI ((l.take i).map lowB ++ c :: r)).getD i 0 = ((c.toNat : Nat) : Int) := by
        rw [get_bytes _ i (by simp; omega), List.getD_eq_getElem?_getD, List.getElem?_append_right (by omega), htl]
        simp
      rw [cond_dec (by omega), cond_dec (by omega)]
      simp only [Int.toNat_natCast, hg]
      rw [wrap_i64 (n := (i : Int) + 1) (by omega) (by omega)]
      have hset : (bytesI ((l.take i).map lowB ++ c :: r)).set i (((lowB c).toNat : Nat) : Int) = bytesI ((l.take (i + 1)).map lowB ++ l.drop (i + 1)) := by
        rw [g3]
        unfold bytesI
        rw [List.map_append, List.set_append_right _ _ (by simp; omega)]
        have : i - (((l.take i).map lowB).map fun b => ((b.toNat : Nat) : Int)).length = 0 := by simp; omega
        rw [this]
        have ht : l.take (i + 1) = l.take i ++ [c] := by
          rw [List.take_add_one, List.getElem?_eq_getElem g1]
          rw [List.getD_eq_getElem?_getD, List.getElem?_eq_getElem g1] at g2
          simp at g2
          simp [g2]
        rw [ht]
        simp
      have hlow := lowB_eq c
      have ih := lower_loop k l hl n (i + 1) (by omega) (by omega)
      rw [show ((i + 1 : Nat) : Int) = (i : Int) + 1 by omega] at ih
      cases hb : (cond (decide (((c.toNat : Nat) : Int) ≥ 65)) (decide (((c.toNat : Nat) : Int) ≤ 90)) false) with
      | true =>
        rw [hb, cond_true] at hlow
        rw [cond_true, cond_dec (by omega), hlow, hset]
        exact ih
      | false =>
        rw [hb, cond_false] at hlow
        rw [cond_false]
        have hc : c = lowB c := UInt8.toNat_inj.1 (by omega)
        have e : bytesI ((l.take i).map lowB ++ c :: r) = bytesI ((l.take (i + 1)).map lowB ++ l.drop (i + 1)) := by
          rw [← hset, ← hlow, ← hg]
          apply List.ext_getElem
          · simp
          · intro j hj hj'
            rw [List.getElem_set]
            split
            · rename_i hij; subst hij
              rw [List.getD_eq_getElem?_getD, List.getElem?_eq_getElem hj]; rfl
            · rfl
        rw [e]
        exact ih

theorem lower_eq (k : Nat) (l : List UInt8) (hl : l.length ≤ 100000) (hk : l.length < k) : csstok_lower k l = some (l.map lowB) := by
  unfold csstok_lower
  have := lower_loop k l hl k 0 (by omega) (by omega)
  simpa using this

theorem pre_hd (k : Nat) (s : List UInt8) (c : UInt8) : strings_HasPrefix k s [c] = some (hd1 s c) := pre_eq k s c

theorem hd1_len {s : List UInt8} {c : UInt8} (h : hd1 s c = true) : 0 < s.length := by
  cases s with
  | nil => simp [hd1] at h
  | cons a r => simp

theorem number_eq (k : Nat) (s : List UInt8) (hs : s.length ≤ 100000) (hk : s.length < k) :
    csstok_number k s (nval s) ((nlen s : Nat) : Int) = some ((numT s).1, s.take (numT s).2.1, (numT s).2.2.1, (numT s).2.2.2) := by
  have hn := nlen_le s
  unfold csstok_number
  rw [cond_dec (by omega), cond_dec (by omega)]
  simp only [Int.toNat_natCast]
  rw [pre_hd]
  simp only [Option.bind_some]
  unfold numT
  cases h37 : hd1 (s.drop (nlen s)) 37 with
  | true =>
    have := hd1_len h37
    simp only [List.length_drop] at this
    have w : IntKind.wrap .i64 (((nlen s : Nat) : Int) + 1) = ((nlen s + 1 : Nat) : Int) := wrap_i64 (by omega) (by omega)
    simp only [cond_true, w]
    rw [cond_dec (by omega)]
    rfl
  | false =>
    simp only [cond_false, begins_eq, Option.bind_some]
    cases hb : bg (s.drop (nlen s)) with
    | true =>
      have h1 := nm_le (s.drop (nlen s))
      have h2 := nm_len (s.drop (nlen s))
      simp only [List.length_drop] at h1
      have w : IntKind.wrap .i64 (((nlen s : Nat) : Int) + (((nm (s.drop (nlen s))).2 : Nat) : Int)) = ((nlen s + (nm (s.drop (nlen s))).2 : Nat) : Int) := wrap_i64 (by omega) (by omega)
      simp only [cond_true]
      rw [name_eq k _ (by simp; omega) (by simp; omega)]
      simp only [Option.bind_some, w]
      rw [cond_dec (by omega), lower_eq k _ (by omega) (by omega)]
      rfl
    | false => rfl

theorem named_eq (k : Nat) (s : List UInt8) (kind : Int) (a : Nat) (ha : a ≤ s.length) (hs : s.length ≤ 100000) (hk : s.length < k) :
    csstok_named k kind s (a : Int) = some (kind, s.take (a + (nm (s.drop a)).2), (nm (s.drop a)).1, 0) := by
  unfold csstok_named
  have h1 := nm_le (s.drop a)
  simp only [List.length_drop] at h1
  rw [cond_dec (by omega)]
  simp only [Int.toNat_natCast]
  rw [name_eq k _ (by simp; omega) (by simp; omega)]
  have w : IntKind.wrap .i64 ((a : Int) + (((nm (s.drop a)).2 : Nat) : Int)) = ((a + (nm (s.drop a)).2 : Nat) : Int) := wrap_i64 (by omega) (by omega)
  simp only [Option.bind_some, w]
  rw [cond_dec (by omega)]
  rfl

theorem nameT_eq (k : Nat) (s : List UInt8) (hs : s.length ≤ 100000) (hk : s.length < k) :
    ((csstok_named k (1 : Int) s (0 : Int)).bind fun r28 =>
      cond (decide (0 ≤ (r28.2.1.length : Int) ∧ (r28.2.1.length : Int) ≤ (s.length : Int))) (
      let v29 : List UInt8 := (s.drop (r28.2.1.length : Int).toNat)
      (strings_HasPrefix k v29 ([40] : List UInt8)).bind fun r30 =>
      cond r30 (
      let v31 : Int := (IntKind.wrap .i64 ((r28.2.1.length : Int) + (1 : Int)))
      cond (decide (0 ≤ v31 ∧ v31 ≤ (s.length : Int))) (
      csstok_first.c52 k (0 : Int) ([]) ([]) (0 : Int) (2 : Int) (s.take v31.toNat) r28.2.2.1 r28.2.2.2) none) (
      csstok_first.c52 k (0 : Int) ([]) ([]) (0 : Int) r28.1 r28.2.1 r28.2.2.1 r28.2.2.2)) none) = some ((nameT s).1, s.take (nameT s).2.1, (nameT s).2.2.1, (nameT s).2.2.2) := by
  have h1 := nm_le s
  have hn := named_eq k s 1 0 (Nat.zero_le _) hs hk
  rw [show ((0 : Nat) : Int) = 0 from rfl] at hn
  rw [hn]
  have hl : (s.take (0 + (nm (s.drop 0)).2)).length = (nm s).2 := by simp; omega
  simp only [Option.bind_some, hl, Int.toNat_natCast]
  rw [cond_dec (by omega), pre_hd]
  simp only [Option.bind_some]
  unfold nameT
  cases h40 : hd1 (s.drop (nm s).2) 40 with
  | true =>
    have := hd1_len h40
    simp only [List.length_drop] at this
    have w : IntKind.wrap .i64 (((nm s).2 : Int) + 1) = (((nm s).2 + 1 : Nat) : Int) := wrap_i64 (by omega) (by omega)
    simp only [cond_true, w]
    rw [cond_dec (by omega)]
    simp [csstok_first.c52]
  | false => simp [csstok_first.c52]

/-- A token, as the cutter gives it. -/
theorem one_eq (k : Nat) (kind : Int) (s : List UInt8) (h : 0 < s.length) : csstok_first_1 k kind s = some (kind, s.take 1, [], 0, s) := by
  unfold csstok_first_1
  rw [cond_dec (by omega)]
  rfl

theorem c76_eq (k : Nat) (a b : Int) (x y : List UInt8) (s : List UInt8) (h : 0 < s.length) : csstok_first.c76 k a x y b s = some (12, s.take 1, [], 0) := by
  unfold csstok_first.c76
  rw [one_eq k 12 s h]
  rfl

theorem cut_eq2 (k : Nat) (s : List UInt8) (c d : UInt8) : strings_CutPrefix k s [c, d] = some (bif hd1 s c && hd1 (s.drop 1) d then (s.drop 2, true) else (s, false)) := by
  unfold strings_CutPrefix stringslite_CutPrefix stringslite_HasPrefix
  match s with
  | [] => rfl
  | [a] => 
    have h1 : decide ((([a] : List UInt8).length : Int) ≥ (([c, d] : List UInt8).length : Int)) = false := by simp
    have h2 : decide (0 ≤ (([c, d] : List UInt8).length : Int) ∧ (([c, d] : List UInt8).length : Int) ≤ (([a] : List UInt8).length : Int)) = false := by simp
    simp only [h1, h2, Bool.not_false, Bool.or_true, cond_true, Option.bind_some, cond_false]
    show some (([a] : List UInt8), false) = _
    have : hd1 ([a].drop 1) d = false := rfl
    rw [this, Bool.and_false, cond_false]
  | a :: b :: r =>
    have h1 : decide (((a :: b :: r).length : Int) ≥ (([c, d] : List UInt8).length : Int)) = true := by simp; omega
    have h2 : decide (0 ≤ (([c, d] : List UInt8).length : Int) ∧ (([c, d] : List UInt8).length : Int) ≤ ((a :: b :: r).length : Int)) = true := by simp; omega
    simp only [h1, h2, Bool.true_or, cond_true, Option.bind_some]
    have e : ((a :: b :: r).take ((([c, d] : List UInt8).length : Int)).toNat == [c, d]) = (a == c && b == d) := by
      show ([a, b] == [c, d]) = _
      cases h : (a == c) <;> cases h' : (b == d) <;> simp_all
    have hR : (hd1 (a :: b :: r) c && hd1 ((a :: b :: r).drop 1) d) = (a == c && b == d) := rfl
    rw [e, hR]
    cases (a == c && b == d) <;> rfl

def numB (k : Nat) (a1 : List UInt8) : Option (Int × (List UInt8) × (List UInt8) × Int) :=
(csstok_Number k a1).bind fun r25 =>
cond (decide (r25.2 > (0 : Int))) (
(csstok_number k a1 r25.1 r25.2).bind fun r26 =>
some (r26.1, r26.2.1, r26.2.2.1, r26.2.2.2)) (
(csstok_begins k a1).bind fun r27 =>
cond r27 (
(csstok_named k (1 : Int) a1 (0 : Int)).bind fun r28 =>
cond (decide (0 ≤ (r28.2.1.length : Int) ∧ (r28.2.1.length : Int) ≤ (a1.length : Int))) (
let v29 : List UInt8 := (a1.drop (r28.2.1.length : Int).toNat)
(strings_HasPrefix k v29 ([40] : List UInt8)).bind fun r30 =>
cond r30 (
let v31 : Int := (IntKind.wrap .i64 ((r28.2.1.length : Int) + (1 : Int)))
cond (decide (0 ≤ v31 ∧ v31 ≤ (a1.length : Int))) (
csstok_first.c52 k (0 : Int) ([]) ([]) (0 : Int) (2 : Int) (a1.take v31.toNat) r28.2.2.1 r28.2.2.2) none) (
csstok_first.c52 k (0 : Int) ([]) ([]) (0 : Int) r28.1 r28.2.1 r28.2.2.1 r28.2.2.2)) none) (
cond (decide (0 ≤ (0 : Int) ∧ (0 : Int) < (a1.length : Int))) (
let v40 : Int := ((a1.getD (0 : Int).toNat 0).toNat : Int)
cond (v40 == (40 : Int)) (
cond (v40 == (40 : Int)) (
(csstok_first_1 k (10 : Int) a1).bind fun r41 =>
some (r41.1, r41.2.1, r41.2.2.1, r41.2.2.2.1)) (
cond (v40 == (41 : Int)) (
cond (v40 == (41 : Int)) (
(csstok_first_1 k (11 : Int) a1).bind fun r42 =>
some (r42.1, r42.2.1, r42.2.2.1, r42.2.2.2.1)) (
cond (v40 == (92 : Int)) (
(csstok_first_1 k (6 : Int) a1).bind fun r43 =>
some (r43.1, r43.2.1, r43.2.2.1, r43.2.2.2.1)) (
csstok_first.c76 k (0 : Int) ([]) ([]) (0 : Int) a1))) (
cond (v40 == (93 : Int)) (
cond (v40 == (93 : Int)) (
(csstok_first_1 k (11 : Int) a1).bind fun r50 =>
some (r50.1, r50.2.1, r50.2.2.1, r50.2.2.2.1)) (
cond (v40 == (92 : Int)) (
(csstok_first_1 k (6 : Int) a1).bind fun r51 =>
some (r51.1, r51.2.1, r51.2.2.1, r51.2.2.2.1)) (
csstok_first.c76 k (0 : Int) ([]) ([]) (0 : Int) a1))) (
cond (v40 == (125 : Int)) (
(csstok_first_1 k (11 : Int) a1).bind fun r52 =>
some (r52.1, r52.2.1, r52.2.2.1, r52.2.2.2.1)) (
cond (v40 == (92 : Int)) (
(csstok_first_1 k (6 : Int) a1).bind fun r53 =>
some (r53.1, r53.2.1, r53.2.2.1, r53.2.2.2.1)) (
csstok_first.c76 k (0 : Int) ([]) ([]) (0 : Int) a1)))))) (
cond (v40 == (91 : Int)) (
cond (v40 == (91 : Int)) (
(csstok_first_1 k (10 : Int) a1).bind fun r54 =>
some (r54.1, r54.2.1, r54.2.2.1, r54.2.2.2.1)) (
cond (v40 == (41 : Int)) (
cond (v40 == (41 : Int)) (
(csstok_first_1 k (11 : Int) a1).bind fun r55 =>
some (r55.1, r55.2.1, r55.2.2.1, r55.2.2.2.1)) (
cond (v40 == (92 : Int)) (
(csstok_first_1 k (6 : Int) a1).bind fun r56 =>
some (r56.1, r56.2.1, r56.2.2.1, r56.2.2.2.1)) (
csstok_first.c76 k (0 : Int) ([]) ([]) (0 : Int) a1))) (
cond (v40 == (93 : Int)) (
cond (v40 == (93 : Int)) (
(csstok_first_1 k (11 : Int) a1).bind fun r57 =>
some (r57.1, r57.2.1, r57.2.2.1, r57.2.2.2.1)) (
cond (v40 == (92 : Int)) (
(csstok_first_1 k (6 : Int) a1).bind fun r58 =>
some (r58.1, r58.2.1, r58.2.2.1, r58.2.2.2.1)) (
csstok_first.c76 k (0 : Int) ([]) ([]) (0 : Int) a1))) (
cond (v40 == (125 : Int)) (
(csstok_first_1 k (11 : Int) a1).bind fun r59 =>
some (r59.1, r59.2.1, r59.2.2.1, r59.2.2.2.1)) (
cond (v40 == (92 : Int)) (
(csstok_first_1 k (6 : Int) a1).bind fun r60 =>
some (r60.1, r60.2.1, r60.2.2.1, r60.2.2.2.1)) (
csstok_first.c76 k (0 : Int) ([]) ([]) (0 : Int) a1)))))) (
cond (v40 == (123 : Int)) (
(csstok_first_1 k (10 : Int) a1).bind fun r61 =>
some (r61.1, r61.2.1, r61.2.2.1, r61.2.2.2.1)) (
cond (v40 == (41 : Int)) (
cond (v40 == (41 : Int)) (
(csstok_first_1 k (11 : Int) a1).bind fun r62 =>
some (r62.1, r62.2.1, r62.2.2.1, r62.2.2.2.1)) (
cond (v40 == (92 : Int)) (
(csstok_first_1 k (6 : Int) a1).bind fun r63 =>
some (r63.1, r63.2.1, r63.2.2.1, r63.2.2.2.1)) (
csstok_first.c76 k (0 : Int) ([]) ([]) (0 : Int) a1))) (
cond (v40 == (93 : Int)) (
cond (v40 == (93 : Int)) (
(csstok_first_1 k (11 : Int) a1).bind fun r64 =>
some (r64.1, r64.2.1, r64.2.2.1, r64.2.2.2.1)) (
cond (v40 == (92 : Int)) (
(csstok_first_1 k (6 : Int) a1).bind fun r65 =>
some (r65.1, r65.2.1, r65.2.2.1, r65.2.2.2.1)) (
csstok_first.c76 k (0 : Int) ([]) ([]) (0 : Int) a1))) (
cond (v40 == (125 : Int)) (
(csstok_first_1 k (11 : Int) a1).bind fun r66 =>
some (r66.1, r66.2.1, r66.2.2.1, r66.2.2.2.1)) (
cond (v40 == (92 : Int)) (
(csstok_first_1 k (6 : Int) a1).bind fun r67 =>
some (r67.1, r67.2.1, r67.2.2.1, r67.2.2.2.1)) (
csstok_first.c76 k (0 : Int) ([]) ([]) (0 : Int) a1)))))))) none))

def tailB (k : Nat) (a1 : List UInt8) (v12 : Int) : Option (Int × (List UInt8) × (List UInt8) × Int) :=
cond ((decide (0 ≤ (1 : Int) ∧ (1 : Int) ≤ (a1.length : Int))) || !(v12 == (64 : Int))) (
(cond (v12 == (64 : Int)) (csstok_begins k (a1.drop (1 : Int).toNat)) (some false)).bind fun r22 =>
let v23 : Bool := (cond (v12 == (64 : Int)) r22 false)
cond v23 (
(csstok_named k (3 : Int) a1 (1 : Int)).bind fun r24 =>
some (r24.1, r24.2.1, r24.2.2.1, r24.2.2.2)) (
numB k a1)) none

def hashB (k : Nat) (a1 : List UInt8) (v12 : Int) : Option (Int × (List UInt8) × (List UInt8) × Int) :=
let v15 : Bool := (decide ((a1.length : Int) > (1 : Int)))
let v16 : Bool := (cond (v12 == (35 : Int)) v15 false)
cond ((decide (0 ≤ (1 : Int) ∧ (1 : Int) < (a1.length : Int))) || !v16) (
let v17 : Int := ((a1.getD (1 : Int).toNat 0).toNat : Int)
(cond v16 (csstok_sign k v17) (some false)).bind fun r18 =>
cond ((decide (0 ≤ (1 : Int) ∧ (1 : Int) ≤ (a1.length : Int))) || !(v16 && (!r18))) (
(cond (v16 && (!r18)) (csstok_escape k (a1.drop (1 : Int).toNat)) (some false)).bind fun r19 =>
let v20 : Bool := (cond v16 (cond r18 true r19) false)
cond v20 (
(csstok_named k (4 : Int) a1 (1 : Int)).bind fun r21 =>
some (r21.1, r21.2.1, r21.2.2.1, r21.2.2.2)) (
tailB k a1 v12)) none) none

theorem numB_eq (k : Nat) (s : List UInt8) (hs : s.length ≤ 100000) (hk : s.length + 4 < k) (hne : s ≠ []) :
    numB k s = some (tokO s (if nlen s > 0 then numT s else bif bg s then nameT s else (oneK (s.getD 0 0), 1, [], 0))) := by
  have hl : 0 < s.length := List.length_pos_iff.2 hne
  unfold numB
  rw [Number_eq k s hs hk hne]
  simp only [Option.bind_some]
  by_cases hn : nlen s > 0
  · rw [if_pos hn, cond_dec (by omega), number_eq k s hs (by omega)]
    rfl
  · rw [if_neg hn, cond_ndec (by omega), begins_eq]
    simp only [Option.bind_some]
    cases hb : bg s with
    | true =>
      simp only [cond_true]
      exact nameT_eq k s hs (by omega)
    | false =>
      simp only [cond_false]
      rw [cond_dec (by omega)]
      obtain ⟨c, hc⟩ : ∃ c, c = s.getD 0 0 := ⟨_, rfl⟩
      have e40 : (((c.toNat : Nat) : Int) == (40 : Int)) = (c == 40) := byte_eq c 40
      have e41 : (((c.toNat : Nat) : Int) == (41 : Int)) = (c == 41) := byte_eq c 41
      have e92 : (((c.toNat : Nat) : Int) == (92 : Int)) = (c == 92) := byte_eq c 92
      have e91 : (((c.toNat : Nat) : Int) == (91 : Int)) = (c == 91) := byte_eq c 91
      have e93 : (((c.toNat : Nat) : Int) == (93 : Int)) = (c == 93) := byte_eq c 93
      have e123 : (((c.toNat : Nat) : Int) == (123 : Int)) = (c == 123) := byte_eq c 123
      have e125 : (((c.toNat : Nat) : Int) == (125 : Int)) = (c == 125) := byte_eq c 125
      have g0 : s.getD (0 : Int).toNat 0 = c := hc.symm
      simp only [g0, ← hc, e40, e41, e92, e91, e93, e123, e125, one_eq k _ s hl, c76_eq k _ _ _ _ s hl, Option.bind_some]
      unfold oneK tokO
      by_cases h1 : c = 40
      · subst h1; rfl
      by_cases h2 : c = 41
      · subst h2; rfl
      by_cases h3 : c = 92
      · subst h3; rfl
      by_cases h4 : c = 91
      · subst h4; rfl
      by_cases h5 : c = 93
      · subst h5; rfl
      by_cases h6 : c = 123
      · subst h6; rfl
      by_cases h7 : c = 125
      · subst h7; rfl
      have n1 : (c == 40) = false := by simpa using h1
      have n2 : (c == 41) = false := by simpa using h2
      have n3 : (c == 92) = false := by simpa using h3
      have n4 : (c == 91) = false := by simpa using h4
      have n5 : (c == 93) = false := by simpa using h5
      have n6 : (c == 123) = false := by simpa using h6
      have n7 : (c == 125) = false := by simpa using h7
      rw [n1, n2, n3, n4, n5, n6, n7]
      rfl

theorem tailB_eq (k : Nat) (a : UInt8) (r : List UInt8) (hs : (a :: r).length ≤ 100000) (hk : (a :: r).length + 4 < k) :
    tailB k (a :: r) ((a.toNat : Nat) : Int) = some (tokO (a :: r) (bif hd1 (a :: r) 64 && bg ((a :: r).drop 1) then (3, 1 + (nm ((a :: r).drop 1)).2, (nm ((a :: r).drop 1)).1, 0)
      else if nlen (a :: r) > 0 then numT (a :: r) else bif bg (a :: r) then nameT (a :: r) else (oneK ((a :: r).getD 0 0), 1, [], 0))) := by
  unfold tailB
  have e64 : (((a.toNat : Nat) : Int) == (64 : Int)) = (a == 64) := byte_eq a 64
  have d2 : decide (0 ≤ (1 : Int) ∧ (1 : Int) ≤ ((a :: r).length : Int)) = true := by simp; omega
  have hh : hd1 (a :: r) 64 = (a == 64) := rfl
  simp only [e64, d2, Bool.true_or, cond_true, hh, numB_eq k (a :: r) hs hk (by simp)]
  have hn := named_eq k (a :: r) 3 1 (by simp) hs (by omega)
  rw [show ((1 : Nat) : Int) = 1 from rfl] at hn
  cases h : (a == 64) with
  | false => rfl
  | true =>
    simp only [cond_true, begins_eq, Option.bind_some, Bool.true_and]
    show cond (bg ((a :: r).drop 1)) _ _ = _
    cases hb : bg ((a :: r).drop 1) with
    | true =>
      simp only [cond_true, hn, Option.bind_some]
      rfl
    | false => rfl

theorem hashB_eq (k : Nat) (a : UInt8) (r : List UInt8) (hs : (a :: r).length ≤ 100000) (hk : (a :: r).length + 4 < k) :
    hashB k (a :: r) ((a.toNat : Nat) : Int) = some (tokO (a :: r) (bif hd1 (a :: r) 35 && decide (1 < (a :: r).length) && (isSg ((a :: r).getD 1 0) || esc ((a :: r).drop 1)) then (4, 1 + (nm ((a :: r).drop 1)).2, (nm ((a :: r).drop 1)).1, 0)
      else bif hd1 (a :: r) 64 && bg ((a :: r).drop 1) then (3, 1 + (nm ((a :: r).drop 1)).2, (nm ((a :: r).drop 1)).1, 0)
      else if nlen (a :: r) > 0 then numT (a :: r) else bif bg (a :: r) then nameT (a :: r) else (oneK ((a :: r).getD 0 0), 1, [], 0))) := by
  unfold hashB
  have e35 : (((a.toNat : Nat) : Int) == (35 : Int)) = (a == 35) := byte_eq a 35
  have hh : hd1 (a :: r) 35 = (a == 35) := rfl
  have hn := named_eq k (a :: r) 4 1 (by simp) hs (by omega)
  rw [show ((1 : Nat) : Int) = 1 from rfl] at hn
  simp only [e35, hh, tailB_eq k a r hs hk, hn]
  match r with
  | [] =>
    have hd : decide ((([a] : List UInt8).length : Int) > 1) = false := by simp
    have hd' : decide (1 < ([a] : List UInt8).length) = false := by simp
    have hc : (cond (a == 35) false false) = false := by cases (a == 35) <;> rfl
    simp only [hd, hd', hc, Bool.not_false, Bool.or_true, cond_true, cond_false, Bool.false_and, Option.bind_some, Bool.and_false]
  | b :: r =>
    have hd : decide (((a :: b :: r).length : Int) > 1) = true := by simp; omega
    have hd' : decide (1 < (a :: b :: r).length) = true := by simp
    have d1 : decide (0 ≤ (1 : Int) ∧ (1 : Int) < ((a :: b :: r).length : Int)) = true := by simp; omega
    have d2 : decide (0 ≤ (1 : Int) ∧ (1 : Int) ≤ ((a :: b :: r).length : Int)) = true := by simp; omega
    have g1 : (a :: b :: r).getD (1 : Int).toNat 0 = b := rfl
    have g1' : (a :: b :: r).getD 1 0 = b := rfl
    have g2 : (a :: b :: r).drop (1 : Int).toNat = b :: r := rfl
    have g2' : (a :: b :: r).drop 1 = b :: r := rfl
    simp only [hd, hd', d1, d2, g1, g1', g2, g2', Bool.true_or, cond_true, sign_eq, escape_eq, Bool.and_true]
    cases (a == 35) with
    | false => rfl
    | true =>
      cases hsg : isSg b with
      | true => rfl
      | false =>
        cases he : esc (b :: r) with
        | true => rfl
        | false => rfl

theorem first_eq (k : Nat) (s : List UInt8) (hs : s.length ≤ 100000) (hk : s.length + 4 < k) (hne : s ≠ []) : csstok_first k s = some (tokO s (tok1 s)) := by
  have hl : 0 < s.length := List.length_pos_iff.2 hne
  unfold csstok_first
  rw [trim_bl]
  have hc1 := cnt_drop isBlank s
  have hc2 := cnt_le isBlank s
  have w : IntKind.wrap .i64 ((s.length : Int) - ((s.dropWhile isBlank).length : Int)) = ((cnt isBlank s : Nat) : Int) := by
    rw [wrap_i64 (by omega) (by omega)]; omega
  simp only [Option.bind_some, w]
  unfold tok1
  by_cases hb : cnt isBlank s > 0
  · rw [if_pos hb, cond_dec (by omega), cond_dec (by omega)]
    rfl
  · rw [if_neg hb, cond_ndec (by omega), cut_eq2]
    simp only [Option.bind_some]
    cases hn : (hd1 s 47 && hd1 (s.drop 1) 42) with
    | true =>
      simp only [cond_true]
      have hlen : 2 ≤ s.length := by
        rw [Bool.and_eq_true] at hn
        have := hd1_len hn.2
        simp at this; omega
      have hi : strings_Index k (s.drop 2) [42, 47] = some (Go.Lib.index (s.drop 2) [42, 47]) := by
        unfold strings_Index findS
        have : (s.drop 2).length.blt findMax = true := by simp [Nat.blt_eq, findMax]; omega
        rw [this]; rfl
      rw [hi]
      simp only [Option.bind_some]
      by_cases hx : Go.Lib.index (s.drop 2) [42, 47] ≥ 0
      · have hle := idx_le _ hx
        simp only [List.length_drop] at hle
        have w2 : IntKind.wrap .i64 (Go.Lib.index (s.drop 2) [42, 47] + 4) = Go.Lib.index (s.drop 2) [42, 47] + 4 := wrap_i64 (by omega) (by omega)
        rw [cond_dec hx]
        simp only [w2]
        rw [cond_dec (by omega)]
        have e : (Go.Lib.index (s.drop 2) [42, 47] + 4).toNat = noteN s := by
          unfold noteN; rw [if_pos hx]; omega
        rw [e]
        rfl
      · rw [cond_ndec hx]
        have e : noteN s = s.length := by unfold noteN; rw [if_neg hx]
        unfold csstok_first.c20 tokO
        simp [e]
    | false =>
      simp only [cond_false]
      rw [cond_dec (by omega)]
      match s, hne with
      | a :: r, hne =>
        have g0 : (a :: r).getD (0 : Int).toNat 0 = a := rfl
        have g0' : (a :: r).getD 0 0 = a := rfl
        have e39 : (((a.toNat : Nat) : Int) == (39 : Int)) = (a == 39) := byte_eq a 39
        have e34 : (((a.toNat : Nat) : Int) == (34 : Int)) = (a == 34) := byte_eq a 34
        simp only [g0, e39, e34]
        have hq : (cond (a == 39) true (a == 34)) = (hd1 (a :: r) 39 || hd1 (a :: r) 34) := by
          show _ = ((a == 39) || (a == 34))
          cases (a == 39) <;> rfl
        rw [hq]
        cases hqq : (hd1 (a :: r) 39 || hd1 (a :: r) 34) with
        | true =>
          simp only [cond_true]
          rw [text_eq k _ hs (by omega) hl]
          simp only [Option.bind_some, g0']
          cases (tx a ((a :: r).drop 1)).1 <;> rfl
        | false =>
          simp only [cond_false]
          exact hashB_eq k a r hs hk

end Go.Ev.Vp

-- from EvVpU
set_option linter.unusedVariables false
namespace Go.Ev.Vp
open Go Go.Ev.Tok

def mk (t : Int × List UInt8 × List UInt8 × Int) : S77 := ⟨t.1, t.2.1, t.2.2.1, t.2.2.2⟩
def toks (s : List UInt8) : List S77 := (cutP s).map mk

theorem toks_len (s : List UInt8) : (toks s).length ≤ s.length := by
  unfold toks; rw [List.length_map]; exact cutP_len _ s (Nat.le_refl _)

theorem cut_loop (k : Nat) (K : List S77 → Option (List S77)) : ∀ (n : Nat) (s : List UInt8) (acc : List S77), s.length ≤ 100000 → s.length + 4 < k → s.length < n → acc.length + s.length ≤ 100000 →
    csstok_Cut.c5 k n s acc K = K (acc ++ toks s)
  | 0, s, acc, _, _, h, _ => by omega
  | n + 1, [], acc, _, _, _, _ => by
    unfold csstok_Cut.c5
    show K acc = K (acc ++ [])
    rw [List.append_nil]
  | n + 1, a :: r, acc, hs, hk, hn, ha => by
    have h1 := tok1_ok (a :: r) (by simp)
    generalize hsr : (a :: r) = s at *
    have hne : s ≠ [] := by subst hsr; simp
    unfold csstok_Cut.c5
    have e0 : (!(s == ([] : List UInt8))) = true := by subst hsr; rfl
    rw [e0, cond_true, first_eq k s hs hk hne]
    simp only [Option.bind_some]
    have hl : (tokO s (tok1 s)).2.1.length = (tok1 s).2.1 := by
      show (s.take (tok1 s).2.1).length = _
      rw [List.length_take]; omega
    rw [hl, cond_dec (by rw [List.length_append]; simp only [List.length_cons, List.length_nil, most]; omega), cond_dec (by omega)]
    have e3 : ((tok1 s).2.1 : Int).toNat = (tok1 s).2.1 := rfl
    rw [e3, cut_loop k K n _ _ (by rw [List.length_drop]; omega) (by rw [List.length_drop]; omega) (by rw [List.length_drop]; omega)
      (by rw [List.length_drop, List.length_append]; simp only [List.length_cons, List.length_nil]; omega)]
    have e4 : toks s = mk (tokO s (tok1 s)) :: toks (s.drop (tok1 s).2.1) := by
      unfold toks; rw [cutP_cons s hne]; rfl
    rw [e4, List.append_assoc]
    rfl

theorem Cut_eq (k : Nat) (s : List UInt8) (hs : s.length ≤ 100000) (hk : s.length + 4 < k) : csstok_Cut k s = some (toks s) := by
  unfold csstok_Cut
  rw [cut_loop k _ k s [] hs hk (by omega) (by simpa using hs)]
  rfl

end Go.Ev.Vp

-- from EvVpC
set_option linter.unusedVariables false
set_option linter.unusedSimpArgs false
namespace Go.Ev.Vp
open Go Go.Ev.Tok
theorem at' (L : List Tk) (i : Nat) (t : Tk) (r : List Tk) (h : L.drop i = t :: r) :
    i < L.length ∧ (L.map mk).getD i S77.d = mk t ∧ L.drop (i + 1) = r ∧ t ∈ L := by
  have hi : i < L.length := by
    rcases Nat.lt_or_ge i L.length with h1 | h1
    · exact h1
    · rw [List.drop_eq_nil_of_le h1] at h; cases h
  rw [List.drop_eq_getElem_cons hi] at h
  simp only [List.cons.injEq] at h
  refine ⟨hi, ?_, h.2, ?_⟩
  · rw [List.getD_eq_getElem?_getD, List.getElem?_map, List.getElem?_eq_getElem hi, h.1]; rfl
  · rw [← h.1]; exact List.getElem_mem hi

theorem silent_eq (k : Nat) (t : Tk) : cssrule_silent k t.1 t.2.1 t.2.2.1 t.2.2.2 = some (silT t) := by
  unfold cssrule_silent silT
  cases t.1 == 8 <;> rfl

/-- Tokens that can be read: none is without bytes, none is too long, and there are not too many. -/
structure Fit (L : List Tk) : Prop where
  ne : ∀ t ∈ L, t.2.1 ≠ []
  sz : ∀ t ∈ L, t.2.1.length ≤ 100000
  va : ∀ t ∈ L, t.2.2.1.length ≤ 100000
  len : L.length ≤ 100000

theorem Fit.sub {L M : List Tk} (h : Fit L) (hs : M.Sublist L) : Fit M :=
  ⟨fun t ht => h.ne t (hs.subset ht), fun t ht => h.sz t (hs.subset ht), fun t ht => h.va t (hs.subset ht), Nat.le_trans hs.length_le h.len⟩

theorem Fit.drop {L : List Tk} (h : Fit L) (n : Nat) : Fit (L.drop n) := h.sub (List.drop_sublist n L)
theorem Fit.take {L : List Tk} (h : Fit L) (n : Nat) : Fit (L.take n) := h.sub (List.take_sublist n L)

theorem Fit.cut (s : List UInt8) (h : s.length ≤ 100000) : Fit (cutP s) := by
  have hr := cutP_raw _ s (Nat.le_refl _)
  have hz : ∀ t ∈ cutP s, t.2.1.length ≤ s.length := by
    intro t ht
    have : t.2.1.Sublist (rw (cutP s)) := List.sublist_flatten_of_mem (List.mem_map_of_mem (f := fun t : Tk => t.2.1) ht)
    rw [rw_cut] at this
    exact this.length_le
  refine ⟨hr.2, fun t ht => by have := hz t ht; omega, fun t ht => by have := hz t ht; have := cut_val _ s (Nat.le_refl _) t ht; omega, by have := cutP_len _ s (Nat.le_refl _); omega⟩

theorem rw_sub {L M : List Tk} (h : M.Sublist L) : (rw M).length ≤ (rw L).length := by
  induction h with
  | slnil => simp
  | cons a h ih => rw [rw_cons, List.length_append]; omega
  | cons_cons a h ih => rw [rw_cons, rw_cons, List.length_append, List.length_append]; omega
theorem Head_loop (k : Nat) (L : List Tk) (h : Fit L) (hr : (rw L).length + L.length ≤ 1000000) (K : List UInt8 → Option (List UInt8)) : ∀ (n i : Nat) (gap : Bool) (acc : List UInt8), i ≤ L.length → L.length - i < n →
    (gap = true → acc ≠ []) → acc.length + (rw (L.drop i)).length + (L.length - i) ≤ 1000000 →
    cssrule_Head.c9 k n gap (L.map mk) (L.length : Int) (i : Int) acc K = K (acc ++ hdP (!acc.isEmpty) gap (L.drop i))
  | 0, i, _, _, _, h, _, _ => by omega
  | n + 1, i, gap, acc, hi, hn, hg, hm => by
    have hl := h.len
    unfold cssrule_Head.c9
    simp only [List.length_map, Int.toNat_natCast]
    match hd : L.drop i with
    | [] =>
      have hi2 : i = L.length := by
        have := congrArg List.length hd
        simp at this; omega
      rw [cond_ndec (by omega)]
      show K acc = K (acc ++ [])
      rw [List.append_nil]
    | t :: r =>
      obtain ⟨h1, h2, h3, h4⟩ := at' L i t r hd
      have w1 : IntKind.wrap .i64 ((i : Int) + 1) = ((i + 1 : Nat) : Int) := by rw [wrap_i64 (by omega) (by omega)]; omega
      rw [hd, rw_cons, List.length_append] at hm
      have hmr : (rw (L.drop (i + 1))).length = (rw r).length := by rw [h3]
      rw [cond_dec (by omega), cond_dec (by omega), h2, show cssrule_silent k (mk t).Kind (mk t).Raw (mk t).Value (mk t).Num = some (silT t) from silent_eq k t]
      simp only [Option.bind_some, w1]
      rw [hdP]
      cases hs : silT t with
      | true =>
        simp only [cond_true]
        show cssrule_Head.c9 k n (decide ((acc.length : Int) > 0)) (L.map mk) (L.length : Int) ((i + 1 : Nat) : Int) acc K = _
        have hg2 : (decide ((acc.length : Int) > 0)) = !acc.isEmpty := by
          cases acc with
          | nil => rfl
          | cons a b => simp
        rw [hg2, Head_loop k L h hr K n (i + 1) (!acc.isEmpty) acc (by omega) (by omega) (by intro e; cases acc <;> simp at e ⊢) (by omega), h3]
      | false =>
        simp only [cond_false]
        have hne : t.2.1 ≠ [] := h.ne t h4
        have hws : ∀ (x : List UInt8), x.length + t.2.1.length ≤ 1000000 → f__strings_Builder__WriteString k t.2.1 x = some ((t.2.1.length : Int), x ++ t.2.1) := by
          intro x hx
          unfold f__strings_Builder__WriteString
          rw [wStr_ok x t.2.1 (by unfold blMax; omega)]
          rfl
        have hnn : ∀ x : List UInt8, x ++ t.2.1 ≠ [] := by intro x e; exact hne (List.append_eq_nil_iff.1 e).2
        have hem : ∀ x : List UInt8, (!(x ++ t.2.1).isEmpty) = true := by
          intro x
          cases hx : x ++ t.2.1 with
          | nil => exact absurd hx (hnn x)
          | cons a b => rfl
        unfold cssrule_Head.c20
        cases gap with
        | false =>
          simp only [cond_false]
          rw [show f__strings_Builder__WriteString k (mk t).Raw acc = _ from hws acc (by omega)]
          simp only [Option.bind_some, w1]
          rw [Head_loop k L h hr K n (i + 1) false (acc ++ t.2.1) (by omega) (by omega) (by intro e; cases e) (by rw [List.length_append]; omega), h3, hem]
          simp
        | true =>
          simp only [cond_true]
          have hb : f__strings_Builder__WriteByte k 32 acc = some (acc ++ [32]) := wByte_at acc 32 (by omega)
          rw [hb]
          simp only [Option.bind_some]
          rw [show f__strings_Builder__WriteString k (mk t).Raw (acc ++ [32]) = _ from hws (acc ++ [32]) (by rw [List.length_append]; simp only [List.length_cons, List.length_nil]; omega)]
          simp only [Option.bind_some, w1]
          rw [Head_loop k L h hr K n (i + 1) false (acc ++ [32] ++ t.2.1) (by omega) (by omega) (by intro e; cases e)
            (by rw [List.length_append, List.length_append]; simp only [List.length_cons, List.length_nil]; omega), h3, hem]
          simp [List.append_assoc]

theorem Head_eq (k : Nat) (hk : 100001 < k) (L : List Tk) (h : Fit L) (hr : (rw L).length ≤ 100000) : cssrule_Head k (L.map mk) = some (hdP false false L) := by
  have hl := h.len
  unfold cssrule_Head
  rw [List.length_map]
  have := Head_loop k L h (by omega) (fun y32 => (f__strings_Builder__String k y32).bind fun r33 => some r33.1) k 0 false [] (by omega) (by omega) (by intro e; cases e) (by simp; omega)
  rw [List.drop_zero] at this
  rw [show (0 : Int) = ((0 : Nat) : Int) from rfl, this]
  rfl
theorem fold_eq (k : Nat) (t : Tk) (s : List UInt8) (h : t.2.2.1.length ≤ 100000) (hs : (s.all foldC && s.length.blt 4294967281) = true) : strings_EqualFold k t.2.2.1 s = some (fldT t s) := by
  rw [Bool.and_eq_true] at hs
  unfold strings_EqualFold foldS
  rw [hs.1, hs.2]
  have : t.2.2.1.length.blt 4294967281 = true := by simp [Nat.blt_eq]; omega
  rw [this]
  rfl


end Go.Ev.Vp

-- from EvVpA
set_option linter.unusedVariables false
set_option linter.unusedSimpArgs false
set_option maxRecDepth 100000
namespace Go.Ev.Vp
open Go Go.Ev.Tok

def varT (t : Tk) : Bool := t.1 == 2 && fldT t [118, 97, 114]

theorem isVar_eq (k : Nat) (t : Tk) (h : t.2.2.1.length ≤ 100000) : vars_isVar k t.1 t.2.1 t.2.2.1 t.2.2.2 = some (varT t) := by
  unfold vars_isVar varT
  rw [fold_eq k t [118, 97, 114] h (by decide)]
  cases t.1 == 2 <;> rfl

theorem closer_some (k : Nat) (t : Tk) (h : t.2.1 ≠ []) (hl : t.2.1.length ≤ 100000) : ∃ c, vars_closer k t.1 t.2.1 t.2.2.1 t.2.2.2 = some c := by
  unfold vars_closer
  have hp : 0 < t.2.1.length := List.length_pos_iff.2 h
  have w : IntKind.wrap .i64 ((t.2.1.length : Int) - 1) = ((t.2.1.length - 1 : Nat) : Int) := by rw [wrap_i64 (by omega) (by omega)]; omega
  simp only [w]
  rw [cond_dec (by omega)]
  generalize (((t.2.1.getD (((t.2.1.length - 1 : Nat) : Int)).toNat 0).toNat : Int) == (91 : Int)) = p
  generalize (((t.2.1.getD (((t.2.1.length - 1 : Nat) : Int)).toNat 0).toNat : Int) == (123 : Int)) = q
  cases p <;> cases q <;> exact ⟨_, rfl⟩

def Res (L : List Tk) (x : Option Int) : Prop := ∃ r : Nat, x = some (r : Int) ∧ (r = 0 ∨ (2 ≤ r ∧ r ≤ L.length))

theorem closed_loop (k : Nat) (L : List Tk) (h : Fit L) : ∀ (n i : Nat) (w : List (List UInt8)), w ≠ [] → 1 ≤ i → i ≤ L.length → L.length - i < n → w.length ≤ i →
    Res L (vars_closed.c7 k n (L.map mk) (L.length : Int) (i : Int) w (some (0 : Int)))
  | 0, i, w, _, _, _, h, _ => by omega
  | n + 1, i, w, hw, hi1, hi, hn, hwl => by
    have hl := h.len
    unfold vars_closed.c7
    simp only [List.length_map, Int.toNat_natCast]
    match hd : L.drop i with
    | [] =>
      have hi2 : i = L.length := by
        have := congrArg List.length hd
        simp at this; omega
      rw [cond_ndec (by omega)]
      exact ⟨0, rfl, .inl rfl⟩
    | t :: r =>
      obtain ⟨h1, h2, h3, h4⟩ := at' L i t r hd
      have w1 : IntKind.wrap .i64 ((i : Int) + 1) = ((i + 1 : Nat) : Int) := by rw [wrap_i64 (by omega) (by omega)]; omega
      have hc24 : ∀ w' : List (List UInt8), w'.length ≤ i + 1 → Res L (vars_closed.c24 k (i : Int) (L.map mk) (L.length : Int) (i : Int) w' (fun (y15 : List S77) (y16 : Int) (y17 : Int) (y18 : List (List UInt8)) =>
          vars_closed.c7 k n y15 y16 (IntKind.wrap .i64 (y17 + (1 : Int))) y18 (some (0 : Int)))) := by
        intro w' hw'
        unfold vars_closed.c24
        simp only [w1]
        cases hz : ((w'.length : Int) == (0 : Int)) with
        | true => exact ⟨i + 1, rfl, .inr ⟨by omega, by omega⟩⟩
        | false =>
          simp only [cond_false]
          have hne : w' ≠ [] := by intro e; subst e; simp at hz
          exact closed_loop k L h n (i + 1) w' hne (by omega) (by omega) (by omega) hw'
      rw [cond_dec (by omega), cond_dec (by omega), h2]
      obtain ⟨c, hcl⟩ := closer_some k t (h.ne t h4) (h.sz t h4)
      rw [show vars_closer k (mk t).Kind (mk t).Raw (mk t).Value (mk t).Num = some c from hcl]
      simp only [Option.bind_some]
      have hwp : 0 < w.length := List.length_pos_iff.2 hw
      have wl : IntKind.wrap .i64 ((w.length : Int) - 1) = ((w.length - 1 : Nat) : Int) := by rw [wrap_i64 (by omega) (by omega)]; omega
      have hpush : Res L (cond (decide ((w ++ [c]).length < most)) (vars_closed.c24 k (i : Int) (L.map mk) (L.length : Int) (i : Int) (w ++ [c]) (fun (y15 : List S77) (y16 : Int) (y17 : Int) (y18 : List (List UInt8)) =>
          vars_closed.c7 k n y15 y16 (IntKind.wrap .i64 (y17 + (1 : Int))) y18 (some (0 : Int)))) none) := by
        rw [cond_dec (by rw [List.length_append]; simp only [List.length_cons, List.length_nil]; unfold most; omega)]
        exact hc24 _ (by rw [List.length_append]; simp only [List.length_cons, List.length_nil]; omega)
      have hpop : Res L (cond (decide (0 ≤ ((w.length - 1 : Nat) : Int) ∧ ((w.length - 1 : Nat) : Int) < (w.length : Int))) (cond ((mk t).Raw == w.getD ((w.length - 1 : Nat) : Int).toNat [])
          (cond (decide (0 ≤ ((w.length - 1 : Nat) : Int) ∧ ((w.length - 1 : Nat) : Int) ≤ (w.length : Int))) (vars_closed.c24 k (i : Int) (L.map mk) (L.length : Int) (i : Int) ((w.drop 0).take ((w.length - 1 : Nat) : Int).toNat) (fun (y15 : List S77) (y16 : Int) (y17 : Int) (y18 : List (List UInt8)) =>
          vars_closed.c7 k n y15 y16 (IntKind.wrap .i64 (y17 + (1 : Int))) y18 (some (0 : Int)))) none)
          (vars_closed.c24 k (i : Int) (L.map mk) (L.length : Int) (i : Int) w (fun (y15 : List S77) (y16 : Int) (y17 : Int) (y18 : List (List UInt8)) =>
          vars_closed.c7 k n y15 y16 (IntKind.wrap .i64 (y17 + (1 : Int))) y18 (some (0 : Int))))) none) := by
        rw [cond_dec (by omega), cond_dec (by omega)]
        cases (mk t).Raw == w.getD ((w.length - 1 : Nat) : Int).toNat [] with
        | true => exact hc24 _ (by simp only [List.drop_zero, List.length_take]; omega)
        | false => exact hc24 _ (by omega)
      simp only [wl]
      cases (mk t).Kind == (10 : Int) with
      | true => exact hpush
      | false =>
        cases (mk t).Kind == (2 : Int) with
        | true => exact hpush
        | false =>
          cases (mk t).Kind == (11 : Int) with
          | true => exact hpop
          | false => exact hc24 w (by omega)

theorem closed_ok (k : Nat) (hk : 100001 < k) (t : Tk) (r : List Tk) (h : Fit (t :: r)) (ht : (t.1 == 2) = true) : Res (t :: r) (vars_closed k ((t :: r).map mk)) := by
  obtain ⟨k, rfl⟩ : ∃ m, k = m + 1 := ⟨k - 1, by omega⟩
  have hl := h.len
  have h10 : (t.1 == 10) = false := by rw [eq_of_beq ht]; rfl
  unfold vars_closed vars_closed.c7
  have e1 : (decide ((0 : Int) < ((((t :: r).map mk).length : Nat) : Int))) = true := decide_eq_true (by simp only [List.length_map, List.length_cons]; omega)
  have e2 : (decide (0 ≤ (0 : Int) ∧ (0 : Int) < ((((t :: r).map mk).length : Nat) : Int))) = true := decide_eq_true (by simp only [List.length_map, List.length_cons]; omega)
  have e3 : ((t :: r).map mk).getD (0 : Int).toNat S77.d = mk t := rfl
  simp only [e1, e2, e3, cond_true]
  rw [show ((mk t).Kind == (10 : Int)) = false from h10, show ((mk t).Kind == (2 : Int)) = true from ht]
  obtain ⟨c, hcl⟩ := closer_some (k + 1) t (h.ne t (by simp)) (h.sz t (by simp))
  simp only [cond_true, cond_false]
  rw [show vars_closer (k + 1) (mk t).Kind (mk t).Raw (mk t).Value (mk t).Num = some c from hcl]
  simp only [Option.bind_some, List.nil_append]
  rw [cond_dec (by simp only [List.length_cons, List.length_nil]; unfold most; omega)]
  unfold vars_closed.c24
  rw [show ((([c] : List (List UInt8)).length : Int) == (0 : Int)) = false from rfl]
  simp only [cond_false]
  have := closed_loop (k + 1) (t :: r) h k 1 [c] (by simp) (Nat.le_refl _) (by simp) (by omega) (by simp)
  rw [List.length_map]
  exact this

theorem silent_eq' (k : Nat) (t : Tk) : vars_silent k t.1 t.2.1 t.2.2.1 t.2.2.2 = some (silT t) := by
  unfold vars_silent silT
  cases t.1 == 8 <;> rfl

theorem asked3 (k : Nat) (K : List S77 → Option (List UInt8 × List S77 × Bool × Bool)) : ∀ (n : Nat) (L : List Tk), L.length ≤ 100000 → L.length < n → vars_asked.c3 k n (L.map mk) K = K ((L.dropWhile silT).map mk)
  | 0, L, _, h => by omega
  | n + 1, [], _, _ => by
    unfold vars_asked.c3
    rfl
  | n + 1, t :: r, hl, h => by
    unfold vars_asked.c3
    simp only [List.length_cons] at hl h
    have e1 : (decide (((((t :: r).map mk).length : Nat) : Int) > 0)) = true := decide_eq_true (by simp only [List.length_map, List.length_cons]; omega)
    have e2 : (decide (0 ≤ (0 : Int) ∧ (0 : Int) < ((((t :: r).map mk).length : Nat) : Int))) = true := decide_eq_true (by simp only [List.length_map, List.length_cons]; omega)
    have e3 : ((t :: r).map mk).getD (0 : Int).toNat S77.d = mk t := rfl
    simp only [e1, e2, e3, Bool.true_or, cond_true]
    rw [show vars_silent k (mk t).Kind (mk t).Raw (mk t).Value (mk t).Num = some (silT t) from silent_eq' k t]
    simp only [Option.bind_some, List.dropWhile_cons]
    cases hs : silT t with
    | false => rfl
    | true =>
      simp only [cond_true, if_true]
      rw [cond_dec (by simp only [List.length_map, List.length_cons]; omega)]
      exact asked3 k K n r (by omega) (by omega)

theorem asked15 (k : Nat) (nm : List UInt8) (K : List S77 → List UInt8 → Option (List UInt8 × List S77 × Bool × Bool)) : ∀ (n : Nat) (L : List Tk), L.length ≤ 100000 → L.length < n → vars_asked.c15 k n (L.map mk) nm K = K ((L.dropWhile silT).map mk) nm
  | 0, L, _, h => by omega
  | n + 1, [], _, _ => by
    unfold vars_asked.c15
    rfl
  | n + 1, t :: r, hl, h => by
    unfold vars_asked.c15
    simp only [List.length_cons] at hl h
    have e1 : (decide (((((t :: r).map mk).length : Nat) : Int) > 0)) = true := decide_eq_true (by simp only [List.length_map, List.length_cons]; omega)
    have e2 : (decide (0 ≤ (0 : Int) ∧ (0 : Int) < ((((t :: r).map mk).length : Nat) : Int))) = true := decide_eq_true (by simp only [List.length_map, List.length_cons]; omega)
    have e3 : ((t :: r).map mk).getD (0 : Int).toNat S77.d = mk t := rfl
    simp only [e1, e2, e3, Bool.true_or, cond_true]
    rw [show vars_silent k (mk t).Kind (mk t).Raw (mk t).Value (mk t).Num = some (silT t) from silent_eq' k t]
    simp only [Option.bind_some, List.dropWhile_cons]
    cases hs : silT t with
    | false => rfl
    | true =>
      simp only [cond_true, if_true]
      rw [cond_dec (by simp only [List.length_map, List.length_cons]; omega)]
      exact asked15 k nm K n r (by omega) (by omega)

theorem asked_ok (k : Nat) (hk : 100001 < k) (L : List Tk) (h : L.length ≤ 100000) : ∃ (nm : List UInt8) (M : List Tk) (b c : Bool), vars_asked k (L.map mk) = some (nm, M.map mk, b, c) ∧ M.Sublist L := by
  unfold vars_asked
  rw [asked3 k _ k L h (by omega)]
  have hs := List.dropWhile_sublist silT (l := L)
  generalize L.dropWhile silT = M at hs
  match M, hs with
  | [], _ => exact ⟨[], [], false, false, rfl, List.nil_sublist _⟩
  | t :: r, hs =>
    have hl : (t :: r).length ≤ L.length := hs.length_le
    have e0 : ((((((t :: r).map mk).length : Nat) : Int)) == 0) = false := by simp only [List.length_map, List.length_cons]; rw [beq_eq_false_iff_ne]; omega
    have e2 : (decide (0 ≤ (0 : Int) ∧ (0 : Int) < ((((t :: r).map mk).length : Nat) : Int))) = true := decide_eq_true (by simp only [List.length_map, List.length_cons]; omega)
    have e5 : (decide (0 ≤ (1 : Int) ∧ (1 : Int) ≤ ((((t :: r).map mk).length : Nat) : Int))) = true := decide_eq_true (by simp only [List.length_map, List.length_cons]; omega)
    have e3 : ((t :: r).map mk).getD (0 : Int).toNat S77.d = mk t := rfl
    have e4 : ((t :: r).map mk).drop (1 : Int).toNat = r.map mk := rfl
    simp only [e0, e2, e3, e4, e5, Bool.true_or, cond_true, cond_false]
    cases hn : ((mk t).Kind != (1 : Int)) with
    | true => exact ⟨[], [], false, false, rfl, List.nil_sublist _⟩
    | false =>
      simp only [cond_false]
      have hr : r.length ≤ 100000 := by simp only [List.length_cons] at hl; omega
      rw [asked15 k _ _ k r hr (by omega)]
      have hs2 := (List.dropWhile_sublist silT (l := r)).trans ((List.sublist_cons_self t r).trans hs)
      generalize r.dropWhile silT = N at hs2
      match N, hs2 with
      | [], _ => exact ⟨_, [], false, true, rfl, List.nil_sublist _⟩
      | u :: q, hs2 =>
        have e0 : ((((((u :: q).map mk).length : Nat) : Int)) == 0) = false := by simp only [List.length_map, List.length_cons]; rw [beq_eq_false_iff_ne]; omega
        have e2 : (decide (0 ≤ (0 : Int) ∧ (0 : Int) < ((((u :: q).map mk).length : Nat) : Int))) = true := decide_eq_true (by simp only [List.length_map, List.length_cons]; omega)
        have e5 : (decide (0 ≤ (1 : Int) ∧ (1 : Int) ≤ ((((u :: q).map mk).length : Nat) : Int))) = true := decide_eq_true (by simp only [List.length_map, List.length_cons]; omega)
        have e3 : ((u :: q).map mk).getD (0 : Int).toNat S77.d = mk u := rfl
        have e4 : ((u :: q).map mk).drop (1 : Int).toNat = q.map mk := rfl
        simp only [e0, e2, e3, e4, e5, Bool.true_or, cond_true, cond_false]
        generalize (cond ((mk u).Kind != (12 : Int)) true (!((mk u).Raw == ([44] : List UInt8)))) = z
        cases z with
        | true => exact ⟨[], [], false, false, rfl, List.nil_sublist _⟩
        | false => exact ⟨_, q, true, true, rfl, (List.sublist_cons_self u q).trans hs2⟩

end Go.Ev.Vp

-- from EvVpB
set_option linter.unusedVariables false
set_option linter.unusedSimpArgs false
set_option maxRecDepth 100000
namespace Go.Ev.Vp
open Go Go.Ev.Tok

/-- Memory's reach, and a text's bound. -/
def R0 : Nat := 140737488351232

theorem hdP_len : ∀ (l : List Tk) (a b : Bool), (∀ t ∈ l, t.2.1 ≠ []) → (hdP a b l).length ≤ (rw l).length + (bif b then 1 else 0)
  | [], a, b, _ => by simp [hdP]
  | t :: r, a, b, h => by
    have hp : 0 < t.2.1.length := List.length_pos_iff.2 (h t (by simp))
    have hr : ∀ u ∈ r, u.2.1 ≠ [] := fun u hu => h u (by simp [hu])
    rw [hdP, rw_cons, List.length_append]
    cases silT t with
    | true =>
      simp only [cond_true]
      have := hdP_len r a a hr
      cases a <;> cases b <;> simp only [cond_true, cond_false] at this ⊢ <;> omega
    | false =>
      simp only [cond_false]
      have := hdP_len r true false hr
      cases b <;> simp only [cond_true, cond_false, List.length_append, List.length_cons, List.length_nil] at this ⊢ <;> omega

theorem lastF_len {f1 f2 : S40 → List UInt8} {B : Nat} (name : List UInt8) : ∀ l : List S40, (∀ x ∈ l, (f2 x).length ≤ B) → (Bw.lastF f1 f2 name l).1.length ≤ B
  | [], _ => Nat.zero_le _
  | x :: r, h => by
    rw [Bw.lastF]
    cases f1 x == name with
    | true => exact h x (by simp)
    | false => exact lastF_len name r fun y hy => h y (by simp [hy])

/-- What is asked of the values by names. -/
structure Vs (vs : List S40) : Prop where
  len : vs.length ≤ 1000
  val : ∀ x ∈ vs, x.2.length ≤ R0

theorem last_ok (k : Nat) {vs : List S40} (h : Vs vs) (nm : List UInt8) : ∃ o, vars_last k vs nm = some o ∧ o.1.length ≤ R0 := by
  refine ⟨Bw.lastF (fun x : S40 => x.1) (fun x : S40 => x.2) nm vs.reverse, ?_, ?_⟩
  · unfold vars_last Bw.lastS
    rw [show Nat.ble vs.length 281474976710656 = true from Nat.ble_eq_true_of_le (by have := h.len; omega)]
    rfl
  · exact lastF_len nm _ fun x hx => h.val x (by simpa using hx)

theorem put_ok (k : Nat) (hk : 100001 < k) (r : vars_Fill.G.R) {vs : List S40} (hv : Vs vs) (L : List Tk) (h : Fit L) (m : Nat) (hm : (rw L).length ≤ m) (hm2 : m ≤ 100000)
    (hr : ∀ s : List UInt8, s.length ≤ m → ∃ o, r.vars_Fill s vs = some o ∧ o.1.length ≤ R0) : ∃ o, vars_put.nat k r (L.map mk) vs = some o ∧ o.1.length ≤ R0 := by
  obtain ⟨nm, M, b, c, ha, hs⟩ := asked_ok k hk L h.len
  unfold vars_put.nat
  rw [ha]
  simp only [Option.bind_some]
  cases c with
  | false => exact ⟨_, rfl, Nat.zero_le _⟩
  | true =>
    simp only [Bool.not_true, cond_false]
    obtain ⟨o, ho, hl⟩ := last_ok k hv nm
    rw [ho]
    simp only [Option.bind_some]
    cases o.2 with
    | true => exact ⟨_, rfl, hl⟩
    | false =>
      simp only [cond_false]
      cases b with
      | false => exact ⟨_, rfl, Nat.zero_le _⟩
      | true =>
        have hM := rw_sub hs
        have hf := h.sub hs
        simp only [Bool.not_true, cond_false]
        rw [Head_eq k hk M hf (by omega)]
        simp only [Option.bind_some]
        have := hdP_len M false false hf.ne
        simp only [cond_false] at this
        obtain ⟨o', h1, h2⟩ := hr (hdP false false M) (by omega)
        rw [h1]
        exact ⟨_, rfl, h2⟩

theorem wStr_some (k : Nat) (s a : List UInt8) (h : a.length + s.length ≤ 140737488355328) : f__strings_Builder__WriteString k s a = some ((s.length : Int), a ++ s) := by
  unfold f__strings_Builder__WriteString
  rw [wStr_ok a s (by unfold blMax; omega)]
  rfl

/-- One value's tokens, from one on. -/
theorem fill_loop (k : Nat) (hk : 100001 < k) (r : vars_Fill.G.R) {vs : List S40} (hv : Vs vs) (L : List Tk) (h : Fit L) (hm : (rw L).length ≤ 1000)
    (hr : ∀ M : List Tk, M.Sublist L → (rw M).length < (rw L).length → ∃ o, r.vars_put (M.map mk) vs = some o ∧ o.1.length ≤ R0)
    (K : List UInt8 → Option (List UInt8 × Bool)) (hK : ∀ a : List UInt8, a.length ≤ 3000 → ∃ o, K a = some o ∧ o.1.length ≤ R0) : ∀ (n i : Nat) (acc : List UInt8), i ≤ L.length → L.length - i < n → acc.length + (rw (L.drop i)).length ≤ 3000 →
    ∃ o, vars_Fill.c13 k r n vs (i : Int) (L.map mk) acc K = some o ∧ o.1.length ≤ R0
  | 0, i, acc, _, h, _ => by omega
  | n + 1, i, acc, hi, hn, hac => by
    have hl := h.len
    unfold vars_Fill.c13
    simp only [List.length_map, Int.toNat_natCast]
    match hd : L.drop i with
    | [] =>
      have hi2 : i = L.length := by
        have := congrArg List.length hd
        simp at this; omega
      rw [cond_ndec (by omega)]
      exact hK acc (by omega)
    | t :: q =>
      obtain ⟨h1, h2, h3, h4⟩ := at' L i t q hd
      have hne : 0 < t.2.1.length := List.length_pos_iff.2 (h.ne t h4)
      have w1 : IntKind.wrap .i64 ((i : Int) + 1) = ((i + 1 : Nat) : Int) := by rw [wrap_i64 (by omega) (by omega)]; omega
      have hd2 := rw_sub (List.drop_sublist i L)
      rw [hd, rw_cons, List.length_append] at hac hd2
      rw [cond_dec (by omega), cond_dec (by omega), h2, show vars_isVar k (mk t).Kind (mk t).Raw (mk t).Value (mk t).Num = some (varT t) from isVar_eq k t (h.va t h4)]
      simp only [Option.bind_some]
      cases hvt : varT t with
      | false =>
        simp only [Bool.not_false, cond_true]
        rw [cond_dec (by omega), show f__strings_Builder__WriteString k (mk t).Raw acc = _ from wStr_some k t.2.1 acc (by omega)]
        simp only [Option.bind_some, w1]
        exact fill_loop k hk r hv L h hm hr K hK n (i + 1) (acc ++ t.2.1) (by omega) (by omega) (by rw [List.length_append, h3]; omega)
      | true =>
        simp only [Bool.not_true, cond_false]
        rw [cond_dec (by omega)]
        have hdr : ((L.map mk).drop (0 + i)).take (L.length - i) = (t :: q).map mk := by
          rw [Nat.zero_add, ← List.map_drop, hd, List.take_of_length_le]
          have := congrArg List.length hd
          simp only [List.length_map, List.length_drop] at this ⊢; omega
        rw [hdr]
        have hfq : Fit (t :: q) := by rw [← hd]; exact h.drop i
        have hlq : (t :: q).length = L.length - i := by rw [← hd, List.length_drop]
        have ht2 : (t.1 == 2) = true := by unfold varT at hvt; rw [Bool.and_eq_true] at hvt; exact hvt.1
        obtain ⟨z, hz, hz2⟩ := closed_ok k hk t q hfq ht2
        rw [hz]
        simp only [Option.bind_some]
        rcases hz2 with rfl | ⟨hz2, hz3⟩
        · exact ⟨_, rfl, Nat.zero_le _⟩
        · have hz0 : ((z : Int) == (0 : Int)) = false := by rw [beq_eq_false_iff_ne]; omega
          have w2 : IntKind.wrap .i64 ((i : Int) + (z : Int)) = ((i + z : Nat) : Int) := by rw [wrap_i64 (by omega) (by omega)]; omega
          have w3 : IntKind.wrap .i64 (((i + z : Nat) : Int) - 1) = ((i + z - 1 : Nat) : Int) := by rw [wrap_i64 (by omega) (by omega)]; omega
          rw [hz0]
          simp only [cond_false, w1, w2, w3, Int.toNat_natCast]
          rw [cond_dec (by omega)]
          have hsl : ((L.map mk).drop (0 + (i + 1))).take (i + z - 1 - (i + 1)) = ((q.take (z - 2)).map mk) := by
            rw [Nat.zero_add, ← List.map_drop, h3, ← List.map_take]
            congr 2; omega
          rw [hsl]
          have hsq : (q.take (z - 2)).Sublist L := (List.take_sublist _ _).trans ((List.sublist_cons_self t q).trans (by rw [← hd]; exact List.drop_sublist i L))
          have hlen1 := rw_sub (List.take_sublist (z - 2) q)
          obtain ⟨o, ho, hol⟩ := hr (q.take (z - 2)) hsq (by omega)
          rw [ho]
          simp only [Option.bind_some]
          cases o.2 with
          | false => exact ⟨_, rfl, Nat.zero_le _⟩
          | true =>
            simp only [Bool.not_true, cond_false]
            unfold R0 at hol
            rw [wStr_some k o.1 acc (by omega)]
            simp only [Option.bind_some]
            unfold f__strings_Builder__Len
            simp only [Option.bind_some]
            by_cases hbig : (((acc ++ o.1).length : Int) > 400)
            · rw [cond_dec hbig]; exact ⟨_, rfl, Nat.zero_le _⟩
            · rw [cond_ndec hbig]
              have hd3 := rw_sub (List.drop_sublist (i + z) L)
              exact fill_loop k hk r hv L h hm hr K hK n (i + z) (acc ++ o.1) (by omega) (by omega) (by omega)

theorem end_ok (k : Nat) (a : List UInt8) : ((f__strings_Builder__String k a).bind fun r10 => (f__strings_Builder__Len k r10.2).bind fun r11 => some (r10.1, (decide (r11.1 ≤ (400 : Int))))) = some (a, decide ((a.length : Int) ≤ 400)) := rfl

theorem rec_ok (k : Nat) (hk : 100001 < k) {vs : List S40} (hv : Vs vs) : ∀ (j m : Nat) (s : List UInt8), s.length ≤ j → j ≤ 400 → 2 * j + 1 ≤ m → ∃ o, (vars_Fill.G.rec k m).vars_Fill s vs = some o ∧ o.1.length ≤ R0
  | j, 0, s, _, _, h => by omega
  | j, n + 1, s, hs, hj, hm => by
    show ∃ o, vars_Fill.nat k (vars_Fill.G.rec k n) s vs = some o ∧ o.1.length ≤ R0
    unfold vars_Fill.nat
    rw [show (decide ((s.length : Int) > 400)) = false from decide_eq_false (by omega)]
    simp only [cond_false]
    rw [Cut_eq k s (by omega) (by omega)]
    simp only [Option.bind_some]
    have hf := Fit.cut s (by omega)
    have hrw := rw_cut s
    refine fill_loop k hk _ hv (cutP s) hf (by rw [hrw]; omega) (fun M hM hlt => ?_) _ (fun a ha => ⟨_, end_ok k a, by show a.length ≤ 140737488351232; omega⟩) k 0 [] (Nat.zero_le _) (by have := hf.len; omega) (by rw [List.drop_zero, hrw]; simp; omega)
    rw [hrw] at hlt
    obtain ⟨n', rfl⟩ : ∃ n', n = n' + 1 := ⟨n - 1, by omega⟩
    show ∃ o, vars_put.nat k (vars_Fill.G.rec k n') (M.map mk) vs = some o ∧ o.1.length ≤ R0
    exact put_ok k hk _ hv M (hf.sub hM) (j - 1) (by omega) (by omega) fun s' hs' => rec_ok k hk hv (j - 1) n' s' hs' (by omega) (by omega)
termination_by j m => m

theorem Fill_ok (k : Nat) (hk : 100001 < k) {vs : List S40} (hv : Vs vs) (s : List UInt8) : ∃ o, vars_Fill k s vs = some o := by
  by_cases hs : s.length ≤ 400
  · obtain ⟨o, h, _⟩ := rec_ok k hk hv 400 k s hs (Nat.le_refl _) (by omega)
    exact ⟨o, h⟩
  · obtain ⟨n, rfl⟩ : ∃ n, k = n + 1 := ⟨k - 1, by omega⟩
    refine ⟨([], false), ?_⟩
    show vars_Fill.nat (n + 1) (vars_Fill.G.rec (n + 1) n) s vs = _
    unfold vars_Fill.nat
    rw [show (decide ((s.length : Int) > 400)) = true from decide_eq_true (by omega)]
    rfl

/-- Tokens that ask for nothing. -/
theorem plain_loop (k : Nat) (r : vars_Fill.G.R) (vs : List S40) (L : List Tk) (h : Fit L) (hp : ∀ t ∈ L, varT t = false) (K : List UInt8 → Option (List UInt8 × Bool)) : ∀ (n i : Nat) (acc : List UInt8), i ≤ L.length → L.length - i < n → acc.length + (rw (L.drop i)).length ≤ 3000 →
    vars_Fill.c13 k r n vs (i : Int) (L.map mk) acc K = K (acc ++ rw (L.drop i))
  | 0, i, acc, _, h, _ => by omega
  | n + 1, i, acc, hi, hn, hac => by
    have hl := h.len
    unfold vars_Fill.c13
    simp only [List.length_map, Int.toNat_natCast]
    match hd : L.drop i with
    | [] =>
      have hi2 : i = L.length := by
        have := congrArg List.length hd
        simp at this; omega
      rw [cond_ndec (by omega), rw_nil, List.append_nil]
    | t :: q =>
      obtain ⟨h1, h2, h3, h4⟩ := at' L i t q hd
      have w1 : IntKind.wrap .i64 ((i : Int) + 1) = ((i + 1 : Nat) : Int) := by rw [wrap_i64 (by omega) (by omega)]; omega
      rw [hd, rw_cons, List.length_append] at hac
      rw [cond_dec (by omega), cond_dec (by omega), h2, show vars_isVar k (mk t).Kind (mk t).Raw (mk t).Value (mk t).Num = some (varT t) from isVar_eq k t (h.va t h4), hp t h4]
      simp only [Option.bind_some, Bool.not_false, cond_true]
      rw [cond_dec (by omega), show f__strings_Builder__WriteString k (mk t).Raw acc = _ from wStr_some k t.2.1 acc (by omega)]
      simp only [Option.bind_some, w1]
      rw [plain_loop k r vs L h hp K n (i + 1) (acc ++ t.2.1) (by omega) (by omega) (by rw [List.length_append, h3]; omega), h3, rw_cons, List.append_assoc]

theorem Fill_plain (k : Nat) (hk : 100001 < k) (vs : List S40) (s : List UInt8) (hp : ∀ t ∈ cutP s, varT t = false) : vars_Fill k s vs = some (bif decide (s.length ≤ 400) then (s, true) else ([], false)) := by
  obtain ⟨n, rfl⟩ : ∃ n, k = n + 1 := ⟨k - 1, by omega⟩
  show vars_Fill.nat (n + 1) (vars_Fill.G.rec (n + 1) n) s vs = _
  unfold vars_Fill.nat
  by_cases hs : s.length ≤ 400
  · rw [show (decide ((s.length : Int) > 400)) = false from decide_eq_false (by omega)]
    simp only [cond_false]
    rw [Cut_eq (n + 1) s (by omega) (by omega)]
    simp only [Option.bind_some]
    have hf := Fit.cut s (by omega)
    have := plain_loop (n + 1) (vars_Fill.G.rec (n + 1) n) vs (cutP s) hf hp (fun a => (f__strings_Builder__String (n + 1) a).bind fun r10 => (f__strings_Builder__Len (n + 1) r10.2).bind fun r11 => some (r10.1, (decide (r11.1 ≤ (400 : Int))))) (n + 1) 0 [] (Nat.zero_le _) (by have := hf.len; omega) (by rw [List.drop_zero, rw_cut]; simp; omega)
    rw [List.drop_zero, rw_cut, List.nil_append] at this
    rw [decide_eq_true hs]
    refine this.trans ?_
    show some (s, decide ((s.length : Int) ≤ 400)) = _
    rw [decide_eq_true (by omega : (s.length : Int) ≤ 400)]
    rfl
  · rw [show (decide ((s.length : Int) > 400)) = true from decide_eq_true (by omega), decide_eq_false hs]
    rfl

theorem tok1_fun (s : List UInt8) (h : (tok1 s).1 = 2) : ∃ j, (tok1 s).2.1 = j + 1 ∧ hd1 (s.drop j) 40 = true := by
  unfold tok1 at h ⊢
  by_cases c1 : cnt isBlank s > 0
  · rw [if_pos c1] at h; cases h
  rw [if_neg c1] at h ⊢
  cases c2 : hd1 s 47 && hd1 (s.drop 1) 42 with
  | true => rw [c2] at h; cases h
  | false =>
  rw [c2] at h
  simp only [cond_false] at h ⊢
  cases c3 : hd1 s 39 || hd1 s 34 with
  | true =>
    rw [c3] at h
    cases c4 : (tx (s.getD 0 0) (s.drop 1)).1 <;> rw [c4] at h <;> cases h
  | false =>
  rw [c3] at h
  simp only [cond_false] at h ⊢
  cases c5 : hd1 s 35 && decide (1 < s.length) && (isSg (s.getD 1 0) || esc (s.drop 1)) with
  | true => rw [c5] at h; cases h
  | false =>
  rw [c5] at h
  simp only [cond_false] at h ⊢
  cases c6 : hd1 s 64 && bg (s.drop 1) with
  | true => rw [c6] at h; cases h
  | false =>
  rw [c6] at h
  simp only [cond_false] at h ⊢
  by_cases c7 : nlen s > 0
  · rw [if_pos c7] at h
    unfold numT at h
    cases c9 : hd1 (s.drop (nlen s)) 37 with
    | true => rw [c9] at h; cases h
    | false =>
      rw [c9] at h
      cases c10 : bg (s.drop (nlen s)) <;> rw [c10] at h <;> cases h
  rw [if_neg c7] at h ⊢
  cases c8 : bg s with
  | true =>
    rw [c8] at h
    simp only [cond_true] at h ⊢
    unfold nameT at h ⊢
    cases c9 : hd1 (s.drop (nm s).2) 40 with
    | true => exact ⟨_, rfl, c9⟩
    | false => rw [c9] at h; cases h
  | false =>
    rw [c8] at h
    simp only [cond_false] at h
    unfold oneK at h
    generalize (s.getD 0 0 == 40 || s.getD 0 0 == 91 || s.getD 0 0 == 123) = p at h
    generalize (s.getD 0 0 == 41 || s.getD 0 0 == 93 || s.getD 0 0 == 125) = q at h
    generalize (s.getD 0 0 == 92) = r at h
    cases p <;> cases q <;> cases r <;> cases h

/-- A token that opens has a bracket. -/
theorem fun_has : ∀ (n : Nat) (s : List UInt8), s.length ≤ n → ∀ t ∈ cutP s, (t.1 == 2) = true → (40 : UInt8) ∈ t.2.1
  | 0, s, h, t, ht, _ => by
    have : s = [] := List.length_eq_zero_iff.1 (by omega)
    subst this
    simp [cutP_nil] at ht
  | n + 1, s, h, t, ht, h2 => by
    by_cases hs : s = []
    · subst hs; simp [cutP_nil] at ht
    · rw [cutP_cons s hs] at ht
      have hp := (tok1_ok s hs).1
      rcases List.mem_cons.1 ht with rfl | ht
      · have h2 := eq_of_beq h2
        unfold tokO at h2 ⊢
        simp only at h2 ⊢
        obtain ⟨j, hj, hd⟩ := tok1_fun s h2
        rw [hj]
        have hl := hd1_pos hd
        rw [List.length_drop] at hl
        have : s[j]'(by omega) = 40 := by
          rw [List.drop_eq_getElem_cons (by omega)] at hd
          exact eq_of_beq hd
        exact List.mem_of_getElem? (i := j) (by rw [List.getElem?_take_of_lt (by omega), List.getElem?_eq_getElem (by omega), this])
      · exact fun_has n _ (by rw [List.length_drop]; have : 0 < s.length := List.length_pos_iff.2 hs; omega) t ht h2

end Go.Ev.Vp

-- from EvVpL
set_option linter.unusedVariables false
set_option linter.unusedSimpArgs false
set_option maxRecDepth 100000
namespace Go.Ev.Vp
open Go Go.Ev.Tok

theorem has_loop (k : Nat) (s : List UInt8) (hs : s.length ≤ R0) : ∀ (n i : Nat), i ≤ s.length → s.length - i < n → clerestorykeep2_hasText.c5 k n s [40] (i : Int) (some false) = some ((s.drop i).any (· == 40))
  | 0, i, _, h => by omega
  | n + 1, i, hi, hn => by
    unfold R0 at hs
    unfold clerestorykeep2_hasText.c5
    have w1 : IntKind.wrap .i64 ((i : Int) + ((([40] : List UInt8).length : Nat) : Int)) = ((i + 1 : Nat) : Int) := by
      show IntKind.wrap .i64 ((i : Int) + 1) = _
      rw [wrap_i64 (by omega) (by omega)]; omega
    have w2 : IntKind.wrap .i64 ((i : Int) + 1) = ((i + 1 : Nat) : Int) := by rw [wrap_i64 (by omega) (by omega)]; omega
    simp only [w1, w2, Int.toNat_natCast]
    by_cases hlt : i < s.length
    · rw [cond_dec (by omega), cond_dec (by omega)]
      have e : (s.take (i + 1)).drop i = [s[i]] := by
        rw [List.take_succ_eq_append_getElem hlt, List.drop_append_of_le_length (by rw [List.length_take]; omega), List.drop_eq_nil_of_le (by rw [List.length_take]; omega)]
        rfl
      rw [e, List.drop_eq_getElem_cons hlt, List.any_cons]
      cases hc : s[i] == (40 : UInt8) with
      | true =>
        have : ([s[i]] == ([40] : List UInt8)) = true := by rw [eq_of_beq hc]; rfl
        rw [this]; rfl
      | false =>
        have : ([s[i]] == ([40] : List UInt8)) = false := by
          rw [beq_eq_false_iff_ne] at hc ⊢
          intro e2; exact hc (by simpa using e2)
        rw [this]
        simp only [cond_false, Bool.false_or]
        exact has_loop k s (by unfold R0; omega) n (i + 1) (by omega) (by omega)
    · rw [cond_ndec (by omega), List.drop_eq_nil_of_le (by omega)]
      rfl

theorem has_eq (k : Nat) (s : List UInt8) (hs : s.length ≤ R0) (hk : s.length < k) : clerestorykeep2_hasText k s [40] = some (s.any (· == 40)) := by
  unfold clerestorykeep2_hasText
  have := has_loop k s hs k 0 (Nat.zero_le _) (by omega)
  rw [List.drop_zero] at this
  exact this

/-- Fuel. -/
def K0 : Nat := 140737488361232

theorem put_fact : clerestorykeep2_put K0 = some true := by kernel_rfl

def ask : List UInt8 := [86, 65, 82, 40, 32, 45, 45, 97, 32, 47, 42, 42, 47, 32, 41]

theorem fill_ask (vs : List S40) : vars_Fill K0 ask vs = ((Bw.lastS (fun x : S40 => x.1) (fun x : S40 => x.2) vs [45, 45, 97]).bind fun r4 =>
    cond r4.2 (some (r4.1, true)) (some (([] : List UInt8), false))).bind fun r16 =>
    cond (!r16.2) (some (([] : List UInt8), false)) (
    (f__strings_Builder__WriteString K0 r16.1 []).bind fun r7 =>
    (f__strings_Builder__Len K0 r7.2).bind fun r8 =>
    cond (decide (r8.1 > (400 : Int))) (some (([] : List UInt8), false)) (
    (f__strings_Builder__String K0 r8.2).bind fun r10 =>
    (f__strings_Builder__Len K0 r10.2).bind fun r11 =>
    some (r10.1, (decide (r11.1 ≤ (400 : Int)))))) := by kernel_rfl

theorem no_fun (s : List UInt8) (h : s.any (· == 40) = false) : ∀ t ∈ cutP s, varT t = false := by
  intro t ht
  unfold varT
  cases h2 : t.1 == 2 with
  | false => rfl
  | true =>
    exfalso
    have h3 := fun_has _ s (Nat.le_refl _) t ht h2
    have h4 : (40 : UInt8) ∈ rw (cutP s) := List.mem_flatten.2 ⟨t.2.1, List.mem_map_of_mem (f := fun t : Tk => t.2.1) ht, h3⟩
    rw [rw_cut] at h4
    have : s.any (· == 40) = true := List.any_eq_true.2 ⟨40, h4, rfl⟩
    rw [this] at h; cases h

/-- What comes of a value that is asked for by its name alone. -/
def askR (w : List UInt8) : List UInt8 × Bool := bif decide (w.length ≤ 400) then (w, true) else ([], false)

theorem ask_of (vs : List S40) (w : List UInt8) (hw : w.length ≤ R0) (h : Bw.lastS (fun x : S40 => x.1) (fun x : S40 => x.2) vs [45, 45, 97] = some (w, true)) : vars_Fill K0 ask vs = some (askR w) := by
  unfold R0 at hw
  rw [fill_ask, h]
  simp only [Option.bind_some, cond_true, Bool.not_true, cond_false]
  rw [wStr_some K0 w [] (by simp; omega)]
  simp only [Option.bind_some, List.nil_append]
  unfold f__strings_Builder__Len
  simp only [Option.bind_some]
  unfold askR
  by_cases hl : w.length ≤ 400
  · rw [cond_ndec (by omega), decide_eq_true hl]
    unfold f__strings_Builder__String
    simp only [Option.bind_some, cond_true]
    rw [decide_eq_true (by omega : (w.length : Int) ≤ 400)]
  · rw [cond_dec (by omega), decide_eq_false hl]
    rfl

theorem last_fact (k : Nat) (w : List UInt8) : clerestorykeep2_VarPlain.c18 k true (askR w).1 (askR w).2 w = some true := by
  unfold clerestorykeep2_VarPlain.c18 askR
  by_cases hl : w.length ≤ 400
  · rw [decide_eq_true hl]
    simp only [cond_true]
    rw [decide_eq_true (by omega : (w.length : Int) ≤ 400)]
    simp
  · rw [decide_eq_false hl]
    simp only [cond_false]
    rw [decide_eq_false (by omega : ¬ (w.length : Int) ≤ 400)]
    simp

theorem law (s n v : List UInt8) (hs : s.length ≤ R0) (hv : v.length ≤ R0) : clerestorykeep2_VarPlain K0 s n v = some true := by
  have hk : 100001 < K0 := by decide
  unfold clerestorykeep2_VarPlain
  rw [put_fact]
  simp only [Option.bind_some]
  rw [has_eq K0 s hs (by unfold R0 at hs; unfold K0; omega)]
  obtain ⟨o, ho, hx⟩ : ∃ o, vars_Fill K0 s [(⟨n, v⟩ : S40)] = some o ∧ (cond (!(s.any (· == 40))) (cond (!(o.2 == (decide ((s.length : Int) ≤ (400 : Int))))) true (cond o.2 (!(o.1 == s)) false)) false) = false := by
    cases hb : s.any (· == 40) with
    | true =>
      obtain ⟨o, ho⟩ := Fill_ok K0 hk (vs := [(⟨n, v⟩ : S40)]) ⟨by simp, fun x hx => by rw [List.mem_singleton.1 hx]; exact hv⟩ s
      exact ⟨o, ho, rfl⟩
    | false =>
      refine ⟨_, Fill_plain K0 hk _ s (no_fun s hb), ?_⟩
      by_cases hl : s.length ≤ 400
      · rw [decide_eq_true hl, decide_eq_true (by omega : (s.length : Int) ≤ 400)]
        simp
      · rw [decide_eq_false hl, decide_eq_false (by omega : ¬ (s.length : Int) ≤ 400)]
        simp
  rw [ho]
  simp only [Option.bind_some]
  rw [hx]
  simp only [cond_false]
  have hl : Bw.lastS (fun x : S40 => x.1) (fun x : S40 => x.2) [(⟨([45, 45, 97] : List UInt8), v⟩ : S40), (⟨n, s⟩ : S40)] [45, 45, 97] = some (cond (n == [45, 45, 97]) s v, true) := by
    show some (bif n == [45, 45, 97] then (s, true) else (v, true)) = _
    cases n == [45, 45, 97] <;> rfl
  cases hn : n == ([45, 45, 97] : List UInt8) with
  | true =>
    rw [hn] at hl
    rw [show vars_Fill K0 ([86, 65, 82, 40, 32, 45, 45, 97, 32, 47, 42, 42, 47, 32, 41] : List UInt8) _ = some (askR s) from ask_of _ s hs hl]
    exact last_fact K0 s
  | false =>
    rw [hn] at hl
    rw [show vars_Fill K0 ([86, 65, 82, 40, 32, 45, 45, 97, 32, 47, 42, 42, 47, 32, 41] : List UInt8) _ = some (askR v) from ask_of _ v hv hl]
    exact last_fact K0 v

theorem plain_ex (s n v : List UInt8) (hs : s.length ≤ reachBytes) (hn : n.length ≤ reachBytes) (hv : v.length ≤ reachBytes) : ∃ k, clerestorykeep2_VarPlain k s n v = some true := ⟨K0, law s n v hs hv⟩

end Go.Ev.Vp
