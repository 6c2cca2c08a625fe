/- The first token of a text is the first token of any longer beginning of it: in plain words, no Go in sight; no condition beyond those that each theorem names. -/
import Derived.Test.YtdnnaneifaoooaaDoorEvTkS
set_option linter.unusedVariables false
set_option linter.unusedSimpArgs false
namespace Go.Ev.Tok

theorem cnt_take (p : UInt8 → Bool) : ∀ (s : List UInt8) (m : Nat), cnt p (s.take m) = min m (cnt p s)
  | [], m => by simp [cnt]
  | a :: r, 0 => by simp [cnt]
  | a :: r, m + 1 => by
    have ih := cnt_take p r m
    unfold cnt at ih ⊢
    rw [List.take_succ_cons, List.takeWhile_cons, List.takeWhile_cons]
    cases p a <;> simp
    omega

theorem hd1_take (s : List UInt8) (m : Nat) (c : UInt8) : hd1 (s.take m) c = (decide (0 < m) && hd1 s c) := by
  cases s with
  | nil => simp [hd1]
  | cons a r => cases m <;> simp [hd1]

theorem nm_take : ∀ (s : List UInt8) (m : Nat), (nm s).2 ≤ m → nm (s.take m) = nm s
  | [], m, _ => by simp
  | [c], 0, h => by
    unfold nm at h
    cases hc : isSg c with
    | true => rw [hc] at h; simp at h
    | false => simp [nm, hc]
  | [c], m + 1, h => by simp
  | c :: d :: r, 0, h => by
    have e : nm (c :: d :: r) = bif c == 92 && d != 10 then (d :: (nm r).1, (nm r).2 + 2) else bif isSg c then (c :: (nm (d :: r)).1, (nm (d :: r)).2 + 1) else ([], 0) := by rw [nm]
    rw [e] at h ⊢
    cases h1 : (c == 92 && d != 10) with
    | true => rw [h1] at h; simp at h
    | false =>
      rw [h1] at h
      cases h2 : isSg c with
      | true => rw [h2] at h; simp at h
      | false => rfl
  | c :: d :: r, 1, h => by
    have e : nm (c :: d :: r) = bif c == 92 && d != 10 then (d :: (nm r).1, (nm r).2 + 2) else bif isSg c then (c :: (nm (d :: r)).1, (nm (d :: r)).2 + 1) else ([], 0) := by rw [nm]
    rw [e] at h ⊢
    cases h1 : (c == 92 && d != 10) with
    | true => rw [h1] at h; simp at h
    | false =>
      rw [h1] at h
      simp only [cond_false] at h ⊢
      cases h2 : isSg c with
      | true =>
        rw [h2] at h
        simp only [cond_true] at h ⊢
        have h3 : nm (d :: r) = ([], 0) := by
          have h4 := nm_len (d :: r)
          have h5 : (nm (d :: r)).2 = 0 := by omega
          have h6 : (nm (d :: r)).1 = [] := List.length_eq_zero_iff.1 (by omega)
          exact Prod.ext h6 h5
        rw [h3]
        simp [nm, h2]
      | false => simp [nm, h2]
  | c :: d :: r, m + 2, h => by
    have e : ∀ r, nm (c :: d :: r) = bif c == 92 && d != 10 then (d :: (nm r).1, (nm r).2 + 2) else bif isSg c then (c :: (nm (d :: r)).1, (nm (d :: r)).2 + 1) else ([], 0) := by intro r; rw [nm]
    rw [e] at h ⊢
    rw [List.take_succ_cons, List.take_succ_cons, e]
    cases h1 : (c == 92 && d != 10) with
    | true =>
      rw [h1] at h
      simp only [cond_true] at h ⊢
      rw [nm_take r m (by omega)]
    | false =>
      rw [h1] at h
      simp only [cond_false] at h ⊢
      cases h2 : isSg c with
      | true =>
        rw [h2] at h
        simp only [cond_true] at h ⊢
        have := nm_take (d :: r) (m + 1) (by omega)
        rw [List.take_succ_cons] at this
        rw [this]
      | false => rfl

theorem tx_take (q : UInt8) : ∀ (s : List UInt8) (m : Nat), (tx q s).2.1 ≤ m → tx q (s.take m) = tx q s
  | [], m, _ => by simp
  | [c], 0, h => by
    unfold tx at h
    cases h1 : (c == q) with
    | true => rw [h1] at h; simp at h
    | false =>
      cases h2 : (c == 10) with
      | true => simp [tx, h1, h2]
      | false => rw [h1, h2] at h; simp at h
  | [c], m + 1, h => by simp
  | c :: d :: r, 0, h => by
    have e : tx q (c :: d :: r) = bif c == q then (true, 1, []) else bif c == 10 then (false, 0, []) else
      bif c == 92 then ((tx q r).1, (tx q r).2.1 + 2, d :: (tx q r).2.2) else ((tx q (d :: r)).1, (tx q (d :: r)).2.1 + 1, c :: (tx q (d :: r)).2.2) := by rw [tx]
    rw [e] at h ⊢
    cases h1 : (c == q) with
    | true => rw [h1] at h; simp at h
    | false =>
      rw [h1] at h
      cases h2 : (c == 10) with
      | true => rfl
      | false =>
        rw [h2] at h
        cases h3 : (c == 92) <;> rw [h3] at h <;> simp at h
  | c :: d :: r, 1, h => by
    have e : tx q (c :: d :: r) = bif c == q then (true, 1, []) else bif c == 10 then (false, 0, []) else
      bif c == 92 then ((tx q r).1, (tx q r).2.1 + 2, d :: (tx q r).2.2) else ((tx q (d :: r)).1, (tx q (d :: r)).2.1 + 1, c :: (tx q (d :: r)).2.2) := by rw [tx]
    rw [e] at h ⊢
    cases h1 : (c == q) with
    | true => simp [tx, h1]
    | false =>
      rw [h1] at h
      cases h2 : (c == 10) with
      | true => simp [tx, h1, h2]
      | false =>
        rw [h2] at h
        cases h3 : (c == 92) with
        | true => rw [h3] at h; simp at h
        | false =>
          rw [h3] at h
          simp only [cond_false] at h ⊢
          have h4 : (tx q (d :: r)).2.1 = 0 := by omega
          have h5 : tx q (d :: r) = (false, 0, []) := by
            have := tx_take q (d :: r) 0 (by omega)
            rw [← this]; rfl
          rw [h5]
          simp [tx, h1, h2]
  | c :: d :: r, m + 2, h => by
    have e : ∀ r, tx q (c :: d :: r) = bif c == q then (true, 1, []) else bif c == 10 then (false, 0, []) else
      bif c == 92 then ((tx q r).1, (tx q r).2.1 + 2, d :: (tx q r).2.2) else ((tx q (d :: r)).1, (tx q (d :: r)).2.1 + 1, c :: (tx q (d :: r)).2.2) := by intro r; rw [tx]
    rw [e] at h ⊢
    rw [List.take_succ_cons, List.take_succ_cons, e]
    cases h1 : (c == q) with
    | true => rfl
    | false =>
      rw [h1] at h
      cases h2 : (c == 10) with
      | true => rfl
      | false =>
        rw [h2] at h
        cases h3 : (c == 92) with
        | true =>
          rw [h3] at h
          simp only [cond_true, cond_false] at h ⊢
          rw [tx_take q r m (by omega)]
        | false =>
          rw [h3] at h
          simp only [cond_true, cond_false] at h ⊢
          have := tx_take q (d :: r) (m + 1) (by omega)
          rw [List.take_succ_cons] at this
          rw [this]

theorem sgn_take (s : List UInt8) (m : Nat) (h : 1 ≤ m) : sgn (s.take m) = sgn s := by
  cases s with
  | nil => simp
  | cons a r => cases m with
    | zero => omega
    | succ m => rfl

theorem drop_take' (s : List UInt8) (m i : Nat) : (s.take m).drop i = (s.drop i).take (m - i) := by
  rw [List.drop_take]

theorem whl_take (s : List UInt8) (m : Nat) (h : 1 ≤ m) : whl (s.take m) = min (m - sgn s) (whl s) := by
  unfold whl
  rw [sgn_take s m h, drop_take', cnt_take]

theorem frc_take (l : List UInt8) (j : Nat) : frc (l.take j) = min (j - 1) (frc l) := by
  cases l with
  | nil => simp [frc]
  | cons a r =>
    cases j with
    | zero => simp [frc]
    | succ j =>
      have e : ∀ r, frc (a :: r) = bif a == 46 then cnt isDig r else 0 := fun r => rfl
      rw [List.take_succ_cons, e, e]
      cases a == 46
      · simp
      · simp only [cond_true]
        rw [cnt_take]; rfl

theorem num_take (s : List UInt8) (m : Nat) (h : 1 ≤ m) : (nlen s = 0 → nlen (s.take m) = 0) ∧
    (0 < nlen s → nlen s ≤ m → nlen (s.take m) = nlen s ∧ nval (s.take m) = nval s) := by
  have hw := whl_take s m h
  have hg := sgn_take s m h
  have hb : bhd (s.take m) = min (m - (sgn s + min (m - sgn s) (whl s)) - 1) (frc (s.drop (sgn s + min (m - sgn s) (whl s)))) := by
    unfold bhd
    rw [hw, hg, drop_take', frc_take]
  have hs0 := (sgn_le s).2
  refine ⟨fun h0 => ?_, fun h0 hm => ?_⟩
  · have h1 : whl s + bhd s = 0 := by
      unfold nlen at h0
      split at h0
      · assumption
      · split at h0 <;> omega
    have hw0 : whl s = 0 := by omega
    have hb0 : frc (s.drop (sgn s + whl s)) = 0 := by
      have : bhd s = 0 := by omega
      exact this
    rw [hw0] at hw hb hb0
    rw [Nat.min_zero] at hw hb
    rw [hb0, Nat.min_zero] at hb
    unfold nlen
    rw [if_pos (by omega)]
  · have h1 : ¬ (whl s + bhd s = 0) := by
      intro h1
      unfold nlen at h0
      rw [if_pos h1] at h0; omega
    have hn : nlen s = sgn s + whl s + (if bhd s = 0 then 0 else 1 + bhd s) := by
      unfold nlen
      rw [if_neg h1]
    have hm1 : sgn s + whl s ≤ m := by omega
    have ew : min (m - sgn s) (whl s) = whl s := by omega
    rw [ew] at hw hb
    have eb : bhd (s.take m) = bhd s := by
      rw [hb]
      show min _ (bhd s) = bhd s
      by_cases hz : bhd s = 0
      · omega
      · rw [if_neg hz] at hn; omega
    refine ⟨?_, ?_⟩
    · unfold nlen
      rw [hw, eb, hg]
    · have ef : fpart (s.take m) = fpart s := by
        unfold fpart
        rw [eb, hg, hw]
        by_cases hz : bhd s = 0
        · rw [if_pos hz, if_pos hz]
        · rw [if_neg hz] at hn
          rw [if_neg hz, if_neg hz, drop_take', List.take_take]
          congr 1
          omega
      have ew2 : ((s.take m).drop (sgn s)).take (whl s) = (s.drop (sgn s)).take (whl s) := by
        rw [drop_take', List.take_take]
        congr 1
        omega
      have ea : nabs (s.take m) = nabs s := by
        unfold nabs
        rw [hg, hw, ew2, ef]
      have e0 : (s.take m).getD 0 0 = s.getD 0 0 := by
        cases s with
        | nil => simp
        | cons a r => cases m with
          | zero => omega
          | succ m => rfl
      unfold nval
      rw [hw, eb, if_neg h1, if_neg h1, ea, e0]

theorem esc_take (l : List UInt8) (j : Nat) : esc (l.take j) = (decide (2 ≤ j) && esc l) := by
  match l, j with
  | [], j => simp [esc]
  | [a], 0 => simp [esc]
  | [a], j + 1 => simp [esc]
  | a :: b :: r, 0 => simp [esc]
  | a :: b :: r, 1 => simp [esc]
  | a :: b :: r, j + 2 => simp [esc]

theorem bg_cons (a b : UInt8) (r : List UInt8) : bg (a :: b :: r) = bif a == 45 then b == 45 || isSt b || esc (b :: r) else isSt a || esc (a :: b :: r) := rfl

theorem bg_down (l : List UInt8) (j : Nat) (h : bg l = false) : bg (l.take j) = false := by
  match l, j with
  | [], j => simpa using h
  | [a], 0 => rfl
  | [a], j + 1 => simpa using h
  | a :: b :: r, 0 => rfl
  | a :: b :: r, 1 =>
    show isSt a = false
    rw [bg_cons] at h
    cases h2 : (a == 45) with
    | true =>
      have : a = 45 := by simpa using h2
      subst this; decide
    | false =>
      rw [h2, cond_false, Bool.or_eq_false_iff] at h
      exact h.1
  | a :: b :: r, j + 2 =>
    rw [List.take_succ_cons, List.take_succ_cons, bg_cons]
    rw [bg_cons] at h
    have e1 := esc_take (b :: r) (j + 1)
    have e2 := esc_take (a :: b :: r) (j + 2)
    rw [List.take_succ_cons] at e1
    rw [List.take_succ_cons, List.take_succ_cons] at e2
    rw [e1, e2]
    cases h2 : (a == 45) with
    | true =>
      rw [h2, cond_true, Bool.or_eq_false_iff] at h
      rw [cond_true, h.1, h.2]; simp
    | false =>
      rw [h2, cond_false, Bool.or_eq_false_iff] at h
      rw [cond_false, h.1, h.2]; simp

theorem sg45 : isSg 45 = true := by decide

theorem nm_sg (c d : UInt8) (r : List UInt8) (h : (c == 92 && d != 10) = false) (h2 : isSg c = true) : nm (c :: d :: r) = (c :: (nm (d :: r)).1, (nm (d :: r)).2 + 1) := by
  rw [nm, h, h2]; rfl
theorem nm_esc (c d : UInt8) (r : List UInt8) (h : (c == 92 && d != 10) = true) : nm (c :: d :: r) = (d :: (nm r).1, (nm r).2 + 2) := by
  rw [nm, h]; rfl
theorem sg_not92 {c : UInt8} (h : isSg c = true) (d : UInt8) : (c == 92 && d != 10) = false := by
  cases h2 : (c == 92) with
  | false => rfl
  | true =>
    have : c = 92 := by simpa using h2
    subst this
    have e : isSg 92 = false := by decide
    rw [e] at h; cases h

theorem nm_one {c : UInt8} (r : List UInt8) (h : isSg c = true) : 1 ≤ (nm (c :: r)).2 := by
  cases r with
  | nil => simp [nm, h]
  | cons d r => rw [nm_sg c d r (sg_not92 h d) h]; simp

theorem bg_up (l : List UInt8) (j : Nat) (h : bg l = true) (hj : (nm l).2 ≤ j) : bg (l.take j) = true := by
  have hp := bg_nm h
  match l, j with
  | [], j => simpa using h
  | [a], 0 => omega
  | [a], j + 1 => simpa using h
  | a :: b :: r, 0 => omega
  | a :: b :: r, 1 =>
    show isSt a = true
    rw [bg_cons] at h
    cases h2 : (a == 45) with
    | true =>
      have : a = 45 := by simpa using h2
      subst this
      rw [h2, cond_true] at h
      rw [nm_sg 45 b r (sg_not92 sg45 b) sg45] at hj
      simp only at hj
      exfalso
      rw [Bool.or_eq_true, Bool.or_eq_true] at h
      rcases h with (h | h) | h
      · have : b = 45 := by simpa using h
        subst this
        have := nm_one r sg45
        omega
      · have := nm_one r (st_sg h)
        omega
      · match r, h, hj with
        | [], h, _ => simp [esc] at h
        | c :: r, h, hj =>
          rw [nm_esc b c r h] at hj
          simp only at hj; omega
    | false =>
      rw [h2, cond_false, Bool.or_eq_true] at h
      rcases h with h | h
      · exact h
      · rw [nm_esc a b r h] at hj
        simp only at hj; omega
  | a :: b :: r, j + 2 =>
    rw [List.take_succ_cons, List.take_succ_cons, bg_cons]
    rw [bg_cons] at h
    have e1 := esc_take (b :: r) (j + 1)
    have e2 := esc_take (a :: b :: r) (j + 2)
    rw [List.take_succ_cons] at e1
    rw [List.take_succ_cons, List.take_succ_cons] at e2
    rw [e1, e2]
    cases h2 : (a == 45) with
    | true =>
      have : a = 45 := by simpa using h2
      subst this
      rw [h2, cond_true] at h
      rw [cond_true]
      cases hx : (b == 45 || isSt b) with
      | true => rfl
      | false =>
        rw [hx, Bool.false_or] at h
        rw [nm_sg 45 b r (sg_not92 sg45 b) sg45] at hj
        match r, h, hj with
        | [], h, _ => simp [esc] at h
        | c :: r, h, hj =>
          rw [nm_esc b c r h] at hj
          simp only at hj
          rw [h, Bool.and_true, Bool.false_or, decide_eq_true (by omega)]
    | false =>
      rw [h2, cond_false] at h
      rw [cond_false, decide_eq_true (by omega), Bool.true_and]
      exact h

theorem idx_take : ∀ (s : List UInt8) (j : Nat), (Go.Lib.index s [42, 47] ≥ 0 → Go.Lib.index s [42, 47] + 2 ≤ (j : Int) → Go.Lib.index (s.take j) [42, 47] = Go.Lib.index s [42, 47])
  | [], j, h, _ => by simp [Go.Lib.index] at h
  | b :: l, 0, h, hj => by omega
  | b :: l, j + 1, h, hj => by
    rw [List.take_succ_cons]
    have ih := idx_take l j
    unfold Go.Lib.index at h hj ⊢
    by_cases hp : List.isPrefixOf [42, 47] (b :: l) = true
    · rw [if_pos hp] at h hj ⊢
      have : List.isPrefixOf [42, 47] (b :: l.take j) = true := by
        match l, j with
        | [], j => simp [List.isPrefixOf] at hp
        | c :: l, 0 => simp at hj
        | c :: l, j + 1 => simpa [List.isPrefixOf] using hp
      rw [if_pos this]
    · rw [if_neg hp] at h hj
      have hn : ¬ List.isPrefixOf [42, 47] (b :: l.take j) = true := by
        intro hq
        apply hp
        match l, j with
        | [], j => simp [List.isPrefixOf] at hq
        | c :: l, 0 => simp [List.isPrefixOf] at hq
        | c :: l, j + 1 => simpa [List.isPrefixOf] using hq
      rw [if_neg hp, if_neg hn]
      by_cases h1 : (Go.Lib.index l [42, 47] == -1) = true
      · simp [h1] at h
      · have h2 : Go.Lib.index l [42, 47] ≠ -1 := by simpa using h1
        simp only [h1] at h hj
        have hg := Go.Lib.index_ge l [42, 47]
        have e := ih (by omega) (by simp at hj; omega)
        rw [e]

theorem numT_take (s : List UInt8) (m : Nat) (h1 : 1 ≤ m) (h0 : 0 < nlen s) (hm : (numT s).2.1 ≤ m) : numT (s.take m) = numT s := by
  have hp : nlen s ≤ m := by
    unfold numT at hm
    cases h2 : hd1 (s.drop (nlen s)) 37 with
    | true => rw [h2] at hm; simp only [cond_true] at hm; omega
    | false =>
      rw [h2] at hm
      cases h3 : bg (s.drop (nlen s)) <;> rw [h3] at hm <;> simp only [cond_true, cond_false] at hm <;> omega
  obtain ⟨e1, e2⟩ := (num_take s m h1).2 h0 hp
  unfold numT at hm ⊢
  rw [e1, e2, drop_take', hd1_take]
  cases h2 : hd1 (s.drop (nlen s)) 37 with
  | true =>
    rw [h2] at hm; simp only [cond_true] at hm
    rw [decide_eq_true (by omega)]; rfl
  | false =>
    rw [h2] at hm
    rw [Bool.and_false]
    simp only [cond_false] at hm ⊢
    cases h3 : bg (s.drop (nlen s)) with
    | true =>
      rw [h3] at hm; simp only [cond_true] at hm
      rw [bg_up _ _ h3 (by omega), nm_take _ _ (by omega)]
    | false => rw [bg_down _ _ h3]; rfl

theorem nameT_take (s : List UInt8) (m : Nat) (hm : (nameT s).2.1 ≤ m) : nameT (s.take m) = nameT s := by
  have hp : (nm s).2 ≤ m := by
    unfold nameT at hm
    cases h2 : hd1 (s.drop (nm s).2) 40 <;> rw [h2] at hm <;> simp only [cond_true, cond_false] at hm <;> omega
  unfold nameT at hm ⊢
  rw [nm_take s m hp, drop_take', hd1_take]
  cases h2 : hd1 (s.drop (nm s).2) 40 with
  | true =>
    rw [h2] at hm; simp only [cond_true] at hm
    rw [decide_eq_true (by omega)]; rfl
  | false => rw [Bool.and_false]

theorem getD0_take (s : List UInt8) (m : Nat) (h : 1 ≤ m) : (s.take m).getD 0 0 = s.getD 0 0 := by
  cases s with
  | nil => simp
  | cons a r => cases m with
    | zero => omega
    | succ m => rfl

theorem noteN_take (s : List UInt8) (m : Nat) (h2 : 2 ≤ s.length) (hm : noteN s ≤ m) : noteN (s.take m) = noteN s ∧ 2 ≤ m := by
  by_cases hx : Go.Lib.index (s.drop 2) [42, 47] ≥ 0
  · have hn : noteN s = (Go.Lib.index (s.drop 2) [42, 47]).toNat + 4 := by unfold noteN; rw [if_pos hx]
    have e := idx_take (s.drop 2) (m - 2) hx (by omega)
    refine ⟨?_, by omega⟩
    rw [hn]
    unfold noteN
    rw [drop_take', e, if_pos hx]
  · have hn : noteN s = s.length := by unfold noteN; rw [if_neg hx]
    rw [List.take_of_length_le (by omega)]
    exact ⟨rfl, by omega⟩

/-- The first token of a text is the first token of any beginning of it that holds it. -/
theorem tok1_take (s : List UInt8) (hne : s ≠ []) (m : Nat) (hm : (tok1 s).2.1 ≤ m) : tok1 (s.take m) = tok1 s := by
  have h1 : 1 ≤ m := by have := (tok1_ok s hne).1; omega
  have hl : 1 ≤ s.length := by have := (tok1_ok s hne); omega
  have hh : ∀ c, hd1 (s.take m) c = hd1 s c := fun c => by rw [hd1_take, decide_eq_true (by omega), Bool.true_and]
  have hg := getD0_take s m h1
  have hd : (s.take m).drop 1 = (s.drop 1).take (m - 1) := drop_take' s m 1
  have hb : cnt isBlank (s.take m) = min m (cnt isBlank s) := cnt_take _ s m
  unfold tok1 at hm ⊢
  rw [hb, hh, hh, hh, hh, hh, hg, hd]
  by_cases hbl : cnt isBlank s > 0
  · rw [if_pos hbl] at hm ⊢
    have e : min m (cnt isBlank s) = cnt isBlank s := by simp only at hm; omega
    rw [e, if_pos hbl]
  rw [if_neg hbl] at hm ⊢
  rw [if_neg (by omega)]
  rw [hd1_take]
  cases hn : (hd1 s 47 && hd1 (s.drop 1) 42) with
  | true =>
    rw [hn] at hm
    simp only [cond_true] at hm ⊢
    have h2 : 2 ≤ s.length := by
      rw [Bool.and_eq_true] at hn
      have := hd1_pos hn.2
      rw [List.length_drop] at this; omega
    obtain ⟨e, h3⟩ := noteN_take s m h2 hm
    rw [e, decide_eq_true (by omega), Bool.true_and, hn]
    rfl
  | false =>
    rw [hn] at hm
    have hx : (hd1 s 47 && (decide (0 < m - 1) && hd1 (s.drop 1) 42)) = false := by
      cases ha : hd1 s 47 with
      | false => rfl
      | true => rw [ha, Bool.true_and] at hn; rw [hn]; simp
    rw [hx]
    simp only [cond_false] at hm ⊢
    cases hq : (hd1 s 39 || hd1 s 34) with
    | true =>
      rw [hq] at hm
      simp only [cond_true] at hm ⊢
      have e : tx (s.getD 0 0) ((s.drop 1).take (m - 1)) = tx (s.getD 0 0) (s.drop 1) := by
        refine tx_take _ _ _ ?_
        revert hm
        cases (tx (s.getD 0 0) (s.drop 1)).1 <;> simp only [cond_true, cond_false] <;> intro hm <;> omega
      rw [e]
    | false =>
      rw [hq] at hm
      simp only [cond_false] at hm ⊢
      rw [List.length_take]
      cases h35 : (hd1 s 35 && decide (1 < s.length) && (isSg (s.getD 1 0) || esc (s.drop 1))) with
      | true =>
        rw [h35] at hm
        simp only [cond_true] at hm
        rw [Bool.and_eq_true, Bool.and_eq_true] at h35
        obtain ⟨⟨h3, h4⟩, h5⟩ := h35
        have h4 := of_decide_eq_true h4
        match s, h4, h5 with
        | a :: b :: r, _, h5 =>
          have hp : 1 ≤ (nm (b :: r)).2 := by
            have e : ∀ x, (a :: b :: x).getD 1 0 = b := fun x => rfl
            have e2 : ((a :: b :: r).drop 1) = b :: r := rfl
            rw [e, e2] at h5
            cases h6 : isSg b with
            | true => exact nm_one r h6
            | false =>
              rw [h6, Bool.false_or] at h5
              match r, h5 with
              | [], h5 => simp [esc] at h5
              | c :: r, h5 => rw [nm_esc b c r h5]; simp
          have e2 : ((a :: b :: r).drop 1) = b :: r := rfl
          rw [e2] at hm h5 ⊢
          have e3 : ((a :: b :: r).take m).getD 1 0 = (a :: b :: r).getD 1 0 := by
            match m, hm with
            | m + 2, _ => rfl
            | 0, hm => omega
            | 1, hm => omega
          rw [e3, h3, esc_take, nm_take (b :: r) (m - 1) (by omega)]
          have h7 : (true && decide (1 < min m (a :: b :: r).length) && (isSg ((a :: b :: r).getD 1 0) || decide (2 ≤ m - 1) && esc (b :: r))) = true := by
            rw [decide_eq_true (by simp only [List.length_cons]; omega)]
            cases h6 : isSg ((a :: b :: r).getD 1 0) with
            | true => rfl
            | false =>
              rw [h6, Bool.false_or] at h5
              have : 2 ≤ m - 1 := by
                match r, h5, hm with
                | [], h5, _ => simp [esc] at h5
                | c :: r, h5, hm => rw [nm_esc b c r h5] at hm; simp only at hm; omega
              rw [h5, decide_eq_true this]; rfl
          rw [h7]
          rfl
      | false =>
        rw [h35] at hm
        simp only [cond_false] at hm ⊢
        have h35' : (hd1 s 35 && decide (1 < min m s.length) && (isSg ((s.take m).getD 1 0) || esc ((s.drop 1).take (m - 1)))) = false := by
          cases h3 : hd1 s 35 with
          | false => rfl
          | true =>
            rw [h3, Bool.true_and] at h35
            rw [Bool.true_and, esc_take]
            by_cases hm2 : 1 < min m s.length
            · have h4 : 1 < s.length := by omega
              rw [decide_eq_true h4, Bool.true_and, Bool.or_eq_false_iff] at h35
              have e3 : (s.take m).getD 1 0 = s.getD 1 0 := by
                match m, s, hm2 with
                | m + 2, a :: b :: r, _ => rfl
                | 0, s, hm2 => omega
                | 1, s, hm2 => omega
                | m + 2, [], hm2 => simp at hm2
                | m + 2, [a], hm2 => simp at hm2
              rw [e3, h35.1, h35.2]; simp
            · rw [decide_eq_false hm2]; rfl
        rw [h35']
        simp only [cond_false]
        cases h64 : (hd1 s 64 && bg (s.drop 1)) with
        | true =>
          rw [h64] at hm
          simp only [cond_true] at hm ⊢
          rw [Bool.and_eq_true] at h64
          rw [h64.1, bg_up _ _ h64.2 (by omega), nm_take _ _ (by omega)]
          rfl
        | false =>
          rw [h64] at hm
          have h64' : (hd1 s 64 && bg ((s.drop 1).take (m - 1))) = false := by
            cases h6 : hd1 s 64 with
            | false => rfl
            | true => rw [h6, Bool.true_and] at h64; rw [bg_down _ _ h64]; rfl
          rw [h64']
          simp only [cond_false] at hm ⊢
          by_cases hnl : nlen s > 0
          · rw [if_pos hnl] at hm ⊢
            have h9 : nlen s ≤ m := by
              unfold numT at hm
              cases h2 : hd1 (s.drop (nlen s)) 37 with
              | true => rw [h2] at hm; simp only [cond_true] at hm; omega
              | false =>
                rw [h2] at hm
                cases h3 : bg (s.drop (nlen s)) <;> rw [h3] at hm <;> simp only [cond_true, cond_false] at hm <;> omega
            rw [((num_take s m h1).2 hnl h9).1, if_pos hnl, numT_take s m h1 hnl hm]
          · rw [if_neg hnl] at hm ⊢
            rw [(num_take s m h1).1 (by omega), if_neg (by omega)]
            cases hbg : bg s with
            | true =>
              rw [hbg] at hm
              simp only [cond_true] at hm ⊢
              have h8 : (nm s).2 ≤ m := by
                unfold nameT at hm
                cases h2 : hd1 (s.drop (nm s).2) 40 <;> rw [h2] at hm <;> simp only [cond_true, cond_false] at hm <;> omega
              rw [bg_up s m hbg h8, cond_true, nameT_take s m hm]
            | false => rw [bg_down s m hbg]; rfl

/-- A token cut up alone is just that token. -/
theorem cutP_alone : ∀ (n : Nat) (s : List UInt8), s.length ≤ n → ∀ t ∈ cutP s, cutP t.2.1 = [t]
  | 0, s, h, t, ht => by
    have : s = [] := List.length_eq_zero_iff.1 (by omega)
    subst this
    simp [cutP_nil] at ht
  | n + 1, s, h, t, ht => by
    by_cases hs : s = []
    · subst hs; simp [cutP_nil] at ht
    · have h1 := tok1_ok s hs
      rw [cutP_cons s hs, List.mem_cons] at ht
      rcases ht with rfl | ht
      · have hr : (s.take (tok1 s).2.1) ≠ [] := by
          intro e
          have := congrArg List.length e
          rw [List.length_take, List.length_nil] at this; omega
        have e := tok1_take s hs (tok1 s).2.1 (Nat.le_refl _)
        show cutP (s.take (tok1 s).2.1) = _
        rw [cutP_cons _ hr, e]
        have e2 : (s.take (tok1 s).2.1).drop (tok1 s).2.1 = [] := by
          rw [List.drop_eq_nil_iff, List.length_take]; omega
        rw [e2, cutP_nil]
        unfold tokO
        rw [List.take_take, Nat.min_self]
      · exact cutP_alone n (s.drop (tok1 s).2.1) (by rw [List.length_drop]; omega) t ht

end Go.Ev.Tok
