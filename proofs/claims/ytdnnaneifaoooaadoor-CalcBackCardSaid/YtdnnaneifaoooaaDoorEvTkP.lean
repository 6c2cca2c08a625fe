/- A text and another one with a blank between are cut as each by itself: in plain words, no Go in sight; no condition beyond those that each theorem names. -/
import Derived.Test.YtdnnaneifaoooaaDoorEvTkT
set_option linter.unusedVariables false
set_option linter.unusedSimpArgs false
namespace Go.Ev.Tok

/-- A text whose last sign is an escape that is not done. -/
inductive Cr : List UInt8 → Prop
  | one : Cr [92]
  | sg {c : UInt8} {x : List UInt8} : isSg c = true → Cr x → Cr (c :: x)
  | es {d : UInt8} {x : List UInt8} : d ≠ 10 → Cr x → Cr (92 :: d :: x)

theorem cr_ne {x : List UInt8} (h : Cr x) : x ≠ [] := by cases h <;> simp

theorem sg32 : isSg 32 = false := by decide

theorem nm32 (t : List UInt8) : (nm (32 :: t)).2 = 0 := by
  cases t with
  | nil => simp [nm, sg32]
  | cons d r =>
    have : ((32 : UInt8) == 92) = false := by decide
    simp [nm, sg32, this]

theorem nm_cr : ∀ (x t : List UInt8), x.length < (nm (x ++ 32 :: t)).2 → Cr x
  | [], t, h => by rw [List.nil_append, nm32] at h; simp at h
  | [c], t, h => by
    have e : nm ([c] ++ 32 :: t) = bif c == 92 && (32 : UInt8) != 10 then (32 :: (nm t).1, (nm t).2 + 2) else bif isSg c then (c :: (nm (32 :: t)).1, (nm (32 :: t)).2 + 1) else ([], 0) := by
      show nm (c :: 32 :: t) = _
      rw [nm]
    rw [e, nm32] at h
    cases h1 : (c == 92) with
    | true =>
      have : c = 92 := by simpa using h1
      subst this; exact .one
    | false =>
      rw [h1] at h
      simp only [Bool.false_and, cond_false] at h
      cases h2 : isSg c <;> rw [h2] at h <;> simp at h
  | c :: d :: r, t, h => by
    have e : nm (c :: d :: r ++ 32 :: t) = bif c == 92 && d != 10 then (d :: (nm (r ++ 32 :: t)).1, (nm (r ++ 32 :: t)).2 + 2) else bif isSg c then (c :: (nm (d :: r ++ 32 :: t)).1, (nm (d :: r ++ 32 :: t)).2 + 1) else ([], 0) := by
      show nm (c :: d :: (r ++ 32 :: t)) = _
      rw [nm]; rfl
    rw [e] at h
    cases h1 : (c == 92 && d != 10) with
    | true =>
      rw [h1] at h
      simp only [cond_true, List.length_cons] at h
      rw [Bool.and_eq_true] at h1
      have h92 : c = 92 := by simpa using h1.1
      have h10 : d ≠ 10 := by simpa using h1.2
      subst h92
      exact .es h10 (nm_cr r t (by omega))
    | false =>
      rw [h1] at h
      simp only [cond_false] at h
      cases h2 : isSg c with
      | true =>
        rw [h2] at h
        simp only [cond_true, List.length_cons] at h
        exact .sg h2 (nm_cr (d :: r) t (by simp only [List.length_cons]; omega))
      | false => rw [h2] at h; simp at h

theorem cr_nm {x : List UInt8} (h : Cr x) : (nm x).2 + 1 = x.length ∧ x.drop (nm x).2 = [92] := by
  induction h with
  | one => exact ⟨rfl, rfl⟩
  | @sg c x hc hx ih =>
    match x, hx with
    | [], hx => exact absurd rfl (cr_ne hx)
    | d :: r, hx =>
      rw [nm_sg c d r (sg_not92 hc d) hc]
      simp only [List.length_cons] at ih ⊢
      exact ⟨by omega, ih.2⟩
  | @es d x hd hx ih =>
    have : ((92 : UInt8) == 92 && d != 10) = true := by simpa using hd
    rw [nm_esc 92 d x this]
    simp only [List.length_cons] at ih ⊢
    exact ⟨by omega, ih.2⟩

/-- What a sign of a name is not. -/
theorem sg_not {c : UInt8} (h : isSg c = true) : isBlank c = false ∧ (c == 47) = false ∧ (c == 39) = false ∧ (c == 34) = false ∧ (c == 35) = false ∧ (c == 64) = false ∧ (c == 46) = false ∧ (c == 43) = false ∧ (c == 92) = false ∧ (c == 37) = false ∧ (c == 40) = false := by
  have h2 : ∀ n : Fin 256, isSg (UInt8.ofNat n.val) = true → (isBlank (UInt8.ofNat n.val) = false ∧ ((UInt8.ofNat n.val) == 47) = false ∧ ((UInt8.ofNat n.val) == 39) = false ∧ ((UInt8.ofNat n.val) == 34) = false ∧ ((UInt8.ofNat n.val) == 35) = false ∧ ((UInt8.ofNat n.val) == 64) = false ∧ ((UInt8.ofNat n.val) == 46) = false ∧ ((UInt8.ofNat n.val) == 43) = false ∧ ((UInt8.ofNat n.val) == 92) = false ∧ ((UInt8.ofNat n.val) == 37) = false ∧ ((UInt8.ofNat n.val) == 40) = false) := by decide +kernel
  have := h2 ⟨c.toNat, c.toNat_lt⟩
  simp only [UInt8.ofNat_toNat] at this
  exact this h

theorem frc_cons (a : UInt8) (r : List UInt8) : frc (a :: r) = bif a == 46 then cnt isDig r else 0 := rfl
theorem sgn_cons (a : UInt8) (r : List UInt8) : sgn (a :: r) = bif a == 43 || a == 45 then 1 else 0 := rfl

theorem cr_frc {x : List UInt8} (h : Cr x) : frc x = 0 := by
  cases h with
  | one => rfl
  | sg hc hx => rw [frc_cons, (sg_not hc).2.2.2.2.2.2.1]; rfl
  | es hd hx => rfl

theorem cr_dig {x : List UInt8} (h : Cr x) : Cr (x.drop (cnt isDig x)) := by
  induction h with
  | one => exact .one
  | @sg c x hc hx ih =>
    unfold cnt at ih ⊢
    rw [List.takeWhile_cons]
    cases isDig c with
    | true => exact ih
    | false => exact .sg hc hx
  | @es d x hd hx ih =>
    have : cnt isDig (92 :: d :: x) = 0 := by unfold cnt; rw [List.takeWhile_cons]; rfl
    rw [this]; exact .es hd hx

/-- The number of a text. -/
theorem cr_num {x : List UInt8} (h : Cr x) (h0 : 0 < nlen x) : Cr (x.drop (nlen x)) := by
  have key : ∀ y, y = x.drop (sgn x) → Cr y → Cr (x.drop (nlen x)) := by
    intro y hy hc
    have h1 := cr_dig hc
    have e : y.drop (cnt isDig y) = x.drop (sgn x + whl x) := by
      rw [hy, List.drop_drop]; rfl
    have hb : bhd x = 0 := by unfold bhd; rw [← e]; exact cr_frc h1
    have hn : nlen x = sgn x + whl x := by
      unfold nlen at h0 ⊢
      rw [hb] at h0 ⊢
      split
      · rename_i hz; rw [if_pos hz] at h0; omega
      · rfl
    rw [hn, ← e]; exact h1
  cases h with
  | one => exact absurd h0 (by decide)
  | @sg c x hc hx =>
    have h43 := (sg_not hc).2.2.2.2.2.2.2.1
    cases h45 : (c == 45) with
    | true =>
      have : sgn (c :: x) = 1 := by rw [sgn_cons, h43, h45]; rfl
      exact key x (by rw [this]; rfl) hx
    | false =>
      have : sgn (c :: x) = 0 := by rw [sgn_cons, h43, h45]; rfl
      exact key (c :: x) (by rw [this]; rfl) (.sg hc hx)
  | @es d x hd hx =>
    exact key (92 :: d :: x) rfl (.es hd hx)

theorem hd1_92 (c : UInt8) : hd1 [92] c = ((92 : UInt8) == c) := rfl

theorem hd1_cr {x : List UInt8} (h : Cr x) : hd1 x 37 = false ∧ hd1 x 40 = false ∧ hd1 x 47 = false ∧ hd1 x 39 = false ∧ hd1 x 34 = false ∧ hd1 x 35 = false ∧ hd1 x 64 = false ∧ cnt isBlank x = 0 := by
  cases h with
  | one => decide
  | @sg c x hc hx =>
    obtain ⟨a1, a2, a3, a4, a5, a6, a7, a8, a9, a10, a11⟩ := sg_not hc
    refine ⟨a10, a11, a2, a3, a4, a5, a6, ?_⟩
    unfold cnt; rw [List.takeWhile_cons, a1]; rfl
  | @es d x hd hx => exact ⟨rfl, rfl, rfl, rfl, rfl, rfl, rfl, rfl⟩

theorem cr_tok {x : List UInt8} (h : Cr x) : x = [92] ∨ ((tok1 x).2.1 < x.length ∧ Cr (x.drop (tok1 x).2.1)) := by
  obtain ⟨a1, a2, a3, a4, a5, a6, a7, a8⟩ := hd1_cr h
  have hne := cr_ne h
  have e : tok1 x = if nlen x > 0 then numT x else bif bg x then nameT x else (oneK (x.getD 0 0), 1, [], 0) := by
    unfold tok1
    rw [a3, a4, a5, a6, a7, a8]
    rfl
  rw [e]
  obtain ⟨c1, c2⟩ := cr_nm h
  by_cases hn : nlen x > 0
  · rw [if_pos hn]
    have hr := cr_num h hn
    obtain ⟨d1, d2⟩ := cr_nm hr
    have hle := nlen_le x
    have hrl : 0 < (x.drop (nlen x)).length := List.length_pos_iff.2 (cr_ne hr)
    unfold numT
    rw [(hd1_cr hr).1, cond_false]
    right
    rw [List.length_drop] at d1 hrl
    cases hb : bg (x.drop (nlen x)) with
    | true =>
      simp only [cond_true]
      rw [← List.drop_drop, d2]
      exact ⟨by omega, .one⟩
    | false =>
      simp only [cond_false]
      exact ⟨by omega, hr⟩
  · rw [if_neg hn]
    cases hb : bg x with
    | true =>
      simp only [cond_true]
      unfold nameT
      rw [c2]
      have : hd1 [92] 40 = false := rfl
      rw [this, cond_false]
      right
      simp only
      rw [c2]
      exact ⟨by omega, .one⟩
    | false =>
      simp only [cond_false]
      cases h with
      | one => exact .inl rfl
      | @sg c x hc hx =>
        right
        have := List.length_pos_iff.2 (cr_ne hx)
        exact ⟨by simp only [List.length_cons]; omega, hx⟩
      | @es d x hd hx =>
        exfalso
        rw [bg_cons] at hb
        have : esc (92 :: d :: x) = true := by simp [esc, hd]
        rw [this] at hb
        simp at hb

theorem last6 : ∀ (n : Nat) (x : List UInt8), x.length ≤ n → Cr x → ∃ u, (cutP x).getLast? = some u ∧ u.1 = 6
  | 0, x, hn, h => absurd (List.length_eq_zero_iff.1 (by omega)) (cr_ne h)
  | n + 1, x, hn, h => by
    rcases cr_tok h with rfl | ⟨h1, h2⟩
    · exact ⟨(6, [92], [], 0), by decide, rfl⟩
    · have hp := tok1_ok x (cr_ne h)
      obtain ⟨u, hu, h6⟩ := last6 n (x.drop (tok1 x).2.1) (by rw [List.length_drop]; omega) h2
      refine ⟨u, ?_, h6⟩
      rw [cutP_cons x (cr_ne h), List.getLast?_cons, hu]
      rfl

theorem cnt_app (p : UInt8 → Bool) (h : p 32 = false) (t : List UInt8) : ∀ s : List UInt8, cnt p (s ++ 32 :: t) = cnt p s
  | [] => by unfold cnt; rw [List.nil_append, List.takeWhile_cons, h]; rfl
  | a :: r => by
    have ih := cnt_app p h t r
    unfold cnt at ih ⊢
    rw [List.cons_append, List.takeWhile_cons, List.takeWhile_cons]
    cases p a with
    | true => simp only [if_true, List.length_cons]; rw [ih]
    | false => rfl

theorem frc_app (t : List UInt8) (s : List UInt8) : frc (s ++ 32 :: t) = frc s := by
  cases s with
  | nil => rfl
  | cons a r =>
    show (bif a == 46 then cnt isDig (r ++ 32 :: t) else 0) = bif a == 46 then cnt isDig r else 0
    rw [cnt_app isDig (by decide)]

theorem hd1_app (s t : List UInt8) (c : UInt8) (hs : s ≠ []) : hd1 (s ++ 32 :: t) c = hd1 s c := by
  cases s with
  | nil => exact absurd rfl hs
  | cons a r => rfl

theorem hd1_app2 (s t : List UInt8) (c : UInt8) (hc : (32 == c) = false) : hd1 (s ++ 32 :: t) c = hd1 s c := by
  cases s with
  | nil => exact hc
  | cons a r => rfl

theorem sgn_app (s t : List UInt8) (hs : s ≠ []) : sgn (s ++ 32 :: t) = sgn s := by
  cases s with
  | nil => exact absurd rfl hs
  | cons a r => rfl

theorem drop_app (s t : List UInt8) (n : Nat) (h : n ≤ s.length) : (s ++ 32 :: t).drop n = s.drop n ++ 32 :: t := List.drop_append_of_le_length h

theorem whl_app (s t : List UInt8) (hs : s ≠ []) : whl (s ++ 32 :: t) = whl s := by
  unfold whl
  rw [sgn_app s t hs, drop_app s t _ (sgn_le s).1, cnt_app isDig (by decide)]

theorem bhd_app (s t : List UInt8) (hs : s ≠ []) : bhd (s ++ 32 :: t) = bhd s := by
  unfold bhd
  rw [sgn_app s t hs, whl_app s t hs, drop_app s t _ (whl_le s), frc_app]

theorem nlen_app (s t : List UInt8) (hs : s ≠ []) : nlen (s ++ 32 :: t) = nlen s := by
  unfold nlen
  rw [sgn_app s t hs, whl_app s t hs, bhd_app s t hs]

theorem tx_app (q : UInt8) (u : List UInt8) : ∀ x : List UInt8, x.length < (tx q (x ++ u)).2.1 → (tx q x).1 = false ∧ (tx q x).2.1 = x.length
  | [], h => ⟨rfl, rfl⟩
  | [c], h => by
    cases u with
    | nil =>
      have := tx_le q [c]
      simp only [List.append_nil] at h
      omega
    | cons d r =>
      have e : tx q ([c] ++ d :: r) = bif c == q then (true, 1, []) else bif c == 10 then (false, 0, []) else
        bif c == 92 then ((tx q r).1, (tx q r).2.1 + 2, d :: (tx q r).2.2) else ((tx q (d :: r)).1, (tx q (d :: r)).2.1 + 1, c :: (tx q (d :: r)).2.2) := by
        show tx q (c :: d :: r) = _
        rw [tx]
      rw [e] at h
      unfold tx
      cases h1 : (c == q) with
      | true => rw [h1] at h; simp at h
      | false =>
        rw [h1] at h
        cases h2 : (c == 10) with
        | true => rw [h2] at h; simp at h
        | false => exact ⟨rfl, rfl⟩
  | c :: d :: r, h => by
    have e : ∀ r, tx q (c :: d :: r) = bif c == q then (true, 1, []) else bif c == 10 then (false, 0, []) else
        bif c == 92 then ((tx q r).1, (tx q r).2.1 + 2, d :: (tx q r).2.2) else ((tx q (d :: r)).1, (tx q (d :: r)).2.1 + 1, c :: (tx q (d :: r)).2.2) := by
        intro r; rw [tx]
    have e2 : tx q (c :: d :: r ++ u) = tx q (c :: d :: (r ++ u)) := rfl
    rw [e2, e] at h
    rw [e]
    cases h1 : (c == q) with
    | true => rw [h1] at h; simp at h
    | false =>
      rw [h1] at h
      cases h2 : (c == 10) with
      | true => rw [h2] at h; simp at h
      | false =>
        rw [h2] at h
        cases h3 : (c == 92) with
        | true =>
          rw [h3] at h
          simp only [cond_true, cond_false, List.length_cons] at h ⊢
          have ih := tx_app q u r (by omega)
          exact ⟨ih.1, by rw [ih.2]⟩
        | false =>
          rw [h3] at h
          simp only [cond_true, cond_false, List.length_cons] at h ⊢
          have ih := tx_app q u (d :: r) (by simp only [List.length_cons, List.cons_append]; omega)
          exact ⟨ih.1, by rw [ih.2]; rfl⟩

theorem pre_app (x u : List UInt8) (h : List.isPrefixOf [42, 47] x = true) : List.isPrefixOf [42, 47] (x ++ u) = true := by
  match x with
  | [] => simp [List.isPrefixOf] at h
  | [a] => simp [List.isPrefixOf] at h
  | a :: b :: r => simpa [List.isPrefixOf] using h

theorem idx_app (u : List UInt8) : ∀ x : List UInt8, Go.Lib.index x [42, 47] ≥ 0 → Go.Lib.index (x ++ u) [42, 47] = Go.Lib.index x [42, 47]
  | [], h => by simp [Go.Lib.index] at h
  | b :: l, h => by
    have ih := idx_app u l
    have hi := idx_le (b :: l) h
    have e2 : b :: l ++ u = b :: (l ++ u) := rfl
    rw [e2]
    unfold Go.Lib.index at h hi ⊢
    by_cases hp : List.isPrefixOf [42, 47] (b :: l) = true
    · rw [if_pos hp]
      have := pre_app (b :: l) u hp
      rw [e2] at this
      rw [if_pos this]
    · rw [if_neg hp] at h hi
      rw [if_neg hp]
      have hl : Go.Lib.index l [42, 47] ≥ 0 := by
        have hg := Go.Lib.index_ge l [42, 47]
        by_cases h1 : (Go.Lib.index l [42, 47] == -1) = true
        · rw [if_pos h1] at h; omega
        · have : Go.Lib.index l [42, 47] ≠ -1 := by simpa using h1
          omega
      have hn : ¬ List.isPrefixOf [42, 47] (b :: (l ++ u)) = true := by
        intro hq
        apply hp
        match l, hl with
        | [], hl => simp [Go.Lib.index] at hl
        | d :: l, _ => simpa [List.isPrefixOf] using hq
      rw [if_neg hn, ih hl]

/-- A text of one token alone. -/
theorem cut_whole (s : List UInt8) (hs : s ≠ []) (h : (tok1 s).2.1 = s.length) : ∃ u, (cutP s).getLast? = some u ∧ u.1 = (tok1 s).1 := by
  rw [cutP_cons s hs, h, List.drop_length]
  exact ⟨tokO s (tok1 s), rfl, rfl⟩

theorem cut_last (s : List UInt8) (hs : s ≠ []) (u : Int × List UInt8 × List UInt8 × Int) (h : (cutP (s.drop (tok1 s).2.1)).getLast? = some u) : (cutP s).getLast? = some u := by
  rw [cutP_cons s hs, List.getLast?_cons, h]; rfl

def Unshut (s : List UInt8) : Prop := ∃ u, (cutP s).getLast? = some u ∧ (u.1 = 6 ∨ u.1 = 8 ∨ u.1 = 9)

theorem open6 {x : List UInt8} (h : Cr x) : Unshut x := by
  obtain ⟨u, h1, h2⟩ := last6 _ x (Nat.le_refl _) h
  exact ⟨u, h1, .inl h2⟩

/-- How a number begins. -/
theorem num_hd (s : List UInt8) (h : 0 < nlen s) : ∃ c r, s = c :: r ∧ isBlank c = false ∧ (c == 47) = false ∧ (c == 39) = false ∧ (c == 34) = false ∧ (c == 35) = false ∧ (c == 64) = false := by
  cases s with
  | nil => exact absurd h (by decide)
  | cons c r =>
    refine ⟨c, r, rfl, ?_⟩
    have h2 : ∀ n : Fin 256, (((UInt8.ofNat n.val) == 43 || (UInt8.ofNat n.val) == 45) = true ∨ isDig (UInt8.ofNat n.val) = true ∨ ((UInt8.ofNat n.val) == 46) = true) → (isBlank (UInt8.ofNat n.val) = false ∧ ((UInt8.ofNat n.val) == 47) = false ∧ ((UInt8.ofNat n.val) == 39) = false ∧ ((UInt8.ofNat n.val) == 34) = false ∧ ((UInt8.ofNat n.val) == 35) = false ∧ ((UInt8.ofNat n.val) == 64) = false) := by decide +kernel
    have h3 := h2 ⟨c.toNat, c.toNat_lt⟩
    simp only [UInt8.ofNat_toNat] at h3
    apply h3
    cases e1 : (c == 43 || c == 45) with
    | true => exact .inl rfl
    | false =>
      right
      cases e2 : isDig c with
      | true => exact .inl rfl
      | false =>
        right
        cases e3 : (c == 46) with
        | true => rfl
        | false =>
          exfalso
          have s0 : sgn (c :: r) = 0 := by rw [sgn_cons, e1]; rfl
          have w0 : whl (c :: r) = 0 := by
            unfold whl; rw [s0, List.drop_zero]
            unfold cnt; rw [List.takeWhile_cons, e2]; rfl
          have b0 : bhd (c :: r) = 0 := by
            unfold bhd; rw [s0, w0]
            show frc (c :: r) = 0
            rw [frc_cons, e3]; rfl
          unfold nlen at h
          rw [w0, b0] at h
          simp at h

theorem tok1_num (s : List UInt8) (h : 0 < nlen s) : tok1 s = numT s := by
  obtain ⟨c, r, rfl, a1, a2, a3, a4, a5, a6⟩ := num_hd s h
  have b : cnt isBlank (c :: r) = 0 := by unfold cnt; rw [List.takeWhile_cons, a1]; rfl
  have h1 : ∀ d, hd1 (c :: r) d = (c == d) := fun d => rfl
  unfold tok1
  rw [b, h1, h1, h1, h1, h1, a2, a3, a4, a5, a6]
  simp only [Bool.false_and, Bool.or_false, cond_false]
  rw [if_neg (by omega), if_pos h]

theorem tok1_app (s t : List UInt8) (hs : s ≠ []) : (tok1 (s ++ 32 :: t)).2.1 ≤ s.length ∨ Unshut s := by
  by_cases hle : (tok1 (s ++ 32 :: t)).2.1 ≤ s.length
  · exact .inl hle
  right
  have hpos : 0 < s.length := List.length_pos_iff.2 hs
  have d1 : (s ++ 32 :: t).drop 1 = s.drop 1 ++ 32 :: t := drop_app s t 1 (by omega)
  by_cases hb : cnt isBlank (s ++ 32 :: t) > 0
  · have e : tok1 (s ++ 32 :: t) = (8, cnt isBlank (s ++ 32 :: t), [], 0) := by unfold tok1; rw [if_pos hb]
    rw [e] at hle
    simp only at hle
    have h2 := cnt_take isBlank (s ++ 32 :: t) s.length
    rw [List.take_left'  rfl] at h2
    have h3 : cnt isBlank s = s.length := by omega
    have e2 : tok1 s = (8, cnt isBlank s, [], 0) := by unfold tok1; rw [if_pos (by omega)]
    obtain ⟨u, hu, hk⟩ := cut_whole s hs (by rw [e2]; exact h3)
    exact ⟨u, hu, .inr (.inl (by rw [hk, e2]))⟩
  have hb2 : ¬ cnt isBlank s > 0 := by
    have h2 := cnt_take isBlank (s ++ 32 :: t) s.length
    rw [List.take_left' rfl] at h2
    omega
  by_cases hn : 0 < nlen s
  · have hn2 : 0 < nlen (s ++ 32 :: t) := by rw [nlen_app s t hs]; exact hn
    rw [tok1_num _ hn2] at hle
    unfold numT at hle
    have hnl := nlen_le s
    rw [nlen_app s t hs, drop_app s t _ hnl, hd1_app2 _ t 37 (by decide)] at hle
    cases h37 : hd1 (s.drop (nlen s)) 37 with
    | true =>
      have := hd1_pos h37
      rw [List.length_drop] at this
      rw [h37] at hle
      simp only [cond_true] at hle
      omega
    | false =>
      rw [h37] at hle
      simp only [cond_false] at hle
      cases hbg : bg (s.drop (nlen s) ++ 32 :: t) with
      | false => rw [hbg] at hle; simp only [cond_false] at hle; omega
      | true =>
        rw [hbg] at hle
        simp only [cond_true] at hle
        have hc : Cr (s.drop (nlen s)) := nm_cr _ t (by rw [List.length_drop]; omega)
        obtain ⟨c1, c2⟩ := cr_nm hc
        have e : tok1 s = bif bg (s.drop (nlen s)) then (7, nlen s + (nm (s.drop (nlen s))).2, (nm (s.drop (nlen s))).1.map lowB, nval s) else (7, nlen s, [], nval s) := by
          rw [tok1_num s hn]; unfold numT; rw [h37]; rfl
        cases hbs : bg (s.drop (nlen s)) with
        | true =>
          rw [hbs, cond_true] at e
          obtain ⟨u, hu, h6⟩ := open6 Cr.one
          exact ⟨u, cut_last s hs u (by rw [e]; simp only; rw [← List.drop_drop, c2]; exact hu), h6⟩
        | false =>
          rw [hbs, cond_false] at e
          obtain ⟨u, hu, h6⟩ := open6 hc
          exact ⟨u, cut_last s hs u (by rw [e]; exact hu), h6⟩
  have hn2 : ¬ nlen (s ++ 32 :: t) > 0 := by rw [nlen_app s t hs]; exact hn
  have hh := hd1_app s t
  have e' : tok1 (s ++ 32 :: t) = bif hd1 s 47 && hd1 (s.drop 1 ++ 32 :: t) 42 then (9, noteN (s ++ 32 :: t), [], 0)
      else bif hd1 s 39 || hd1 s 34 then
        bif (tx (s.getD 0 0) (s.drop 1 ++ 32 :: t)).1 then (5, 1 + (tx (s.getD 0 0) (s.drop 1 ++ 32 :: t)).2.1, (tx (s.getD 0 0) (s.drop 1 ++ 32 :: t)).2.2, 0) else (6, 1 + (tx (s.getD 0 0) (s.drop 1 ++ 32 :: t)).2.1, [], 0)
      else bif hd1 s 35 && decide (1 < (s ++ 32 :: t).length) && (isSg ((s ++ 32 :: t).getD 1 0) || esc (s.drop 1 ++ 32 :: t)) then (4, 1 + (nm (s.drop 1 ++ 32 :: t)).2, (nm (s.drop 1 ++ 32 :: t)).1, 0)
      else bif hd1 s 64 && bg (s.drop 1 ++ 32 :: t) then (3, 1 + (nm (s.drop 1 ++ 32 :: t)).2, (nm (s.drop 1 ++ 32 :: t)).1, 0)
      else bif bg (s ++ 32 :: t) then nameT (s ++ 32 :: t)
      else (oneK (s.getD 0 0), 1, [], 0) := by
    have g : (s ++ 32 :: t).getD 0 0 = s.getD 0 0 := by
      cases s with
      | nil => exact absurd rfl hs
      | cons a r => rfl
    unfold tok1
    rw [if_neg hb, if_neg hn2, hh _ hs, hh _ hs, hh _ hs, hh _ hs, hh _ hs, d1, g]
  have e0 : tok1 s = bif hd1 s 47 && hd1 (s.drop 1) 42 then (9, noteN s, [], 0)
      else bif hd1 s 39 || hd1 s 34 then
        bif (tx (s.getD 0 0) (s.drop 1)).1 then (5, 1 + (tx (s.getD 0 0) (s.drop 1)).2.1, (tx (s.getD 0 0) (s.drop 1)).2.2, 0) else (6, 1 + (tx (s.getD 0 0) (s.drop 1)).2.1, [], 0)
      else bif hd1 s 35 && decide (1 < s.length) && (isSg (s.getD 1 0) || esc (s.drop 1)) then (4, 1 + (nm (s.drop 1)).2, (nm (s.drop 1)).1, 0)
      else bif hd1 s 64 && bg (s.drop 1) then (3, 1 + (nm (s.drop 1)).2, (nm (s.drop 1)).1, 0)
      else bif bg s then nameT s
      else (oneK (s.getD 0 0), 1, [], 0) := by
    unfold tok1
    rw [if_neg hb2, if_neg hn]
  rw [hd1_app2 _ t 42 (by decide)] at e'
  cases h1 : (hd1 s 47 && hd1 (s.drop 1) 42) with
  | true =>
    rw [h1, cond_true] at e' e0
    rw [e'] at hle
    simp only at hle
    have hw : noteN s = s.length := by
      unfold noteN
      by_cases hi : Go.Lib.index (s.drop 2) [42, 47] ≥ 0
      · exfalso
        apply hle
        rw [Bool.and_eq_true] at h1
        have h2 := hd1_pos h1.2
        rw [List.length_drop] at h2
        unfold noteN
        rw [drop_app s t 2 (by omega), idx_app _ _ hi, if_pos hi]
        have := idx_le _ hi
        rw [List.length_drop] at this
        omega
      · rw [if_neg hi]
    obtain ⟨u, hu, hk⟩ := cut_whole s hs (by rw [e0]; exact hw)
    exact ⟨u, hu, .inr (.inr (by rw [hk, e0]))⟩
  | false =>
    rw [h1, cond_false] at e' e0
    cases h2 : (hd1 s 39 || hd1 s 34) with
    | true =>
      rw [h2, cond_true] at e' e0
      have hlen : (s.drop 1).length < (tx (s.getD 0 0) (s.drop 1 ++ 32 :: t)).2.1 := by
        rw [e'] at hle
        rw [List.length_drop]
        cases hx : (tx (s.getD 0 0) (s.drop 1 ++ 32 :: t)).1 with
        | true => rw [hx, cond_true] at hle; simp only at hle; omega
        | false => rw [hx, cond_false] at hle; simp only at hle; omega
      obtain ⟨x1, x2⟩ := tx_app _ _ _ hlen
      rw [x1, cond_false, x2] at e0
      obtain ⟨u, hu, hk⟩ := cut_whole s hs (by rw [e0]; simp only [List.length_drop]; omega)
      exact ⟨u, hu, .inl (by rw [hk, e0])⟩
    | false =>
      rw [h2, cond_false] at e' e0
      have one : ∀ x c, s = c :: x → Cr x → hd1 s 35 = true ∨ hd1 s 64 = true → Unshut s := by
        intro x c hsx hc hcc
        obtain ⟨c1, c2⟩ := cr_nm hc
        have hx := List.length_pos_iff.2 (cr_ne hc)
        subst hsx
        have hbg : bg (c :: x) = false := by
          match x, hc with
          | [], hc => exact absurd rfl (cr_ne hc)
          | d :: r, hc =>
            rw [bg_cons]
            rcases hcc with h | h
            · have : c = 35 := by simpa [hd1] using h
              subst this; rfl
            · have : c = 64 := by simpa [hd1] using h
              subst this; rfl
        have dd : (c :: x).drop 1 = x := rfl
        rw [hbg, cond_false, dd] at e0
        obtain ⟨u6, hu6, h66⟩ := open6 Cr.one
        obtain ⟨ux, hux, h6x⟩ := open6 hc
        have done1 : tok1 (c :: x) = (oneK ((c :: x).getD 0 0), 1, [], 0) → Unshut (c :: x) := fun e => ⟨ux, cut_last _ hs ux (by rw [e]; exact hux), h6x⟩
        have done2 : ∀ k, tok1 (c :: x) = (k, 1 + (nm x).2, (nm x).1, 0) → Unshut (c :: x) := fun k e => ⟨u6, cut_last _ hs u6 (by rw [e]; simp only; rw [Nat.add_comm, List.drop_succ_cons, c2]; exact hu6), h66⟩
        cases h3 : (hd1 (c :: x) 35 && decide (1 < (c :: x).length) && (isSg ((c :: x).getD 1 0) || esc x)) with
        | true => rw [h3, cond_true] at e0; exact done2 _ e0
        | false =>
          rw [h3, cond_false] at e0
          cases h4 : (hd1 (c :: x) 64 && bg x) with
          | true => rw [h4, cond_true] at e0; exact done2 _ e0
          | false => rw [h4, cond_false] at e0; exact done1 e0
      obtain ⟨c, x, hsx⟩ : ∃ c x, s = c :: x := by
        cases s with
        | nil => exact absurd rfl hs
        | cons a r => exact ⟨a, r, rfl⟩
      have hxl : s.length = x.length + 1 := by rw [hsx]; rfl
      have hdx : s.drop 1 = x := by rw [hsx]; rfl
      cases h3 : (hd1 s 35 && decide (1 < (s ++ 32 :: t).length) && (isSg ((s ++ 32 :: t).getD 1 0) || esc (s.drop 1 ++ 32 :: t))) with
      | true =>
        rw [h3, cond_true] at e'
        rw [e', hdx] at hle
        simp only at hle
        rw [Bool.and_eq_true, Bool.and_eq_true] at h3
        exact one x c hsx (nm_cr x t (by omega)) (.inl h3.1.1)
      | false =>
        rw [h3, cond_false] at e'
        cases h4 : (hd1 s 64 && bg (s.drop 1 ++ 32 :: t)) with
        | true =>
          rw [h4, cond_true] at e'
          rw [e', hdx] at hle
          simp only at hle
          rw [Bool.and_eq_true] at h4
          exact one x c hsx (nm_cr x t (by omega)) (.inr h4.1)
        | false =>
          rw [h4, cond_false] at e'
          cases h5 : bg (s ++ 32 :: t) with
          | false =>
            rw [h5, cond_false] at e'
            rw [e'] at hle
            simp only at hle
            omega
          | true =>
            rw [h5, cond_true] at e'
            rw [e'] at hle
            by_cases hm : (nm (s ++ 32 :: t)).2 ≤ s.length
            · exfalso
              apply hle
              unfold nameT
              rw [drop_app s t _ hm, hd1_app2 _ t 40 (by decide)]
              cases h40 : hd1 (s.drop (nm (s ++ 32 :: t)).2) 40 with
              | true =>
                have := hd1_pos h40
                rw [List.length_drop] at this
                simp only [cond_true]; omega
              | false => exact hm
            · exact open6 (nm_cr s t (by omega))

theorem cut_apart (t : List UInt8) : ∀ (n : Nat) (s : List UInt8), s.length ≤ n → ¬ Unshut s → cutP (s ++ 32 :: t) = cutP s ++ cutP (32 :: t)
  | 0, s, hn, ho => by
    have : s = [] := List.length_eq_zero_iff.1 (by omega)
    subst this; rfl
  | n + 1, s, hn, ho => by
    by_cases hs : s = []
    · subst hs; rfl
    have h1 := tok1_ok s hs
    have hle : (tok1 (s ++ 32 :: t)).2.1 ≤ s.length := (tok1_app s t hs).resolve_right ho
    have hne : s ++ 32 :: t ≠ [] := by simp
    have e := tok1_take (s ++ 32 :: t) hne s.length hle
    rw [List.take_left' rfl] at e
    rw [← e] at hle
    rw [cutP_cons _ hne, ← e, drop_app s t _ hle, cutP_cons s hs]
    have e2 : tokO (s ++ 32 :: t) (tok1 s) = tokO s (tok1 s) := by
      unfold tokO
      rw [List.take_append_of_le_length hle]
    rw [e2, List.cons_append]
    congr 1
    apply cut_apart t n _ (by rw [List.length_drop]; omega)
    rintro ⟨u, hu, hk⟩
    exact ho ⟨u, cut_last s hs u hu, hk⟩

theorem cut_blank (t : List UInt8) (h : cnt isBlank t = 0) : cutP (32 :: t) = (8, [32], [], 0) :: cutP t := by
  have hc : cnt isBlank (32 :: t) = 1 := by
    have e : cnt isBlank (32 :: t) = cnt isBlank t + 1 := by
      unfold cnt; rw [List.takeWhile_cons]; rfl
    rw [e, h]
  have e : tok1 (32 :: t) = (8, 1, [], 0) := by unfold tok1; rw [hc]; rfl
  rw [cutP_cons _ (by simp), e]
  rfl

theorem blank_of (t : List UInt8) (ht : t ≠ []) (h : (tok1 t).1 ≠ 8) : cnt isBlank t = 0 := by
  by_cases hc : cnt isBlank t > 0
  · exfalso; apply h; unfold tok1; rw [if_pos hc]
  · omega

end Go.Ev.Tok
