/- EvTkP, EvTkQ, EvTkR, EvTkF, EvTkG, EvTkH, EvTkI, EvTkJ in one: no condition beyond those that each theorem names. -/
import Derived.Test.YtdnnaneifaoooaaDoorEvTkT
-- from EvTkP
set_option linter.unusedVariables false
set_option linter.unusedSimpArgs false
namespace Go.Ev.Tok

/-- A text whose last sign is an escape that is not done. -/
inductive Cr : List UInt8 → Prop
  | one : Cr [92]
  | sg {c : UInt8} {x : List UInt8} : isSg c = true → Cr x → Cr (c :: x)
  | es {d : UInt8} {x : List UInt8} : d ≠ 10 → Cr x → Cr (92 :: d :: x)

theorem cr_ne {x : List UInt8} (h : Cr x) : x ≠ [] := by cases h <;> simp

theorem sg32 : isSg 32 = false := by decide

theorem nm32 (t : List UInt8) : (nm (32 :: t)).2 = 0 := by
  cases t with
  | nil => simp [nm, sg32]
  | cons d r =>
    have : ((32 : UInt8) == 92) = false := by decide
    simp [nm, sg32, this]

theorem nm_cr : ∀ (x t : List UInt8), x.length < (nm (x ++ 32 :: t)).2 → Cr x
  | [], t, h => by rw [List.nil_append, nm32] at h; simp at h
  | [c], t, h => by
    have e : nm ([c] ++ 32 :: t) = bif c == 92 && (32 : UInt8) != 10 then (32 :: (nm t).1, (nm t).2 + 2) else bif isSg c then (c :: (nm (32 :: t)).1, (nm (32 :: t)).2 + 1) else ([], 0) := by
      show nm (c :: 32 :: t) = _
      rw [nm]
    rw [e, nm32] at h
    cases h1 : (c == 92) with
    | true =>
      have : c = 92 := by simpa using h1
      subst this; exact .one
    | false =>
      rw [h1] at h
      simp only [Bool.false_and, cond_false] at h
      cases h2 : isSg c <;> rw [h2] at h <;> simp at h
  | c :: d :: r, t, h => by
    have e : nm (c :: d :: r ++ 32 :: t) = bif c == 92 && d != 10 then (d :: (nm (r ++ 32 :: t)).1, (nm (r ++ 32 :: t)).2 + 2) else bif isSg c then (c :: (nm (d :: r ++ 32 :: t)).1, (nm (d :: r ++ 32 :: t)).2 + 1) else ([], 0) := by
      show nm (c :: d :: (r ++ 32 :: t)) = _
      rw [nm]; rfl
    rw [e] at h
    cases h1 : (c == 92 && d != 10) with
    | true =>
      rw [h1] at h
      simp only [cond_true, List.length_cons] at h
      rw [Bool.and_eq_true] at h1
      have h92 : c = 92 := by simpa using h1.1
      have h10 : d ≠ 10 := by simpa using h1.2
      subst h92
      exact .es h10 (nm_cr r t (by omega))
    | false =>
      rw [h1] at h
      simp only [cond_false] at h
      cases h2 : isSg c with
      | true =>
        rw [h2] at h
        simp only [cond_true, List.length_cons] at h
        exact .sg h2 (nm_cr (d :: r) t (by simp only [List.length_cons]; omega))
      | false => rw [h2] at h; simp at h

theorem cr_nm {x : List UInt8} (h : Cr x) : (nm x).2 + 1 = x.length ∧ x.drop (nm x).2 = [92] := by
  induction h with
  | one => exact ⟨rfl, rfl⟩
  | @sg c x hc hx ih =>
    match x, hx with
    | [], hx => exact absurd rfl (cr_ne hx)
    | d :: r, hx =>
      rw [nm_sg c d r (sg_not92 hc d) hc]
      simp only [List.length_cons] at ih ⊢
      exact ⟨by omega, ih.2⟩
  | @es d x hd hx ih =>
    have : ((92 : UInt8) == 92 && d != 10) = true := by simpa using hd
    rw [nm_esc 92 d x this]
    simp only [List.length_cons] at ih ⊢
    exact ⟨by omega, ih.2⟩

/-- What a sign of a name is not. -/
theorem sg_not {c : UInt8} (h : isSg c = true) : isBlank c = false ∧ (c == 47) = false ∧ (c == 39) = false ∧ (c == 34) = false ∧ (c == 35) = false ∧ (c == 64) = false ∧ (c == 46) = false ∧ (c == 43) = false ∧ (c == 92) = false ∧ (c == 37) = false ∧ (c == 40) = false := by
  have h2 : ∀ n : Fin 256, isSg (UInt8.ofNat n.val) = true → (isBlank (UInt8.ofNat n.val) = false ∧ ((UInt8.ofNat n.val) == 47) = false ∧ ((UInt8.ofNat n.val) == 39) = false ∧ ((UInt8.ofNat n.val) == 34) = false ∧ ((UInt8.ofNat n.val) == 35) = false ∧ ((UInt8.ofNat n.val) == 64) = false ∧ ((UInt8.ofNat n.val) == 46) = false ∧ ((UInt8.ofNat n.val) == 43) = false ∧ ((UInt8.ofNat n.val) == 92) = false ∧ ((UInt8.ofNat n.val) == 37) = false ∧ ((UInt8.ofNat n.val) == 40) = false) := by decide +kernel
  have := h2 ⟨c.toNat, c.toNat_lt⟩
  simp only [UInt8.ofNat_toNat] at this
  exact this h

theorem frc_cons (a : UInt8) (r : List UInt8) : frc (a :: r) = bif a == 46 then cnt isDig r else 0 := rfl
theorem sgn_cons (a : UInt8) (r : List UInt8) : sgn (a :: r) = bif a == 43 || a == 45 then 1 else 0 := rfl

theorem cr_frc {x : List UInt8} (h : Cr x) : frc x = 0 := by
  cases h with
  | one => rfl
  | sg hc hx => rw [frc_cons, (sg_not hc).2.2.2.2.2.2.1]; rfl
  | es hd hx => rfl

theorem cr_dig {x : List UInt8} (h : Cr x) : Cr (x.drop (cnt isDig x)) := by
  induction h with
  | one => exact .one
  | @sg c x hc hx ih =>
    unfold cnt at ih ⊢
    rw [List.takeWhile_cons]
    cases isDig c with
    | true => exact ih
    | false => exact .sg hc hx
  | @es d x hd hx ih =>
    have : cnt isDig (92 :: d :: x) = 0 := by unfold cnt; rw [List.takeWhile_cons]; rfl
    rw [this]; exact .es hd hx

/-- The number of a text. -/
theorem cr_num {x : List UInt8} (h : Cr x) (h0 : 0 < nlen x) : Cr (x.drop (nlen x)) := by
  have key : ∀ y, y = x.drop (sgn x) → Cr y → Cr (x.drop (nlen x)) := by
    intro y hy hc
    have h1 := cr_dig hc
    have e : y.drop (cnt isDig y) = x.drop (sgn x + whl x) := by
      rw [hy, List.drop_drop]; rfl
    have hb : bhd x = 0 := by unfold bhd; rw [← e]; exact cr_frc h1
    have hn : nlen x = sgn x + whl x := by
      unfold nlen at h0 ⊢
      rw [hb] at h0 ⊢
      split
      · rename_i hz; rw [if_pos hz] at h0; omega
      · rfl
    rw [hn, ← e]; exact h1
  cases h with
  | one => exact absurd h0 (by decide)
  | @sg c x hc hx =>
    have h43 := (sg_not hc).2.2.2.2.2.2.2.1
    cases h45 : (c == 45) with
    | true =>
      have : sgn (c :: x) = 1 := by rw [sgn_cons, h43, h45]; rfl
      exact key x (by rw [this]; rfl) hx
    | false =>
      have : sgn (c :: x) = 0 := by rw [sgn_cons, h43, h45]; rfl
      exact key (c :: x) (by rw [this]; rfl) (.sg hc hx)
  | @es d x hd hx =>
    exact key (92 :: d :: x) rfl (.es hd hx)

theorem hd1_92 (c : UInt8) : hd1 [92] c = ((92 : UInt8) == c) := rfl

theorem hd1_cr {x : List UInt8} (h : Cr x) : hd1 x 37 = false ∧ hd1 x 40 = false ∧ hd1 x 47 = false ∧ hd1 x 39 = false ∧ hd1 x 34 = false ∧ hd1 x 35 = false ∧ hd1 x 64 = false ∧ cnt isBlank x = 0 := by
  cases h with
  | one => decide
  | @sg c x hc hx =>
    obtain ⟨a1, a2, a3, a4, a5, a6, a7, a8, a9, a10, a11⟩ := sg_not hc
    refine ⟨a10, a11, a2, a3, a4, a5, a6, ?_⟩
    unfold cnt; rw [List.takeWhile_cons, a1]; rfl
  | @es d x hd hx => exact ⟨rfl, rfl, rfl, rfl, rfl, rfl, rfl, rfl⟩

theorem cr_tok {x : List UInt8} (h : Cr x) : x = [92] ∨ ((tok1 x).2.1 < x.length ∧ Cr (x.drop (tok1 x).2.1)) := by
  obtain ⟨a1, a2, a3, a4, a5, a6, a7, a8⟩ := hd1_cr h
  have hne := cr_ne h
  have e : tok1 x = if nlen x > 0 then numT x else bif bg x then nameT x else (oneK (x.getD 0 0), 1, [], 0) := by
    unfold tok1
    rw [a3, a4, a5, a6, a7, a8]
    rfl
  rw [e]
  obtain ⟨c1, c2⟩ := cr_nm h
  by_cases hn : nlen x > 0
  · rw [if_pos hn]
    have hr := cr_num h hn
    obtain ⟨d1, d2⟩ := cr_nm hr
    have hle := nlen_le x
    have hrl : 0 < (x.drop (nlen x)).length := List.length_pos_iff.2 (cr_ne hr)
    unfold numT
    rw [(hd1_cr hr).1, cond_false]
    right
    rw [List.length_drop] at d1 hrl
    cases hb : bg (x.drop (nlen x)) with
    | true =>
      simp only [cond_true]
      rw [← List.drop_drop, d2]
      exact ⟨by omega, .one⟩
    | false =>
      simp only [cond_false]
      exact ⟨by omega, hr⟩
  · rw [if_neg hn]
    cases hb : bg x with
    | true =>
      simp only [cond_true]
      unfold nameT
      rw [c2]
      have : hd1 [92] 40 = false := rfl
      rw [this, cond_false]
      right
      simp only
      rw [c2]
      exact ⟨by omega, .one⟩
    | false =>
      simp only [cond_false]
      cases h with
      | one => exact .inl rfl
      | @sg c x hc hx =>
        right
        have := List.length_pos_iff.2 (cr_ne hx)
        exact ⟨by simp only [List.length_cons]; omega, hx⟩
      | @es d x hd hx =>
        exfalso
        rw [bg_cons] at hb
        have : esc (92 :: d :: x) = true := by simp [esc, hd]
        rw [this] at hb
        simp at hb

theorem last6 : ∀ (n : Nat) (x : List UInt8), x.length ≤ n → Cr x → ∃ u, (cutP x).getLast? = some u ∧ u.1 = 6
  | 0, x, hn, h => absurd (List.length_eq_zero_iff.1 (by omega)) (cr_ne h)
  | n + 1, x, hn, h => by
    rcases cr_tok h with rfl | ⟨h1, h2⟩
    · exact ⟨(6, [92], [], 0), by decide, rfl⟩
    · have hp := tok1_ok x (cr_ne h)
      obtain ⟨u, hu, h6⟩ := last6 n (x.drop (tok1 x).2.1) (by rw [List.length_drop]; omega) h2
      refine ⟨u, ?_, h6⟩
      rw [cutP_cons x (cr_ne h), List.getLast?_cons, hu]
      rfl

theorem cnt_app (p : UInt8 → Bool) (h : p 32 = false) (t : List UInt8) : ∀ s : List UInt8, cnt p (s ++ 32 :: t) = cnt p s
  | [] => by unfold cnt; rw [List.nil_append, List.takeWhile_cons, h]; rfl
  | a :: r => by
    have ih := cnt_app p h t r
    unfold cnt at ih ⊢
    rw [List.cons_append, List.takeWhile_cons, List.takeWhile_cons]
    cases p a with
    | true => simp only [if_true, List.length_cons]; rw [ih]
    | false => rfl

theorem frc_app (t : List UInt8) (s : List UInt8) : frc (s ++ 32 :: t) = frc s := by
  cases s with
  | nil => rfl
  | cons a r =>
    show (bif a == 46 then cnt isDig (r ++ 32 :: t) else 0) = bif a == 46 then cnt isDig r else 0
    rw [cnt_app isDig (by decide)]

theorem hd1_app (s t : List UInt8) (c : UInt8) (hs : s ≠ []) : hd1 (s ++ 32 :: t) c = hd1 s c := by
  cases s with
  | nil => exact absurd rfl hs
  | cons a r => rfl

theorem hd1_app2 (s t : List UInt8) (c : UInt8) (hc : (32 == c) = false) : hd1 (s ++ 32 :: t) c = hd1 s c := by
  cases s with
  | nil => exact hc
  | cons a r => rfl

theorem sgn_app (s t : List UInt8) (hs : s ≠ []) : sgn (s ++ 32 :: t) = sgn s := by
  cases s with
  | nil => exact absurd rfl hs
  | cons a r => rfl

theorem drop_app (s t : List UInt8) (n : Nat) (h : n ≤ s.length) : (s ++ 32 :: t).drop n = s.drop n ++ 32 :: t := List.drop_append_of_le_length h

theorem whl_app (s t : List UInt8) (hs : s ≠ []) : whl (s ++ 32 :: t) = whl s := by
  unfold whl
  rw [sgn_app s t hs, drop_app s t _ (sgn_le s).1, cnt_app isDig (by decide)]

theorem bhd_app (s t : List UInt8) (hs : s ≠ []) : bhd (s ++ 32 :: t) = bhd s := by
  unfold bhd
  rw [sgn_app s t hs, whl_app s t hs, drop_app s t _ (whl_le s), frc_app]

theorem nlen_app (s t : List UInt8) (hs : s ≠ []) : nlen (s ++ 32 :: t) = nlen s := by
  unfold nlen
  rw [sgn_app s t hs, whl_app s t hs, bhd_app s t hs]

theorem tx_app (q : UInt8) (u : List UInt8) : ∀ x : List UInt8, x.length < (tx q (x ++ u)).2.1 → (tx q x).1 = false ∧ (tx q x).2.1 = x.length
  | [], h => ⟨rfl, rfl⟩
  | [c], h => by
    cases u with
    | nil =>
      have := tx_le q [c]
      simp only [List.append_nil] at h
      omega
    | cons d r =>
      have e : tx q ([c] ++ d :: r) = bif c == q then (true, 1, []) else bif c == 10 then (false, 0, []) else
        bif c == 92 then ((tx q r).1, (tx q r).2.1 + 2, d :: (tx q r).2.2) else ((tx q (d :: r)).1, (tx q (d :: r)).2.1 + 1, c :: (tx q (d :: r)).2.2) := by
        show tx q (c :: d :: r) = _
        rw [tx]
      rw [e] at h
      unfold tx
      cases h1 : (c == q) with
      | true => rw [h1] at h; simp at h
      | false =>
        rw [h1] at h
        cases h2 : (c == 10) with
        | true => rw [h2] at h; simp at h
        | false => exact ⟨rfl, rfl⟩
  | c :: d :: r, h => by
    have e : ∀ r, tx q (c :: d :: r) = bif c == q then (true, 1, []) else bif c == 10 then (false, 0, []) else
        bif c == 92 then ((tx q r).1, (tx q r).2.1 + 2, d :: (tx q r).2.2) else ((tx q (d :: r)).1, (tx q (d :: r)).2.1 + 1, c :: (tx q (d :: r)).2.2) := by
        intro r; rw [tx]
    have e2 : tx q (c :: d :: r ++ u) = tx q (c :: d :: (r ++ u)) := rfl
    rw [e2, e] at h
    rw [e]
    cases h1 : (c == q) with
    | true => rw [h1] at h; simp at h
    | false =>
      rw [h1] at h
      cases h2 : (c == 10) with
      | true => rw [h2] at h; simp at h
      | false =>
        rw [h2] at h
        cases h3 : (c == 92) with
        | true =>
          rw [h3] at h
          simp only [cond_true, cond_false, List.length_cons] at h ⊢
          have ih := tx_app q u r (by omega)
          exact ⟨ih.1, by rw [ih.2]⟩
        | false =>
          rw [h3] at h
          simp only [cond_true, cond_false, List.length_cons] at h ⊢
          have ih := tx_app q u (d :: r) (by simp only [List.length_cons, List.cons_append]; omega)
          exact ⟨ih.1, by rw [ih.2]; rfl⟩

theorem pre_app (x u : List UInt8) (h : List.isPrefixOf [42, 47] x = true) : List.isPrefixOf [42, 47] (x ++ u) = true := by
  match x with
  | [] => simp [List.isPrefixOf] at h
  | [a] => simp [List.isPrefixOf] at h
  | a :: b :: r => simpa [List.isPrefixOf] using h

theorem idx_app (u : List UInt8) : ∀ x : List UInt8, Go.Lib.index x [42, 47] ≥ 0 → Go.Lib.index (x ++ u) [42, 47] = Go.Lib.index x [42, 47]
  | [], h => by simp [Go.Lib.index] at h
  | b :: l, h => by
    have ih := idx_app u l
    have hi := idx_le (b :: l) h
    have e2 : b :: l ++ u = b :: (l ++ u) := rfl
    rw [e2]
    unfold Go.Lib.index at h hi ⊢
    by_cases hp : List.isPrefixOf [42, 47] (b :: l) = true
    · rw [if_pos hp]
      have := pre_app (b :: l) u hp
      rw [e2] at this
      rw [if_pos this]
    · rw [if_neg hp] at h hi
      rw [if_neg hp]
      have hl : Go.Lib.index l [42, 47] ≥ 0 := by
        have hg := Go.Lib.index_ge l [42, 47]
        by_cases h1 : (Go.Lib.index l [42, 47] == -1) = true
        · rw [if_pos h1] at h; omega
        · have : Go.Lib.index l [42, 47] ≠ -1 := by simpa using h1
          omega
      have hn : ¬ List.isPrefixOf [42, 47] (b :: (l ++ u)) = true := by
        intro hq
        apply hp
        match l, hl with
        | [], hl => simp [Go.Lib.index] at hl
        | d :: l, _ => simpa [List.isPrefixOf] using hq
      rw [if_neg hn, ih hl]

/-- A text of one token alone. -/
theorem cut_whole (s : List UInt8) (hs : s ≠ []) (h : (tok1 s).2.1 = s.length) : ∃ u, (cutP s).getLast? = some u ∧ u.1 = (tok1 s).1 := by
  rw [cutP_cons s hs, h, List.drop_length]
  exact ⟨tokO s (tok1 s), rfl, rfl⟩

theorem cut_last (s : List UInt8) (hs : s ≠ []) (u : Int × List UInt8 × List UInt8 × Int) (h : (cutP (s.drop (tok1 s).2.1)).getLast? = some u) : (cutP s).getLast? = some u := by
  rw [cutP_cons s hs, List.getLast?_cons, h]; rfl

def Unshut (s : List UInt8) : Prop := ∃ u, (cutP s).getLast? = some u ∧ (u.1 = 6 ∨ u.1 = 8 ∨ u.1 = 9)

theorem open6 {x : List UInt8} (h : Cr x) : Unshut x := by
  obtain ⟨u, h1, h2⟩ := last6 _ x (Nat.le_refl _) h
  exact ⟨u, h1, .inl h2⟩

/-- How a number begins. -/
theorem num_hd (s : List UInt8) (h : 0 < nlen s) : ∃ c r, s = c :: r ∧ isBlank c = false ∧ (c == 47) = false ∧ (c == 39) = false ∧ (c == 34) = false ∧ (c == 35) = false ∧ (c == 64) = false := by
  cases s with
  | nil => exact absurd h (by decide)
  | cons c r =>
    refine ⟨c, r, rfl, ?_⟩
    have h2 : ∀ n : Fin 256, (((UInt8.ofNat n.val) == 43 || (UInt8.ofNat n.val) == 45) = true ∨ isDig (UInt8.ofNat n.val) = true ∨ ((UInt8.ofNat n.val) == 46) = true) → (isBlank (UInt8.ofNat n.val) = false ∧ ((UInt8.ofNat n.val) == 47) = false ∧ ((UInt8.ofNat n.val) == 39) = false ∧ ((UInt8.ofNat n.val) == 34) = false ∧ ((UInt8.ofNat n.val) == 35) = false ∧ ((UInt8.ofNat n.val) == 64) = false) := by decide +kernel
    have h3 := h2 ⟨c.toNat, c.toNat_lt⟩
    simp only [UInt8.ofNat_toNat] at h3
    apply h3
    cases e1 : (c == 43 || c == 45) with
    | true => exact .inl rfl
    | false =>
      right
      cases e2 : isDig c with
      | true => exact .inl rfl
      | false =>
        right
        cases e3 : (c == 46) with
        | true => rfl
        | false =>
          exfalso
          have s0 : sgn (c :: r) = 0 := by rw [sgn_cons, e1]; rfl
          have w0 : whl (c :: r) = 0 := by
            unfold whl; rw [s0, List.drop_zero]
            unfold cnt; rw [List.takeWhile_cons, e2]; rfl
          have b0 : bhd (c :: r) = 0 := by
            unfold bhd; rw [s0, w0]
            show frc (c :: r) = 0
            rw [frc_cons, e3]; rfl
          unfold nlen at h
          rw [w0, b0] at h
          simp at h

theorem tok1_num (s : List UInt8) (h : 0 < nlen s) : tok1 s = numT s := by
  obtain ⟨c, r, rfl, a1, a2, a3, a4, a5, a6⟩ := num_hd s h
  have b : cnt isBlank (c :: r) = 0 := by unfold cnt; rw [List.takeWhile_cons, a1]; rfl
  have h1 : ∀ d, hd1 (c :: r) d = (c == d) := fun d => rfl
  unfold tok1
  rw [b, h1, h1, h1, h1, h1, a2, a3, a4, a5, a6]
  simp only [Bool.false_and, Bool.or_false, cond_false]
  rw [if_neg (by omega), if_pos h]

theorem tok1_app (s t : List UInt8) (hs : s ≠ []) : (tok1 (s ++ 32 :: t)).2.1 ≤ s.length ∨ Unshut s := by
  by_cases hle : (tok1 (s ++ 32 :: t)).2.1 ≤ s.length
  · exact .inl hle
  right
  have hpos : 0 < s.length := List.length_pos_iff.2 hs
  have d1 : (s ++ 32 :: t).drop 1 = s.drop 1 ++ 32 :: t := drop_app s t 1 (by omega)
  by_cases hb : cnt isBlank (s ++ 32 :: t) > 0
  · have e : tok1 (s ++ 32 :: t) = (8, cnt isBlank (s ++ 32 :: t), [], 0) := by unfold tok1; rw [if_pos hb]
    rw [e] at hle
    simp only at hle
    have h2 := cnt_take isBlank (s ++ 32 :: t) s.length
    rw [List.take_left'  rfl] at h2
    have h3 : cnt isBlank s = s.length := by omega
    have e2 : tok1 s = (8, cnt isBlank s, [], 0) := by unfold tok1; rw [if_pos (by omega)]
    obtain ⟨u, hu, hk⟩ := cut_whole s hs (by rw [e2]; exact h3)
    exact ⟨u, hu, .inr (.inl (by rw [hk, e2]))⟩
  have hb2 : ¬ cnt isBlank s > 0 := by
    have h2 := cnt_take isBlank (s ++ 32 :: t) s.length
    rw [List.take_left' rfl] at h2
    omega
  by_cases hn : 0 < nlen s
  · have hn2 : 0 < nlen (s ++ 32 :: t) := by rw [nlen_app s t hs]; exact hn
    rw [tok1_num _ hn2] at hle
    unfold numT at hle
    have hnl := nlen_le s
    rw [nlen_app s t hs, drop_app s t _ hnl, hd1_app2 _ t 37 (by decide)] at hle
    cases h37 : hd1 (s.drop (nlen s)) 37 with
    | true =>
      have := hd1_pos h37
      rw [List.length_drop] at this
      rw [h37] at hle
      simp only [cond_true] at hle
      omega
    | false =>
      rw [h37] at hle
      simp only [cond_false] at hle
      cases hbg : bg (s.drop (nlen s) ++ 32 :: t) with
      | false => rw [hbg] at hle; simp only [cond_false] at hle; omega
      | true =>
        rw [hbg] at hle
        simp only [cond_true] at hle
        have hc : Cr (s.drop (nlen s)) := nm_cr _ t (by rw [List.length_drop]; omega)
        obtain ⟨c1, c2⟩ := cr_nm hc
        have e : tok1 s = bif bg (s.drop (nlen s)) then (7, nlen s + (nm (s.drop (nlen s))).2, (nm (s.drop (nlen s))).1.map lowB, nval s) else (7, nlen s, [], nval s) := by
          rw [tok1_num s hn]; unfold numT; rw [h37]; rfl
        cases hbs : bg (s.drop (nlen s)) with
        | true =>
          rw [hbs, cond_true] at e
          obtain ⟨u, hu, h6⟩ := open6 Cr.one
          exact ⟨u, cut_last s hs u (by rw [e]; simp only; rw [← List.drop_drop, c2]; exact hu), h6⟩
        | false =>
          rw [hbs, cond_false] at e
          obtain ⟨u, hu, h6⟩ := open6 hc
          exact ⟨u, cut_last s hs u (by rw [e]; exact hu), h6⟩
  have hn2 : ¬ nlen (s ++ 32 :: t) > 0 := by rw [nlen_app s t hs]; exact hn
  have hh := hd1_app s t
  have e' : tok1 (s ++ 32 :: t) = bif hd1 s 47 && hd1 (s.drop 1 ++ 32 :: t) 42 then (9, noteN (s ++ 32 :: t), [], 0)
      else bif hd1 s 39 || hd1 s 34 then
        bif (tx (s.getD 0 0) (s.drop 1 ++ 32 :: t)).1 then (5, 1 + (tx (s.getD 0 0) (s.drop 1 ++ 32 :: t)).2.1, (tx (s.getD 0 0) (s.drop 1 ++ 32 :: t)).2.2, 0) else (6, 1 + (tx (s.getD 0 0) (s.drop 1 ++ 32 :: t)).2.1, [], 0)
      else bif hd1 s 35 && decide (1 < (s ++ 32 :: t).length) && (isSg ((s ++ 32 :: t).getD 1 0) || esc (s.drop 1 ++ 32 :: t)) then (4, 1 + (nm (s.drop 1 ++ 32 :: t)).2, (nm (s.drop 1 ++ 32 :: t)).1, 0)
      else bif hd1 s 64 && bg (s.drop 1 ++ 32 :: t) then (3, 1 + (nm (s.drop 1 ++ 32 :: t)).2, (nm (s.drop 1 ++ 32 :: t)).1, 0)
      else bif bg (s ++ 32 :: t) then nameT (s ++ 32 :: t)
      else (oneK (s.getD 0 0), 1, [], 0) := by
    have g : (s ++ 32 :: t).getD 0 0 = s.getD 0 0 := by
      cases s with
      | nil => exact absurd rfl hs
      | cons a r => rfl
    unfold tok1
    rw [if_neg hb, if_neg hn2, hh _ hs, hh _ hs, hh _ hs, hh _ hs, hh _ hs, d1, g]
  have e0 : tok1 s = bif hd1 s 47 && hd1 (s.drop 1) 42 then (9, noteN s, [], 0)
      else bif hd1 s 39 || hd1 s 34 then
        bif (tx (s.getD 0 0) (s.drop 1)).1 then (5, 1 + (tx (s.getD 0 0) (s.drop 1)).2.1, (tx (s.getD 0 0) (s.drop 1)).2.2, 0) else (6, 1 + (tx (s.getD 0 0) (s.drop 1)).2.1, [], 0)
      else bif hd1 s 35 && decide (1 < s.length) && (isSg (s.getD 1 0) || esc (s.drop 1)) then (4, 1 + (nm (s.drop 1)).2, (nm (s.drop 1)).1, 0)
      else bif hd1 s 64 && bg (s.drop 1) then (3, 1 + (nm (s.drop 1)).2, (nm (s.drop 1)).1, 0)
      else bif bg s then nameT s
      else (oneK (s.getD 0 0), 1, [], 0) := by
    unfold tok1
    rw [if_neg hb2, if_neg hn]
  rw [hd1_app2 _ t 42 (by decide)] at e'
  cases h1 : (hd1 s 47 && hd1 (s.drop 1) 42) with
  | true =>
    rw [h1, cond_true] at e' e0
    rw [e'] at hle
    simp only at hle
    have hw : noteN s = s.length := by
      unfold noteN
      by_cases hi : Go.Lib.index (s.drop 2) [42, 47] ≥ 0
      · exfalso
        apply hle
        rw [Bool.and_eq_true] at h1
        have h2 := hd1_pos h1.2
        rw [List.length_drop] at h2
        unfold noteN
        rw [drop_app s t 2 (by omega), idx_app _ _ hi, if_pos hi]
        have := idx_le _ hi
        rw [List.length_drop] at this
        omega
      · rw [if_neg hi]
    obtain ⟨u, hu, hk⟩ := cut_whole s hs (by rw [e0]; exact hw)
    exact ⟨u, hu, .inr (.inr (by rw [hk, e0]))⟩
  | false =>
    rw [h1, cond_false] at e' e0
    cases h2 : (hd1 s 39 || hd1 s 34) with
    | true =>
      rw [h2, cond_true] at e' e0
      have hlen : (s.drop 1).length < (tx (s.getD 0 0) (s.drop 1 ++ 32 :: t)).2.1 := by
        rw [e'] at hle
        rw [List.length_drop]
        cases hx : (tx (s.getD 0 0) (s.drop 1 ++ 32 :: t)).1 with
        | true => rw [hx, cond_true] at hle; simp only at hle; omega
        | false => rw [hx, cond_false] at hle; simp only at hle; omega
      obtain ⟨x1, x2⟩ := tx_app _ _ _ hlen
      rw [x1, cond_false, x2] at e0
      obtain ⟨u, hu, hk⟩ := cut_whole s hs (by rw [e0]; simp only [List.length_drop]; omega)
      exact ⟨u, hu, .inl (by rw [hk, e0])⟩
    | false =>
      rw [h2, cond_false] at e' e0
      have one : ∀ x c, s = c :: x → Cr x → hd1 s 35 = true ∨ hd1 s 64 = true → Unshut s := by
        intro x c hsx hc hcc
        obtain ⟨c1, c2⟩ := cr_nm hc
        have hx := List.length_pos_iff.2 (cr_ne hc)
        subst hsx
        have hbg : bg (c :: x) = false := by
          match x, hc with
          | [], hc => exact absurd rfl (cr_ne hc)
          | d :: r, hc =>
            rw [bg_cons]
            rcases hcc with h | h
            · have : c = 35 := by simpa [hd1] using h
              subst this; rfl
            · have : c = 64 := by simpa [hd1] using h
              subst this; rfl
        have dd : (c :: x).drop 1 = x := rfl
        rw [hbg, cond_false, dd] at e0
        obtain ⟨u6, hu6, h66⟩ := open6 Cr.one
        obtain ⟨ux, hux, h6x⟩ := open6 hc
        have done1 : tok1 (c :: x) = (oneK ((c :: x).getD 0 0), 1, [], 0) → Unshut (c :: x) := fun e => ⟨ux, cut_last _ hs ux (by rw [e]; exact hux), h6x⟩
        have done2 : ∀ k, tok1 (c :: x) = (k, 1 + (nm x).2, (nm x).1, 0) → Unshut (c :: x) := fun k e => ⟨u6, cut_last _ hs u6 (by rw [e]; simp only; rw [Nat.add_comm, List.drop_succ_cons, c2]; exact hu6), h66⟩
        cases h3 : (hd1 (c :: x) 35 && decide (1 < (c :: x).length) && (isSg ((c :: x).getD 1 0) || esc x)) with
        | true => rw [h3, cond_true] at e0; exact done2 _ e0
        | false =>
          rw [h3, cond_false] at e0
          cases h4 : (hd1 (c :: x) 64 && bg x) with
          | true => rw [h4, cond_true] at e0; exact done2 _ e0
          | false => rw [h4, cond_false] at e0; exact done1 e0
      obtain ⟨c, x, hsx⟩ : ∃ c x, s = c :: x := by
        cases s with
        | nil => exact absurd rfl hs
        | cons a r => exact ⟨a, r, rfl⟩
      have hxl : s.length = x.length + 1 := by rw [hsx]; rfl
      have hdx : s.drop 1 = x := by rw [hsx]; rfl
      cases h3 : (hd1 s 35 && decide (1 < (s ++ 32 :: t).length) && (isSg ((s ++ 32 :: t).getD 1 0) || esc (s.drop 1 ++ 32 :: t))) with
      | true =>
        rw [h3, cond_true] at e'
        rw [e', hdx] at hle
        simp only at hle
        rw [Bool.and_eq_true, Bool.and_eq_true] at h3
        exact one x c hsx (nm_cr x t (by omega)) (.inl h3.1.1)
      | false =>
        rw [h3, cond_false] at e'
        cases h4 : (hd1 s 64 && bg (s.drop 1 ++ 32 :: t)) with
        | true =>
          rw [h4, cond_true] at e'
          rw [e', hdx] at hle
          simp only at hle
          rw [Bool.and_eq_true] at h4
          exact one x c hsx (nm_cr x t (by omega)) (.inr h4.1)
        | false =>
          rw [h4, cond_false] at e'
          cases h5 : bg (s ++ 32 :: t) with
          | false =>
            rw [h5, cond_false] at e'
            rw [e'] at hle
            simp only at hle
            omega
          | true =>
            rw [h5, cond_true] at e'
            rw [e'] at hle
            by_cases hm : (nm (s ++ 32 :: t)).2 ≤ s.length
            · exfalso
              apply hle
              unfold nameT
              rw [drop_app s t _ hm, hd1_app2 _ t 40 (by decide)]
              cases h40 : hd1 (s.drop (nm (s ++ 32 :: t)).2) 40 with
              | true =>
                have := hd1_pos h40
                rw [List.length_drop] at this
                simp only [cond_true]; omega
              | false => exact hm
            · exact open6 (nm_cr s t (by omega))

theorem cut_apart (t : List UInt8) : ∀ (n : Nat) (s : List UInt8), s.length ≤ n → ¬ Unshut s → cutP (s ++ 32 :: t) = cutP s ++ cutP (32 :: t)
  | 0, s, hn, ho => by
    have : s = [] := List.length_eq_zero_iff.1 (by omega)
    subst this; rfl
  | n + 1, s, hn, ho => by
    by_cases hs : s = []
    · subst hs; rfl
    have h1 := tok1_ok s hs
    have hle : (tok1 (s ++ 32 :: t)).2.1 ≤ s.length := (tok1_app s t hs).resolve_right ho
    have hne : s ++ 32 :: t ≠ [] := by simp
    have e := tok1_take (s ++ 32 :: t) hne s.length hle
    rw [List.take_left' rfl] at e
    rw [← e] at hle
    rw [cutP_cons _ hne, ← e, drop_app s t _ hle, cutP_cons s hs]
    have e2 : tokO (s ++ 32 :: t) (tok1 s) = tokO s (tok1 s) := by
      unfold tokO
      rw [List.take_append_of_le_length hle]
    rw [e2, List.cons_append]
    congr 1
    apply cut_apart t n _ (by rw [List.length_drop]; omega)
    rintro ⟨u, hu, hk⟩
    exact ho ⟨u, cut_last s hs u hu, hk⟩

theorem cut_blank (t : List UInt8) (h : cnt isBlank t = 0) : cutP (32 :: t) = (8, [32], [], 0) :: cutP t := by
  have hc : cnt isBlank (32 :: t) = 1 := by
    have e : cnt isBlank (32 :: t) = cnt isBlank t + 1 := by
      unfold cnt; rw [List.takeWhile_cons]; rfl
    rw [e, h]
  have e : tok1 (32 :: t) = (8, 1, [], 0) := by unfold tok1; rw [hc]; rfl
  rw [cutP_cons _ (by simp), e]
  rfl

theorem blank_of (t : List UInt8) (ht : t ≠ []) (h : (tok1 t).1 ≠ 8) : cnt isBlank t = 0 := by
  by_cases hc : cnt isBlank t > 0
  · exfalso; apply h; unfold tok1; rw [if_pos hc]
  · omega

end Go.Ev.Tok

-- from EvTkQ
set_option linter.unusedVariables false
set_option linter.unusedSimpArgs false
namespace Go.Ev.Tok

/-- A sign that no token takes in behind its beginning. -/
structure Stop (z : UInt8) : Prop where
  sg : isSg z = false
  bs : (z == 92) = false
  pt : (z == 46) = false
  pc : (z == 37) = false
  br : (z == 40) = false
  st : (z == 42) = false

theorem Stop.dig {z : UInt8} (h : Stop z) : isDig z = false := by
  have := h.sg
  unfold isSg at this
  simp only [Bool.or_eq_false_iff] at this
  exact this.1.2

theorem nmz {z : UInt8} (hz : Stop z) (t : List UInt8) : (nm (z :: t)).2 = 0 := by
  cases t with
  | nil => simp [nm, hz.sg]
  | cons d r => simp [nm, hz.sg, hz.bs]

theorem nm_cr' {z : UInt8} (hz : Stop z) : ∀ (x t : List UInt8), x.length < (nm (x ++ z :: t)).2 → Cr x
  | [], t, h => by rw [List.nil_append, nmz hz] at h; simp at h
  | [c], t, h => by
    have e : nm ([c] ++ z :: t) = bif c == 92 && z != 10 then (z :: (nm t).1, (nm t).2 + 2) else bif isSg c then (c :: (nm (z :: t)).1, (nm (z :: t)).2 + 1) else ([], 0) := by
      show nm (c :: z :: t) = _
      rw [nm]
    rw [e, nmz hz] at h
    cases h1 : (c == 92) with
    | true =>
      have : c = 92 := by simpa using h1
      subst this; exact .one
    | false =>
      rw [h1] at h
      simp only [Bool.false_and, cond_false] at h
      cases h2 : isSg c <;> rw [h2] at h <;> simp at h
  | c :: d :: r, t, h => by
    have e : nm (c :: d :: r ++ z :: t) = bif c == 92 && d != 10 then (d :: (nm (r ++ z :: t)).1, (nm (r ++ z :: t)).2 + 2) else bif isSg c then (c :: (nm (d :: r ++ z :: t)).1, (nm (d :: r ++ z :: t)).2 + 1) else ([], 0) := by
      show nm (c :: d :: (r ++ z :: t)) = _
      rw [nm]; rfl
    rw [e] at h
    cases h1 : (c == 92 && d != 10) with
    | true =>
      rw [h1] at h
      simp only [cond_true, List.length_cons] at h
      rw [Bool.and_eq_true] at h1
      have h92 : c = 92 := by simpa using h1.1
      have h10 : d ≠ 10 := by simpa using h1.2
      subst h92
      exact .es h10 (nm_cr' hz r t (by omega))
    | false =>
      rw [h1] at h
      simp only [cond_false] at h
      cases h2 : isSg c with
      | true =>
        rw [h2] at h
        simp only [cond_true, List.length_cons] at h
        exact .sg h2 (nm_cr' hz (d :: r) t (by simp only [List.length_cons]; omega))
      | false => rw [h2] at h; simp at h


theorem cnt_app' (p : UInt8 → Bool) {z : UInt8} (h : p z = false) (t : List UInt8) : ∀ s : List UInt8, cnt p (s ++ z :: t) = cnt p s
  | [] => by unfold cnt; rw [List.nil_append, List.takeWhile_cons, h]; rfl
  | a :: r => by
    have ih := cnt_app' p h t r
    unfold cnt at ih ⊢
    rw [List.cons_append, List.takeWhile_cons, List.takeWhile_cons]
    cases p a with
    | true => simp only [if_true, List.length_cons]; rw [ih]
    | false => rfl


theorem frc_app' {z : UInt8} (hz : Stop z) (t : List UInt8) (s : List UInt8) : frc (s ++ z :: t) = frc s := by
  cases s with
  | nil => rw [List.nil_append, frc_cons, hz.pt]; rfl
  | cons a r =>
    show (bif a == 46 then cnt isDig (r ++ z :: t) else 0) = bif a == 46 then cnt isDig r else 0
    rw [cnt_app' isDig hz.dig]


theorem hd1_app' {z : UInt8} (s t : List UInt8) (c : UInt8) (hs : s ≠ []) : hd1 (s ++ z :: t) c = hd1 s c := by
  cases s with
  | nil => exact absurd rfl hs
  | cons a r => rfl


theorem hd1_app2' {z : UInt8} (s t : List UInt8) (c : UInt8) (hc : (z == c) = false) : hd1 (s ++ z :: t) c = hd1 s c := by
  cases s with
  | nil => exact hc
  | cons a r => rfl


theorem sgn_app' {z : UInt8} (s t : List UInt8) (hs : s ≠ []) : sgn (s ++ z :: t) = sgn s := by
  cases s with
  | nil => exact absurd rfl hs
  | cons a r => rfl


theorem drop_app' {z : UInt8} (s t : List UInt8) (n : Nat) (h : n ≤ s.length) : (s ++ z :: t).drop n = s.drop n ++ z :: t := List.drop_append_of_le_length h


theorem whl_app' {z : UInt8} (hz : Stop z) (s t : List UInt8) (hs : s ≠ []) : whl (s ++ z :: t) = whl s := by
  unfold whl
  rw [sgn_app' s t hs, drop_app' s t _ (sgn_le s).1, cnt_app' isDig hz.dig]


theorem bhd_app' {z : UInt8} (hz : Stop z) (s t : List UInt8) (hs : s ≠ []) : bhd (s ++ z :: t) = bhd s := by
  unfold bhd
  rw [sgn_app' s t hs, whl_app' hz s t hs, drop_app' s t _ (whl_le s), frc_app' hz]


theorem nlen_app' {z : UInt8} (hz : Stop z) (s t : List UInt8) (hs : s ≠ []) : nlen (s ++ z :: t) = nlen s := by
  unfold nlen
  rw [sgn_app' s t hs, whl_app' hz s t hs, bhd_app' hz s t hs]


/-- Does a text's end want more? -/
def Unfin (z : UInt8) (s : List UInt8) : Prop := ∃ u, (cutP s).getLast? = some u ∧ (u.1 = 6 ∨ (u.1 = 8 ∧ isBlank z = true) ∨ u.1 = 9)

theorem unfin6 {z : UInt8} {x : List UInt8} (h : Cr x) : Unfin z x := by
  obtain ⟨u, h1, h2⟩ := last6 _ x (Nat.le_refl _) h
  exact ⟨u, h1, .inl h2⟩

theorem tok1_app' {z : UInt8} (hz : Stop z) (s t : List UInt8) (hs : s ≠ []) : (tok1 (s ++ z :: t)).2.1 ≤ s.length ∨ Unfin z s := by
  by_cases hle : (tok1 (s ++ z :: t)).2.1 ≤ s.length
  · exact .inl hle
  right
  have hpos : 0 < s.length := List.length_pos_iff.2 hs
  have d1 : (s ++ z :: t).drop 1 = s.drop 1 ++ z :: t := drop_app' s t 1 (by omega)
  by_cases hb : cnt isBlank (s ++ z :: t) > 0
  · have e : tok1 (s ++ z :: t) = (8, cnt isBlank (s ++ z :: t), [], 0) := by unfold tok1; rw [if_pos hb]
    rw [e] at hle
    simp only at hle
    have h2 := cnt_take isBlank (s ++ z :: t) s.length
    rw [List.take_left'  rfl] at h2
    have h3 : cnt isBlank s = s.length := by omega
    have hzb : isBlank z = true := by
      cases hzz : isBlank z with
      | true => rfl
      | false => rw [cnt_app' isBlank hzz] at hle; have := cnt_le isBlank s; omega
    have e2 : tok1 s = (8, cnt isBlank s, [], 0) := by unfold tok1; rw [if_pos (by omega)]
    obtain ⟨u, hu, hk⟩ := cut_whole s hs (by rw [e2]; exact h3)
    exact ⟨u, hu, .inr (.inl ⟨by rw [hk, e2], hzb⟩)⟩
  have hb2 : ¬ cnt isBlank s > 0 := by
    have h2 := cnt_take isBlank (s ++ z :: t) s.length
    rw [List.take_left' rfl] at h2
    omega
  by_cases hn : 0 < nlen s
  · have hn2 : 0 < nlen (s ++ z :: t) := by rw [nlen_app' hz s t hs]; exact hn
    rw [tok1_num _ hn2] at hle
    unfold numT at hle
    have hnl := nlen_le s
    rw [nlen_app' hz s t hs, drop_app' s t _ hnl, hd1_app2' _ t 37 hz.pc] at hle
    cases h37 : hd1 (s.drop (nlen s)) 37 with
    | true =>
      have := hd1_pos h37
      rw [List.length_drop] at this
      rw [h37] at hle
      simp only [cond_true] at hle
      omega
    | false =>
      rw [h37] at hle
      simp only [cond_false] at hle
      cases hbg : bg (s.drop (nlen s) ++ z :: t) with
      | false => rw [hbg] at hle; simp only [cond_false] at hle; omega
      | true =>
        rw [hbg] at hle
        simp only [cond_true] at hle
        have hc : Cr (s.drop (nlen s)) := nm_cr' hz _ t (by rw [List.length_drop]; omega)
        obtain ⟨c1, c2⟩ := cr_nm hc
        have e : tok1 s = bif bg (s.drop (nlen s)) then (7, nlen s + (nm (s.drop (nlen s))).2, (nm (s.drop (nlen s))).1.map lowB, nval s) else (7, nlen s, [], nval s) := by
          rw [tok1_num s hn]; unfold numT; rw [h37]; rfl
        cases hbs : bg (s.drop (nlen s)) with
        | true =>
          rw [hbs, cond_true] at e
          obtain ⟨u, hu, h6⟩ := unfin6 (z := z) Cr.one
          exact ⟨u, cut_last s hs u (by rw [e]; simp only; rw [← List.drop_drop, c2]; exact hu), h6⟩
        | false =>
          rw [hbs, cond_false] at e
          obtain ⟨u, hu, h6⟩ := unfin6 (z := z) hc
          exact ⟨u, cut_last s hs u (by rw [e]; exact hu), h6⟩
  have hn2 : ¬ nlen (s ++ z :: t) > 0 := by rw [nlen_app' hz s t hs]; exact hn
  have hh := hd1_app' (z := z) s t
  have e' : tok1 (s ++ z :: t) = bif hd1 s 47 && hd1 (s.drop 1 ++ z :: t) 42 then (9, noteN (s ++ z :: t), [], 0)
      else bif hd1 s 39 || hd1 s 34 then
        bif (tx (s.getD 0 0) (s.drop 1 ++ z :: t)).1 then (5, 1 + (tx (s.getD 0 0) (s.drop 1 ++ z :: t)).2.1, (tx (s.getD 0 0) (s.drop 1 ++ z :: t)).2.2, 0) else (6, 1 + (tx (s.getD 0 0) (s.drop 1 ++ z :: t)).2.1, [], 0)
      else bif hd1 s 35 && decide (1 < (s ++ z :: t).length) && (isSg ((s ++ z :: t).getD 1 0) || esc (s.drop 1 ++ z :: t)) then (4, 1 + (nm (s.drop 1 ++ z :: t)).2, (nm (s.drop 1 ++ z :: t)).1, 0)
      else bif hd1 s 64 && bg (s.drop 1 ++ z :: t) then (3, 1 + (nm (s.drop 1 ++ z :: t)).2, (nm (s.drop 1 ++ z :: t)).1, 0)
      else bif bg (s ++ z :: t) then nameT (s ++ z :: t)
      else (oneK (s.getD 0 0), 1, [], 0) := by
    have g : (s ++ z :: t).getD 0 0 = s.getD 0 0 := by
      cases s with
      | nil => exact absurd rfl hs
      | cons a r => rfl
    unfold tok1
    rw [if_neg hb, if_neg hn2, hh _ hs, hh _ hs, hh _ hs, hh _ hs, hh _ hs, d1, g]
  have e0 : tok1 s = bif hd1 s 47 && hd1 (s.drop 1) 42 then (9, noteN s, [], 0)
      else bif hd1 s 39 || hd1 s 34 then
        bif (tx (s.getD 0 0) (s.drop 1)).1 then (5, 1 + (tx (s.getD 0 0) (s.drop 1)).2.1, (tx (s.getD 0 0) (s.drop 1)).2.2, 0) else (6, 1 + (tx (s.getD 0 0) (s.drop 1)).2.1, [], 0)
      else bif hd1 s 35 && decide (1 < s.length) && (isSg (s.getD 1 0) || esc (s.drop 1)) then (4, 1 + (nm (s.drop 1)).2, (nm (s.drop 1)).1, 0)
      else bif hd1 s 64 && bg (s.drop 1) then (3, 1 + (nm (s.drop 1)).2, (nm (s.drop 1)).1, 0)
      else bif bg s then nameT s
      else (oneK (s.getD 0 0), 1, [], 0) := by
    unfold tok1
    rw [if_neg hb2, if_neg hn]
  rw [hd1_app2' _ t 42 hz.st] at e'
  cases h1 : (hd1 s 47 && hd1 (s.drop 1) 42) with
  | true =>
    rw [h1, cond_true] at e' e0
    rw [e'] at hle
    simp only at hle
    have hw : noteN s = s.length := by
      unfold noteN
      by_cases hi : Go.Lib.index (s.drop 2) [42, 47] ≥ 0
      · exfalso
        apply hle
        rw [Bool.and_eq_true] at h1
        have h2 := hd1_pos h1.2
        rw [List.length_drop] at h2
        unfold noteN
        rw [drop_app' s t 2 (by omega), idx_app _ _ hi, if_pos hi]
        have := idx_le _ hi
        rw [List.length_drop] at this
        omega
      · rw [if_neg hi]
    obtain ⟨u, hu, hk⟩ := cut_whole s hs (by rw [e0]; exact hw)
    exact ⟨u, hu, .inr (.inr (by rw [hk, e0]))⟩
  | false =>
    rw [h1, cond_false] at e' e0
    cases h2 : (hd1 s 39 || hd1 s 34) with
    | true =>
      rw [h2, cond_true] at e' e0
      have hlen : (s.drop 1).length < (tx (s.getD 0 0) (s.drop 1 ++ z :: t)).2.1 := by
        rw [e'] at hle
        rw [List.length_drop]
        cases hx : (tx (s.getD 0 0) (s.drop 1 ++ z :: t)).1 with
        | true => rw [hx, cond_true] at hle; simp only at hle; omega
        | false => rw [hx, cond_false] at hle; simp only at hle; omega
      obtain ⟨x1, x2⟩ := tx_app _ _ _ hlen
      rw [x1, cond_false, x2] at e0
      obtain ⟨u, hu, hk⟩ := cut_whole s hs (by rw [e0]; simp only [List.length_drop]; omega)
      exact ⟨u, hu, .inl (by rw [hk, e0])⟩
    | false =>
      rw [h2, cond_false] at e' e0
      have one : ∀ x c, s = c :: x → Cr x → hd1 s 35 = true ∨ hd1 s 64 = true → Unfin z s := by
        intro x c hsx hc hcc
        obtain ⟨c1, c2⟩ := cr_nm hc
        have hx := List.length_pos_iff.2 (cr_ne hc)
        subst hsx
        have hbg : bg (c :: x) = false := by
          match x, hc with
          | [], hc => exact absurd rfl (cr_ne hc)
          | d :: r, hc =>
            rw [bg_cons]
            rcases hcc with h | h
            · have : c = 35 := by simpa [hd1] using h
              subst this; rfl
            · have : c = 64 := by simpa [hd1] using h
              subst this; rfl
        have dd : (c :: x).drop 1 = x := rfl
        rw [hbg, cond_false, dd] at e0
        obtain ⟨u6, hu6, h66⟩ := unfin6 (z := z) Cr.one
        obtain ⟨ux, hux, h6x⟩ := unfin6 (z := z) hc
        have done1 : tok1 (c :: x) = (oneK ((c :: x).getD 0 0), 1, [], 0) → Unfin z (c :: x) := fun e => ⟨ux, cut_last _ hs ux (by rw [e]; exact hux), h6x⟩
        have done2 : ∀ k, tok1 (c :: x) = (k, 1 + (nm x).2, (nm x).1, 0) → Unfin z (c :: x) := fun k e => ⟨u6, cut_last _ hs u6 (by rw [e]; simp only; rw [Nat.add_comm, List.drop_succ_cons, c2]; exact hu6), h66⟩
        cases h3 : (hd1 (c :: x) 35 && decide (1 < (c :: x).length) && (isSg ((c :: x).getD 1 0) || esc x)) with
        | true => rw [h3, cond_true] at e0; exact done2 _ e0
        | false =>
          rw [h3, cond_false] at e0
          cases h4 : (hd1 (c :: x) 64 && bg x) with
          | true => rw [h4, cond_true] at e0; exact done2 _ e0
          | false => rw [h4, cond_false] at e0; exact done1 e0
      obtain ⟨c, x, hsx⟩ : ∃ c x, s = c :: x := by
        cases s with
        | nil => exact absurd rfl hs
        | cons a r => exact ⟨a, r, rfl⟩
      have hxl : s.length = x.length + 1 := by rw [hsx]; rfl
      have hdx : s.drop 1 = x := by rw [hsx]; rfl
      cases h3 : (hd1 s 35 && decide (1 < (s ++ z :: t).length) && (isSg ((s ++ z :: t).getD 1 0) || esc (s.drop 1 ++ z :: t))) with
      | true =>
        rw [h3, cond_true] at e'
        rw [e', hdx] at hle
        simp only at hle
        rw [Bool.and_eq_true, Bool.and_eq_true] at h3
        exact one x c hsx (nm_cr' hz x t (by omega)) (.inl h3.1.1)
      | false =>
        rw [h3, cond_false] at e'
        cases h4 : (hd1 s 64 && bg (s.drop 1 ++ z :: t)) with
        | true =>
          rw [h4, cond_true] at e'
          rw [e', hdx] at hle
          simp only at hle
          rw [Bool.and_eq_true] at h4
          exact one x c hsx (nm_cr' hz x t (by omega)) (.inr h4.1)
        | false =>
          rw [h4, cond_false] at e'
          cases h5 : bg (s ++ z :: t) with
          | false =>
            rw [h5, cond_false] at e'
            rw [e'] at hle
            simp only at hle
            omega
          | true =>
            rw [h5, cond_true] at e'
            rw [e'] at hle
            by_cases hm : (nm (s ++ z :: t)).2 ≤ s.length
            · exfalso
              apply hle
              unfold nameT
              rw [drop_app' s t _ hm, hd1_app2' _ t 40 hz.br]
              cases h40 : hd1 (s.drop (nm (s ++ z :: t)).2) 40 with
              | true =>
                have := hd1_pos h40
                rw [List.length_drop] at this
                simp only [cond_true]; omega
              | false => exact hm
            · exact unfin6 (z := z) (nm_cr' hz s t (by omega))


theorem cut_apart' {z : UInt8} (hz : Stop z) (t : List UInt8) : ∀ (n : Nat) (s : List UInt8), s.length ≤ n → ¬ Unfin z s → cutP (s ++ z :: t) = cutP s ++ cutP (z :: t)
  | 0, s, hn, ho => by
    have : s = [] := List.length_eq_zero_iff.1 (by omega)
    subst this; rfl
  | n + 1, s, hn, ho => by
    by_cases hs : s = []
    · subst hs; rfl
    have h1 := tok1_ok s hs
    have hle : (tok1 (s ++ z :: t)).2.1 ≤ s.length := (tok1_app' hz s t hs).resolve_right ho
    have hne : s ++ z :: t ≠ [] := by simp
    have e := tok1_take (s ++ z :: t) hne s.length hle
    rw [List.take_left' rfl] at e
    rw [← e] at hle
    rw [cutP_cons _ hne, ← e, drop_app' s t _ hle, cutP_cons s hs]
    have e2 : tokO (s ++ z :: t) (tok1 s) = tokO s (tok1 s) := by
      unfold tokO
      rw [List.take_append_of_le_length hle]
    rw [e2, List.cons_append]
    congr 1
    apply cut_apart' hz t n _ (by rw [List.length_drop]; omega)
    rintro ⟨u, hu, hk⟩
    exact ho ⟨u, cut_last s hs u hu, hk⟩


end Go.Ev.Tok

-- from EvTkR
set_option linter.unusedVariables false
set_option linter.unusedSimpArgs false
namespace Go.Ev.Tok

abbrev Tk := Int × List UInt8 × List UInt8 × Int

/-- The text of tokens. -/
def rw (l : List Tk) : List UInt8 := (l.map fun t => t.2.1).flatten

theorem rw_nil : rw [] = [] := rfl
theorem rw_cons (t : Tk) (l : List Tk) : rw (t :: l) = t.2.1 ++ rw l := rfl
theorem rw_app (a b : List Tk) : rw (a ++ b) = rw a ++ rw b := by unfold rw; rw [List.map_append, List.flatten_append]
theorem rw_cut (s : List UInt8) : rw (cutP s) = s := (cutP_raw _ s (Nat.le_refl _)).1
theorem raw_ne {s : List UInt8} {t : Tk} (h : t ∈ cutP s) : t.2.1 ≠ [] := (cutP_raw _ s (Nat.le_refl _)).2 t h

/-- The first tokens of a text are those of the text up to there, the others those of the rest. -/
theorem cut_split : ∀ (A B : List Tk) (s : List UInt8), cutP s = A ++ B → cutP (rw A) = A ∧ cutP (rw B) = B ∧ s = rw A ++ rw B
  | [], B, s, h => by
    have := rw_cut s
    rw [h] at this
    refine ⟨rfl, ?_, ?_⟩
    · rw [List.nil_append] at this; rw [this, h]; rfl
    · rw [List.nil_append] at this; rw [rw_nil, List.nil_append, this]
  | a :: A, B, s, h => by
    by_cases hs : s = []
    · subst hs; rw [cutP_nil] at h; cases h
    · have h1 := tok1_ok s hs
      rw [cutP_cons s hs, List.cons_append] at h
      simp only [List.cons.injEq] at h
      obtain ⟨ha, hr⟩ := h
      obtain ⟨i1, i2, i3⟩ := cut_split A B _ hr
      have hra : a.2.1 = s.take (tok1 s).2.1 := by rw [← ha]; rfl
      have hS : s = s.take (tok1 s).2.1 ++ (rw A ++ rw B) := by rw [← i3, List.take_append_drop]
      have hlen : (s.take (tok1 s).2.1).length = (tok1 s).2.1 := by rw [List.length_take]; omega
      refine ⟨?_, i2, by rw [rw_cons, hra, List.append_assoc]; exact hS⟩
      have hs' : rw (a :: A) = s.take ((tok1 s).2.1 + (rw A).length) := by
        have hS2 : s = rw (a :: A) ++ rw B := by rw [rw_cons, hra, List.append_assoc]; exact hS
        have hl2 : (rw (a :: A)).length = (tok1 s).2.1 + (rw A).length := by rw [rw_cons, hra, List.length_append, hlen]
        rw [← hl2]
        have := congrArg (List.take (rw (a :: A)).length) hS2
        rw [List.take_left' rfl] at this
        exact this.symm
      have hne : rw (a :: A) ≠ [] := by
        intro he
        have := congrArg List.length he
        rw [rw_cons, hra, List.length_append, hlen] at this
        simp at this; omega
      have ht : tok1 (rw (a :: A)) = tok1 s := by rw [hs']; exact tok1_take s hs _ (by omega)
      rw [cutP_cons _ hne, ht]
      have e1 : (rw (a :: A)).drop (tok1 s).2.1 = rw A := by rw [rw_cons, hra, List.drop_left' hlen]
      have e2 : tokO (rw (a :: A)) (tok1 s) = a := by
        have h3 : (rw (a :: A)).take (tok1 s).2.1 = s.take (tok1 s).2.1 := by rw [rw_cons, hra, List.take_left' hlen]
        have h4 : tokO (rw (a :: A)) (tok1 s) = tokO s (tok1 s) := by unfold tokO; rw [h3]
        rw [h4, ha]
      rw [e1, e2, i1]

theorem cut_seg {A R B : List Tk} {s : List UInt8} (h : cutP s = A ++ R ++ B) : cutP (rw R) = R := by
  have h1 := (cut_split (A ++ R) B s h).1
  exact (cut_split A R _ h1).2.1

/-- A list of tokens that is what its text is cut into. -/
def Cut (l : List Tk) : Prop := cutP (rw l) = l

theorem Cut.of (s : List UInt8) : Cut (cutP s) := by unfold Cut; rw [rw_cut]
theorem Cut.left {a b : List Tk} (h : Cut (a ++ b)) : Cut a := (cut_split a b _ h).1
theorem Cut.right {a b : List Tk} (h : Cut (a ++ b)) : Cut b := (cut_split a b _ h).2.1
theorem Cut.ne {l : List Tk} (h : Cut l) {t : Tk} (ht : t ∈ l) : t.2.1 ≠ [] := by
  unfold Cut at h
  rw [← h] at ht
  exact raw_ne ht

def silT (t : Tk) : Bool := t.1 == 8 || t.1 == 9
def SP : Tk := (8, [32], [], 0)

/-- Tokens with one blank for all blanks and remarks in a row, and none at the ends. -/
def nrmF : Nat → List Tk → List Tk
  | 0, _ => []
  | n + 1, l => match l.dropWhile silT with
    | [] => []
    | t :: r => ((t :: r).takeWhile fun t => !silT t) ++ match nrmF n ((t :: r).dropWhile fun t => !silT t) with
      | [] => []
      | m => SP :: m

def nrm (l : List Tk) : List Tk := nrmF (l.length + 1) l

theorem drop_le {α : Type} (p : α → Bool) (l : List α) : (l.dropWhile p).length ≤ l.length := (List.dropWhile_sublist p).length_le

theorem nrmF_more : ∀ (n m : Nat) (l : List Tk), l.length < n → n ≤ m → nrmF m l = nrmF n l
  | 0, m, l, h, _ => by omega
  | n + 1, 0, l, _, h => by omega
  | n + 1, m + 1, l, h, hm => by
    unfold nrmF
    cases hd : l.dropWhile silT with
    | nil => rfl
    | cons t r =>
      have h1 := drop_le silT l
      rw [hd] at h1
      have h2 : ((t :: r).dropWhile fun t => !silT t).length < (t :: r).length := by
        have ht : silT t = false := by
          have := List.head?_dropWhile_not silT l
          rw [hd] at this
          simpa using this
        rw [List.dropWhile_cons, ht]
        simp only [Bool.not_false, if_true]
        have := drop_le (fun t => !silT t) r
        simp only [List.length_cons]; omega
      simp only
      rw [nrmF_more n m _ (by omega) (by omega)]

theorem mem_tw {α : Type} {p : α → Bool} {l : List α} {u : α} (h : u ∈ l.takeWhile p) : p u = true := by
  induction l with
  | nil => cases h
  | cons a l ih =>
    rw [List.takeWhile_cons] at h
    split at h
    · next hp => rcases List.mem_cons.1 h with e | e
                 · rw [e]; exact hp
                 · exact ih e
    · cases h

/-- How a list of tokens goes on: blanks, a run of others, the rest. -/
theorem parts (l : List Tk) : l.dropWhile silT = [] ∨ ∃ S R r, l = S ++ R ++ r ∧ (∀ t ∈ S, silT t = true) ∧ R ≠ [] ∧ (∀ t ∈ R, silT t = false) ∧ (r = [] ∨ ∃ u r', r = u :: r' ∧ silT u = true) ∧
    nrm l = R ++ match nrm r with
      | [] => []
      | m => SP :: m := by
  cases hd : l.dropWhile silT with
  | nil => exact .inl rfl
  | cons t r =>
    right
    have ht : silT t = false := by
      have := List.head?_dropWhile_not silT l
      rw [hd] at this
      simpa using this
    refine ⟨l.takeWhile silT, (t :: r).takeWhile fun t => !silT t, (t :: r).dropWhile fun t => !silT t, ?_, ?_, ?_, ?_, ?_, ?_⟩
    · rw [List.append_assoc, List.takeWhile_append_dropWhile, ← hd, List.takeWhile_append_dropWhile]
    · intro u hu; exact mem_tw hu
    · rw [List.takeWhile_cons, ht]; simp
    · intro u hu; have := mem_tw hu; simpa using this
    · cases hr : (t :: r).dropWhile fun t => !silT t with
      | nil => exact .inl rfl
      | cons u r' =>
        refine .inr ⟨u, r', rfl, ?_⟩
        have := List.head?_dropWhile_not (fun t => !silT t) (t :: r)
        rw [hr] at this
        simpa using this
    · have h1 := drop_le silT l
      rw [hd] at h1
      have h2 : ((t :: r).dropWhile fun t => !silT t).length < (t :: r).length := by
        rw [List.dropWhile_cons, ht]
        simp only [Bool.not_false, if_true]
        have := drop_le (fun t => !silT t) r
        simp only [List.length_cons]; omega
      have e : nrm l = ((t :: r).takeWhile fun t => !silT t) ++ match nrmF l.length ((t :: r).dropWhile fun t => !silT t) with
          | [] => []
          | m => SP :: m := by
        unfold nrm
        rw [nrmF, hd]
      rw [e]
      have e2 : nrm ((t :: r).dropWhile fun t => !silT t) = nrmF l.length ((t :: r).dropWhile fun t => !silT t) := by
        unfold nrm
        exact (nrmF_more _ _ _ (Nat.lt_succ_self _) (by omega)).symm
      rw [e2]

theorem nrm_sil (l : List Tk) (h : l.dropWhile silT = []) : nrm l = [] := by
  unfold nrm; rw [nrmF, h]

end Go.Ev.Tok

-- from EvTkF
set_option linter.unusedVariables false
set_option linter.unusedSimpArgs false
namespace Go.Ev.Tok

def opT (t : Tk) : Bool := t.1 == 10 || t.1 == 2
def clT (t : Tk) : Bool := t.1 == 11
def badT (t : Tk) : Bool := t.1 == 6
def atT (t : Tk) : Bool := t.1 == 3
def rawT (t : Tk) (k : Int) (s : List UInt8) : Bool := t.1 == k && t.2.1 == s
def semT (t : Tk) : Bool := rawT t 12 [59]
def colT (t : Tk) : Bool := rawT t 12 [58]
def mrkT (t : Tk) : Bool := rawT t 12 [33]
def brcT (t : Tk) : Bool := rawT t 10 [123]
def fldT (t : Tk) (s : List UInt8) : Bool := t.2.2.1.map lowB == s.map lowB

/-- What closes what a token opens. -/
def clo (t : Tk) : List UInt8 := bif t.2.1.getLastD 0 == 91 then [93] else bif t.2.1.getLastD 0 == 123 then [125] else [41]

/-- Behind what opens: how many tokens up to where all is closed, and if it is. -/
def blk : List (List UInt8) → List Tk → Nat × Bool
  | _, [] => (0, false)
  | w, t :: r =>
    bif opT t then ((blk (clo t :: w) r).1 + 1, (blk (clo t :: w) r).2)
    else bif clT t && t.2.1 == w.headD [] then
      bif w.tail.isEmpty then (1, true) else ((blk w.tail r).1 + 1, (blk w.tail r).2)
    else ((blk w r).1 + 1, (blk w r).2)

/-- How many tokens are ahead of the first one outside of blocks for which it is so. -/
def fnd (p : Tk → Bool) : Nat → List Tk → Nat
  | 0, _ => 0
  | _ + 1, [] => 0
  | n + 1, t :: r => bif p t then 0 else bif opT t then (blk [clo t] r).1 + 1 + fnd p n (r.drop (blk [clo t] r).1) else fnd p n r + 1

/-- May a value be so? -/
def fair : Nat → List Tk → Bool
  | 0, _ => false
  | _ + 1, [] => true
  | n + 1, t :: r =>
    bif badT t || brcT t || clT t then false
    else bif opT t then (blk [clo t] r).2 && (fair n (r.take ((blk [clo t] r).1 - 1)) && fair n (r.drop (blk [clo t] r).1))
    else fair n r

def trimE (l : List Tk) : List Tk := (l.reverse.dropWhile silT).reverse
def sol (l : List Tk) : List Tk := trimE (l.dropWhile silT)

def word : List UInt8 := [105, 109, 112, 111, 114, 116, 97, 110, 116]

def imp (l : List Tk) : List Tk × Bool :=
  match (sol l).getLast? with
  | none => (sol l, false)
  | some t => bif t.1 != 1 || !fldT t word then (sol l, false) else
    match (sol (sol l).dropLast).getLast? with
    | none => (sol l, false)
    | some m => bif mrkT m then (sol (sol (sol l).dropLast).dropLast, true) else (sol l, false)

def plainP (s : List UInt8) : Bool := match cutP s with
  | [t] => t.1 == 1 && t.2.2.1 == s && t.2.1 == s
  | _ => false

def ownP (s : List UInt8) : Bool := [45, 45].isPrefixOf s
def nmP (s : List UInt8) : List UInt8 := bif ownP s then s else s.map lowB

/-- The text of tokens, one blank for all blanks and remarks in a row. -/
def hdP : Bool → Bool → List Tk → List UInt8
  | _, _, [] => []
  | any, gap, t :: r => bif silT t then hdP any any r else (bif gap then [32] else []) ++ t.2.1 ++ hdP true false r

abbrev Dc := List UInt8 × List UInt8 × Bool

theorem tx_val (q : UInt8) : ∀ s : List UInt8, (tx q s).2.2.length ≤ (tx q s).2.1
  | [] => by simp [tx]
  | [c] => by unfold tx; cases (c == q) <;> cases (c == 10) <;> simp
  | c :: d :: r => by
    have h1 := tx_val q r
    have h2 := tx_val q (d :: r)
    unfold tx
    cases (c == q) <;> cases (c == 10) <;> cases (c == 92) <;> simp at h2 ⊢ <;> omega

theorem tok1_val (s : List UInt8) : (tok1 s).2.2.1.length ≤ (tok1 s).2.1 := by
  have t1 := tx_val (s.getD 0 0) (s.drop 1)
  have n1 := nm_len (s.drop 1)
  have n2 := nm_len (s.drop (nlen s))
  have n3 := nm_len s
  unfold tok1
  split
  · simp
  cases (hd1 s 47 && hd1 (s.drop 1) 42)
  · cases (hd1 s 39 || hd1 s 34)
    · cases (hd1 s 35 && decide (1 < s.length) && (isSg (s.getD 1 0) || esc (s.drop 1)))
      · cases (hd1 s 64 && bg (s.drop 1))
        · simp only [cond_false]
          split
          · unfold numT
            cases hd1 (s.drop (nlen s)) 37 <;> cases bg (s.drop (nlen s)) <;> simp only [cond_true, cond_false, List.length_nil, List.length_map, List.length_cons] <;> omega
          · cases bg s
            · simp
            · unfold nameT
              cases hd1 (s.drop (nm s).2) 40 <;> simp only [cond_true, cond_false, List.length_nil, List.length_map, List.length_cons] <;> omega
        · simp only [cond_true, cond_false]; omega
      · simp only [cond_true, cond_false]; omega
    · cases (tx (s.getD 0 0) (s.drop 1)).1 <;> simp only [cond_true, cond_false, List.length_nil, List.length_map, List.length_cons] <;> omega
  · simp

theorem cut_val : ∀ (n : Nat) (s : List UInt8), s.length ≤ n → ∀ t ∈ cutP s, t.2.2.1.length ≤ t.2.1.length
  | 0, s, h, t, ht => by
    have : s = [] := List.length_eq_zero_iff.1 (by omega)
    subst this
    simp [cutP_nil] at ht
  | n + 1, s, h, t, ht => by
    by_cases hs : s = []
    · subst hs
      simp [cutP_nil] at ht
    · have h1 := tok1_ok s hs
      rw [cutP_cons s hs] at ht
      rcases List.mem_cons.1 ht with e | e
      · rw [e]
        show (tok1 s).2.2.1.length ≤ (s.take (tok1 s).2.1).length
        have := tok1_val s
        rw [List.length_take]; omega
      · exact cut_val n _ (by rw [List.length_drop]; omega) t e

theorem blk_len : ∀ (l : List Tk) (w : List (List UInt8)), (blk w l).1 ≤ l.length
  | [], w => by simp [blk]
  | t :: r, w => by
    unfold blk
    cases opT t with
    | true => simp only [cond_true, List.length_cons]; have := blk_len r (clo t :: w); omega
    | false =>
      simp only [cond_false]
      cases (clT t && t.2.1 == w.headD []) with
      | false => simp only [cond_false, List.length_cons]; have := blk_len r w; omega
      | true =>
        simp only [cond_true]
        cases w.tail.isEmpty with
        | true => simp
        | false => simp only [cond_false, List.length_cons]; have := blk_len r w.tail; omega

/-- Where a block is not closed it goes to the end. -/
theorem blk_open : ∀ (l : List Tk) (w : List (List UInt8)), (blk w l).2 = false → (blk w l).1 = l.length
  | [], w, _ => by simp [blk]
  | t :: r, w, h => by
    unfold blk at h ⊢
    cases ho : opT t with
    | true => rw [ho] at h; simp only [cond_true, List.length_cons] at h ⊢; rw [blk_open r _ h]
    | false =>
      rw [ho] at h
      simp only [cond_false] at h ⊢
      cases hc : (clT t && t.2.1 == w.headD []) with
      | false => rw [hc] at h; simp only [cond_false, List.length_cons] at h ⊢; rw [blk_open r _ h]
      | true =>
        rw [hc] at h
        simp only [cond_true] at h ⊢
        cases hw : w.tail.isEmpty with
        | true => rw [hw] at h; simp at h
        | false => rw [hw] at h; simp only [cond_false, List.length_cons] at h ⊢; rw [blk_open r _ h]

theorem blk_pos : ∀ (l : List Tk) (w : List (List UInt8)), (blk w l).2 = true → 1 ≤ (blk w l).1
  | [], w, h => by simp [blk] at h
  | t :: r, w, h => by
    unfold blk
    cases opT t with
    | true => simp only [cond_true]; omega
    | false =>
      simp only [cond_false]
      cases (clT t && t.2.1 == w.headD []) with
      | false => simp only [cond_false]; omega
      | true =>
        simp only [cond_true]
        cases w.tail.isEmpty with
        | true => simp
        | false => simp only [cond_false]; omega

theorem fair_more : ∀ (n m : Nat) (l : List Tk), l.length < n → n ≤ m → fair m l = fair n l
  | 0, m, l, h, _ => by omega
  | n + 1, 0, l, _, h => by omega
  | n + 1, m + 1, [], h, hm => rfl
  | n + 1, m + 1, t :: r, h, hm => by
    simp only [List.length_cons] at h
    rw [fair, fair]
    have hb := blk_len r [clo t]
    rw [fair_more n m (r.take ((blk [clo t] r).1 - 1)) (by rw [List.length_take]; omega) (by omega), fair_more n m (r.drop (blk [clo t] r).1) (by rw [List.length_drop]; omega) (by omega), fair_more n m r (by omega) (by omega)]

theorem fnd_more (p : Tk → Bool) : ∀ (n m : Nat) (l : List Tk), l.length < n → n ≤ m → fnd p m l = fnd p n l
  | 0, m, l, h, _ => by omega
  | n + 1, 0, l, _, h => by omega
  | n + 1, m + 1, [], h, hm => rfl
  | n + 1, m + 1, t :: r, h, hm => by
    simp only [List.length_cons] at h
    rw [fnd, fnd]
    have hb := blk_len r [clo t]
    rw [fnd_more p n m (r.drop (blk [clo t] r).1) (by rw [List.length_drop]; omega) (by omega), fnd_more p n m r (by omega) (by omega)]

/-- May a value be so? -/
def fairP (l : List Tk) : Bool := fair (l.length + 1) l

theorem fairP_of (n : Nat) (l : List Tk) (h : l.length < n) : fair n l = fairP l := fair_more (l.length + 1) n l (by omega) (by omega)

theorem fairP_cons (t : Tk) (r : List Tk) : fairP (t :: r) = bif badT t || brcT t || clT t then false
    else bif opT t then (blk [clo t] r).2 && (fairP (r.take ((blk [clo t] r).1 - 1)) && fairP (r.drop (blk [clo t] r).1))
    else fairP r := by
  have hb := blk_len r [clo t]
  conv => lhs; unfold fairP
  rw [List.length_cons, fair, fairP_of _ _ (by rw [List.length_take]; omega), fairP_of _ _ (by rw [List.length_drop]; omega), fairP_of _ _ (by omega)]

theorem fnd_len (p : Tk → Bool) : ∀ (n : Nat) (l : List Tk), fnd p n l ≤ l.length
  | 0, l => by simp [fnd]
  | n + 1, [] => by simp [fnd]
  | n + 1, t :: r => by
    unfold fnd
    cases p t with
    | true => simp
    | false =>
      cases opT t with
      | true =>
        simp only [cond_true, cond_false, List.length_cons]
        have := blk_len r [clo t]
        have h2 := fnd_len p n (r.drop (blk [clo t] r).1)
        simp only [List.length_drop] at h2
        omega
      | false => simp only [cond_false, List.length_cons]; have := fnd_len p n r; omega

def dcl (l : List Tk) : Option Dc :=
  match sol l with
  | [] => none
  | t :: r => bif t.1 != 1 then none else
    match sol r with
    | [] => none
    | c :: q => bif !colT c || !plainP (nmP t.2.2.1) then none else
      bif fairP (imp q).1 && (ownP t.2.2.1 || !(hdP false false (imp q).1).isEmpty) then some (nmP t.2.2.1, hdP false false (imp q).1, (imp q).2) else none

def dcls : Nat → List Tk → List Dc
  | 0, _ => []
  | _ + 1, [] => []
  | n + 1, l => (dcl (l.take (fnd semT (l.length + 1) l))).toList ++ dcls n (l.drop (fnd semT (l.length + 1) l + 1))


end Go.Ev.Tok

-- from EvTkG
set_option linter.unusedVariables false
set_option linter.unusedSimpArgs false
namespace Go.Ev.Tok

/-- One walk: with what is to be closed, is it a value, without a semicolon outside of all blocks? -/
def ok : List (List UInt8) → List Tk → Bool
  | w, [] => w.isEmpty
  | w, t :: r =>
    bif badT t || brcT t then false
    else bif opT t then ok (clo t :: w) r
    else bif clT t then !w.isEmpty && (t.2.1 == w.headD [] && ok w.tail r)
    else bif w.isEmpty && semT t then false
    else ok w r

theorem op_kind {t : Tk} (h : opT t = true) : clT t = false ∧ badT t = false ∧ silT t = false ∧ semT t = false := by
  unfold opT at h
  rw [Bool.or_eq_true, beq_iff_eq, beq_iff_eq] at h
  unfold clT badT silT semT rawT
  rcases h with h | h <;> rw [h] <;> simp

theorem cl_kind {t : Tk} (h : clT t = true) : opT t = false ∧ badT t = false ∧ silT t = false ∧ semT t = false ∧ brcT t = false := by
  unfold clT at h
  rw [beq_iff_eq] at h
  unfold opT badT silT semT brcT rawT
  rw [h]; simp

theorem sil_kind {t : Tk} (h : silT t = true) : opT t = false ∧ badT t = false ∧ clT t = false ∧ semT t = false ∧ brcT t = false ∧ colT t = false ∧ mrkT t = false ∧ atT t = false ∧ (t.1 == 1) = false := by
  unfold silT at h
  rw [Bool.or_eq_true, beq_iff_eq, beq_iff_eq] at h
  unfold opT badT clT semT brcT colT mrkT atT rawT
  rcases h with h | h <;> rw [h] <;> simp

/-- What a block ends with. -/
theorem blk_end : ∀ (q : List Tk) (w : List (List UInt8)) (c : List UInt8), (blk (w ++ [c]) q).2 = true →
    ∃ I z D, q = I ++ z :: D ∧ (blk (w ++ [c]) q).1 = I.length + 1 ∧ clT z = true ∧ z.2.1 = c
  | [], w, c, h => by simp [blk] at h
  | t :: r, w, c, h => by
    rw [blk] at h ⊢
    cases ho : opT t with
    | true =>
      rw [ho] at h
      simp only [cond_true] at h ⊢
      obtain ⟨I, z, D, h1, h2, h3, h4⟩ := blk_end r (clo t :: w) c h
      exact ⟨t :: I, z, D, by rw [h1]; rfl, by rw [List.cons_append] at h2; rw [h2]; rfl, h3, h4⟩
    | false =>
      rw [ho] at h
      simp only [cond_false] at h ⊢
      cases hc : (clT t && t.2.1 == (w ++ [c]).headD []) with
      | false =>
        rw [hc] at h
        simp only [cond_false] at h ⊢
        obtain ⟨I, z, D, h1, h2, h3, h4⟩ := blk_end r w c h
        exact ⟨t :: I, z, D, by rw [h1]; rfl, by rw [h2]; rfl, h3, h4⟩
      | true =>
        rw [hc] at h
        simp only [cond_true] at h ⊢
        rw [Bool.and_eq_true, beq_iff_eq] at hc
        match w with
        | [] => exact ⟨[], t, r, rfl, rfl, hc.1, hc.2⟩
        | [a] =>
          simp only [List.cons_append, List.nil_append, List.tail_cons, List.isEmpty_cons, cond_false] at h ⊢
          obtain ⟨I, z, D, h1, h2, h3, h4⟩ := blk_end r [] c h
          exact ⟨t :: I, z, D, by rw [h1]; rfl, by rw [List.nil_append] at h2; rw [h2]; rfl, h3, h4⟩
        | a :: b :: w' =>
          simp only [List.cons_append, List.tail_cons, List.isEmpty_cons, cond_false] at h ⊢
          obtain ⟨I, z, D, h1, h2, h3, h4⟩ := blk_end r (b :: w') c h
          exact ⟨t :: I, z, D, by rw [h1]; rfl, by rw [List.cons_append] at h2; rw [h2]; rfl, h3, h4⟩

/-- How a fair list goes on. -/
theorem fair_split {t : Tk} {q : List Tk} (h : fairP (t :: q) = true) : badT t = false ∧ brcT t = false ∧ clT t = false ∧
    (opT t = false ∧ fairP q = true ∨ opT t = true ∧ ∃ I z D, q = I ++ z :: D ∧ (blk [clo t] q).1 = I.length + 1 ∧ clT z = true ∧ z.2.1 = clo t ∧ fairP I = true ∧ fairP D = true) := by
  rw [fairP_cons] at h
  cases hb : badT t with
  | true => rw [hb] at h; simp at h
  | false =>
    cases hc : brcT t with
    | true => rw [hb, hc] at h; simp at h
    | false =>
      cases hq : clT t with
      | true => rw [hb, hc, hq] at h; simp at h
      | false =>
        rw [hb, hc, hq] at h
        simp only [Bool.or_false, cond_false] at h
        refine ⟨rfl, rfl, rfl, ?_⟩
        cases ho : opT t with
        | false => rw [ho, cond_false] at h; exact .inl ⟨rfl, h⟩
        | true =>
          rw [ho, cond_true, Bool.and_eq_true, Bool.and_eq_true] at h
          obtain ⟨I, z, D, h1, h2, h3, h4⟩ := blk_end q [] (clo t) h.1
          rw [List.nil_append] at h2
          refine .inr ⟨rfl, I, z, D, h1, h2, h3, h4, ?_, ?_⟩
          · have := h.2.1
            rw [h2, h1, Nat.add_sub_cancel, List.take_left' rfl] at this
            exact this
          · have := h.2.2
            rw [h2, h1] at this
            have e : (I ++ z :: D).drop (I.length + 1) = D := by
              rw [show I ++ z :: D = (I ++ [z]) ++ D by simp, List.drop_left' (by simp)]
            rwa [e] at this

/-- A fair list between changes nothing of what is to be closed. -/
theorem ok_fair : ∀ (n : Nat) (i : List Tk), i.length ≤ n → fairP i = true → ∀ (w : List (List UInt8)) (r : List Tk), w ≠ [] → ok w (i ++ r) = ok w r
  | 0, i, h, _, w, r, _ => by
    have : i = [] := List.length_eq_zero_iff.1 (by omega)
    subst this; rfl
  | n + 1, [], h, _, w, r, _ => rfl
  | n + 1, t :: q, h, hf, w, r, hw => by
    obtain ⟨h1, h2, h3, h4⟩ := fair_split hf
    simp only [List.length_cons] at h
    have hwe : w.isEmpty = false := by cases w with
      | nil => exact absurd rfl hw
      | cons a b => rfl
    rw [List.cons_append, ok, h1, h2]
    simp only [Bool.or_false, cond_false]
    rcases h4 with ⟨h5, h6⟩ | ⟨h5, I, z, D, h6, h7, h8, h9, h10, h11⟩
    · rw [h5, h3, hwe]
      simp only [Bool.false_and, cond_false]
      exact ok_fair n q (by omega) h6 w r hw
    · rw [h5, cond_true]
      have hl := congrArg List.length h6
      simp only [List.length_append, List.length_cons] at hl
      obtain ⟨c1, c2, c3, c4, c5⟩ := cl_kind h8
      rw [h6, List.append_assoc, List.cons_append, ok_fair n I (by omega) h10 _ _ (by simp), ok, c2, c5, c1, h8]
      simp only [Bool.or_false, cond_false, cond_true, List.isEmpty_cons, Bool.not_false, List.headD_cons, List.tail_cons, h9, beq_self_eq_true, Bool.true_and]
      exact ok_fair n D (by omega) h11 w r hw

/-- A fair list ahead is walked over by a block's end. -/
theorem blk_fair : ∀ (n : Nat) (i : List Tk), i.length ≤ n → fairP i = true → ∀ (w : List (List UInt8)) (r : List Tk), w ≠ [] → blk w (i ++ r) = (i.length + (blk w r).1, (blk w r).2)
  | 0, i, h, _, w, r, _ => by
    have : i = [] := List.length_eq_zero_iff.1 (by omega)
    subst this; simp
  | n + 1, [], h, _, w, r, _ => by simp
  | n + 1, t :: q, h, hf, w, r, hw => by
    obtain ⟨h1, h2, h3, h4⟩ := fair_split hf
    simp only [List.length_cons] at h
    rw [List.cons_append, blk]
    rcases h4 with ⟨h5, h6⟩ | ⟨h5, I, z, D, h6, h7, h8, h9, h10, h11⟩
    · rw [h5, h3]
      simp only [Bool.false_and, cond_false]
      rw [blk_fair n q (by omega) h6 w r hw, List.length_cons]
      simp only [Prod.mk.injEq, and_true]
      omega
    · rw [h5, cond_true]
      have hl := congrArg List.length h6
      simp only [List.length_append, List.length_cons] at hl
      obtain ⟨c1, c2, c3, c4, c5⟩ := cl_kind h8
      have e : blk (clo t :: w) (q ++ r) = (I.length + 1 + D.length + (blk w r).1, (blk w r).2) := by
        rw [h6, List.append_assoc, List.cons_append, blk_fair n I (by omega) h10 _ _ (by simp), blk, c1, h8]
        have hwt : (clo t :: w).tail.isEmpty = false := by cases w with
          | nil => exact absurd rfl hw
          | cons a b => rfl
        rw [hwt]
        simp only [cond_false, List.headD_cons, h9, beq_self_eq_true, Bool.and_self, cond_true, List.tail_cons]
        rw [blk_fair n D (by omega) h11 w r hw]
        simp only [Prod.mk.injEq, and_true]
        omega
      rw [e, List.length_cons]
      simp only [Prod.mk.injEq, and_true]
      omega

theorem blk_at {I : List Tk} {z : Tk} {c : List UInt8} (hf : fairP I = true) (hz : clT z = true) (hc : z.2.1 = c) (X : List Tk) : blk [c] (I ++ z :: X) = (I.length + 1, true) := by
  obtain ⟨c1, c2, c3, c4, c5⟩ := cl_kind hz
  rw [blk_fair _ I (Nat.le_refl _) hf _ _ (by simp), blk, c1, hz, hc]
  simp

theorem fair_blk {t z : Tk} {I D : List Tk} (h1 : badT t = false) (h2 : brcT t = false) (h5 : opT t = true) (hz : clT z = true) (hc : z.2.1 = clo t) (hI : fairP I = true) (hD : fairP D = true) : fairP (t :: (I ++ z :: D)) = true := by
  have e : (I ++ z :: D).drop (I.length + 1) = D := by
    rw [show I ++ z :: D = (I ++ [z]) ++ D by simp, List.drop_left' (by simp)]
  rw [fairP_cons, h1, h2, (op_kind h5).1, h5, blk_at hI hz hc, Nat.add_sub_cancel, List.take_left' rfl, e, hI, hD]
  rfl

/-- Where the semicolon is that ends a fair list. -/
theorem fnd_fair (p : Tk → Bool) : ∀ (n : Nat) (v : List Tk), v.length ≤ n → fairP v = true → ∀ (m : Nat) (Y : List Tk), v.length ≤ fnd p m (v ++ Y) → v.length + Y.length < m → ∀ (Z : List Tk) (k : Nat), v.length + Z.length < k → fnd p k (v ++ Z) = v.length + fnd p k Z
  | 0, v, h, _, m, Y, _, _, Z, k, _ => by
    have : v = [] := List.length_eq_zero_iff.1 (by omega)
    subst this; simp
  | n + 1, [], h, _, m, Y, _, _, Z, k, _ => by simp
  | n + 1, t :: q, h, hf, 0, Y, hm, hm2, Z, k, hk => by omega
  | n + 1, t :: q, h, hf, m + 1, Y, hm, hm2, Z, 0, hk => by omega
  | n + 1, t :: q, h, hf, m + 1, Y, hm, hm2, Z, k + 1, hk => by
    obtain ⟨h1, h2, h3, h4⟩ := fair_split hf
    simp only [List.length_cons] at h hm hm2 hk ⊢
    rw [List.cons_append, fnd] at hm
    rw [List.cons_append, fnd]
    cases hpt : p t with
    | true => rw [hpt] at hm; simp at hm
    | false =>
      rw [hpt, cond_false] at hm
      rw [cond_false]
      rcases h4 with ⟨h5, h6⟩ | ⟨h5, I, z, D, h6, h7, h8, h9, h10, h11⟩
      · rw [h5, cond_false] at hm ⊢
        have := fnd_fair p n q (by omega) h6 m Y (by omega) (by omega) Z k (by omega)
        rw [this, fnd_more p k (k + 1) Z (by omega) (by omega)]
        omega
      · have hl := congrArg List.length h6
        simp only [List.length_append, List.length_cons] at hl
        have e : ∀ X : List Tk, q ++ X = I ++ z :: (D ++ X) := by intro X; rw [h6]; simp
        have e2 : ∀ X : List Tk, (I ++ z :: (D ++ X)).drop (I.length + 1) = D ++ X := by
          intro X
          rw [show I ++ z :: (D ++ X) = (I ++ [z]) ++ (D ++ X) by simp, List.drop_left' (by simp)]
        rw [h5, cond_true, e, blk_at h10 h8 h9, e2] at hm
        rw [h5, cond_true, e, blk_at h10 h8 h9, e2]
        have := fnd_fair p n D (by omega) h11 m Y (by omega) (by omega) Z k (by omega)
        rw [this, fnd_more p k (k + 1) Z (by omega) (by omega)]
        omega

/-- A value has no semicolon outside of blocks, and all that is open is closed. -/
theorem ok_of : ∀ (n : Nat) (v : List Tk), v.length ≤ n → fairP v = true → ∀ (m : Nat) (Y : List Tk), v.length ≤ fnd semT m (v ++ Y) → v.length + Y.length < m → ok [] v = true
  | 0, v, h, _, m, Y, _, _ => by
    have : v = [] := List.length_eq_zero_iff.1 (by omega)
    subst this; rfl
  | n + 1, [], h, _, m, Y, _, _ => rfl
  | n + 1, t :: q, h, hf, 0, Y, hm, hm2 => by omega
  | n + 1, t :: q, h, hf, m + 1, Y, hm, hm2 => by
    obtain ⟨h1, h2, h3, h4⟩ := fair_split hf
    simp only [List.length_cons] at h hm hm2
    rw [List.cons_append, fnd] at hm
    rw [ok, h1, h2, h3]
    simp only [Bool.or_false, cond_false, List.isEmpty_nil, Bool.true_and]
    cases hpt : semT t with
    | true => rw [hpt] at hm; simp at hm
    | false =>
      rw [hpt, cond_false] at hm
      rcases h4 with ⟨h5, h6⟩ | ⟨h5, I, z, D, h6, h7, h8, h9, h10, h11⟩
      · rw [h5, cond_false] at hm ⊢
        exact ok_of n q (by omega) h6 m Y (by omega) (by omega)
      · have hl := congrArg List.length h6
        simp only [List.length_append, List.length_cons] at hl
        have e : ∀ X : List Tk, q ++ X = I ++ z :: (D ++ X) := by intro X; rw [h6]; simp
        have e2 : ∀ X : List Tk, (I ++ z :: (D ++ X)).drop (I.length + 1) = D ++ X := by
          intro X
          rw [show I ++ z :: (D ++ X) = (I ++ [z]) ++ (D ++ X) by simp, List.drop_left' (by simp)]
        rw [h5, cond_true, e, blk_at h10 h8 h9, e2] at hm
        obtain ⟨c1, c2, c3, c4, c5⟩ := cl_kind h8
        rw [h5, cond_true, h6, ok_fair _ I (Nat.le_refl _) h10 _ _ (by simp), ok, c2, c5, c1, h8]
        simp only [Bool.or_false, cond_false, cond_true, List.isEmpty_cons, Bool.not_false, List.headD_cons, List.tail_cons, h9, beq_self_eq_true, Bool.true_and]
        exact ok_of n D (by omega) h11 m Y (by omega) (by omega)

/-- What the one walk lets through is fair, in pieces. -/
theorem of_ok : ∀ (n : Nat) (l : List Tk), l.length ≤ n → (∀ c w, ok (c :: w) l = true → ∃ i z r, l = i ++ z :: r ∧ fairP i = true ∧ clT z = true ∧ z.2.1 = c ∧ ok w r = true) ∧
    (ok [] l = true → fairP l = true ∧ ∀ (m : Nat) (Y : List Tk), l.length + Y.length < m → fnd semT m (l ++ Y) = l.length + fnd semT m Y)
  | 0, l, h => by
    have : l = [] := List.length_eq_zero_iff.1 (by omega)
    subst this
    refine ⟨fun c w h => by simp [ok] at h, fun _ => ⟨rfl, fun m Y hm => by simp⟩⟩
  | n + 1, [], h => ⟨fun c w h => by simp [ok] at h, fun _ => ⟨rfl, fun m Y hm => by simp⟩⟩
  | n + 1, t :: q, h => by
    simp only [List.length_cons] at h
    have ih := of_ok n
    have pre : ∀ w, ok w (t :: q) = true → badT t = false ∧ brcT t = false := by
      intro w ho
      rw [ok] at ho
      cases hb : badT t with
      | true => rw [hb] at ho; simp at ho
      | false =>
        cases hc : brcT t with
        | true => rw [hb, hc] at ho; simp at ho
        | false => exact ⟨rfl, rfl⟩
    constructor
    · intro c w ho
      obtain ⟨h1, h2⟩ := pre _ ho
      rw [ok, h1, h2] at ho
      simp only [Bool.or_false, cond_false, List.isEmpty_cons, Bool.not_false, Bool.true_and, List.headD_cons, List.tail_cons, Bool.false_and] at ho
      cases h5 : opT t with
      | true =>
        rw [h5, cond_true] at ho
        obtain ⟨I, z, r, e1, e2, e3, e4, e5⟩ := (ih q (by omega)).1 _ _ ho
        have hl := congrArg List.length e1
        simp only [List.length_append, List.length_cons] at hl
        obtain ⟨I2, z2, r2, f1, f2, f3, f4, f5⟩ := (ih r (by omega)).1 _ _ e5
        exact ⟨t :: (I ++ z :: I2), z2, r2, by rw [e1, f1]; simp, fair_blk h1 h2 h5 e3 e4 e2 f2, f3, f4, f5⟩
      | false =>
        rw [h5, cond_false] at ho
        cases h3 : clT t with
        | true =>
          rw [h3, cond_true, Bool.and_eq_true, beq_iff_eq] at ho
          exact ⟨[], t, q, rfl, rfl, h3, ho.1, ho.2⟩
        | false =>
          rw [h3] at ho
          simp only [cond_false] at ho
          obtain ⟨I, z, r, e1, e2, e3, e4, e5⟩ := (ih q (by omega)).1 _ _ ho
          refine ⟨t :: I, z, r, by rw [e1]; rfl, ?_, e3, e4, e5⟩
          rw [fairP_cons, h1, h2, h3, h5]
          exact e2
    · intro ho
      obtain ⟨h1, h2⟩ := pre _ ho
      rw [ok, h1, h2] at ho
      simp only [Bool.or_false, cond_false, List.isEmpty_nil, Bool.not_true, Bool.false_and, Bool.true_and] at ho
      cases h5 : opT t with
      | true =>
        rw [h5, cond_true] at ho
        obtain ⟨I, z, r, e1, e2, e3, e4, e5⟩ := (ih q (by omega)).1 _ _ ho
        have hl := congrArg List.length e1
        simp only [List.length_append, List.length_cons] at hl
        obtain ⟨f1, f2⟩ := (ih r (by omega)).2 e5
        refine ⟨by rw [e1]; exact fair_blk h1 h2 h5 e3 e4 e2 f1, ?_⟩
        intro m Y hm
        match m with
        | 0 => omega
        | m + 1 =>
          simp only [List.length_cons] at hm ⊢
          have e : q ++ Y = I ++ z :: (r ++ Y) := by rw [e1]; simp
          have e' : (I ++ z :: (r ++ Y)).drop (I.length + 1) = r ++ Y := by
            rw [show I ++ z :: (r ++ Y) = (I ++ [z]) ++ (r ++ Y) by simp, List.drop_left' (by simp)]
          rw [List.cons_append, fnd, (op_kind h5).2.2.2, h5, e, blk_at e2 e3 e4, e', f2 m Y (by omega), fnd_more semT m (m + 1) Y (by omega) (by omega)]
          simp only [cond_true, cond_false]
          omega
      | false =>
        rw [h5, cond_false] at ho
        cases h3 : clT t with
        | true => rw [h3] at ho; simp at ho
        | false =>
          rw [h3] at ho
          simp only [cond_false] at ho
          cases h6 : semT t with
          | true => rw [h6] at ho; simp at ho
          | false =>
            rw [h6] at ho
            simp only [cond_false] at ho
            obtain ⟨f1, f2⟩ := (ih q (by omega)).2 ho
            refine ⟨by rw [fairP_cons, h1, h2, h3, h5]; exact f1, ?_⟩
            intro m Y hm
            match m with
            | 0 => omega
            | m + 1 =>
              simp only [List.length_cons] at hm ⊢
              rw [List.cons_append, fnd, h6, h5, f2 m Y (by omega), fnd_more semT m (m + 1) Y (by omega) (by omega)]
              simp only [cond_false]
              omega

/-- Blanks and remarks change nothing. -/
theorem ok_filter : ∀ (l : List Tk) (w : List (List UInt8)), ok w (l.filter fun t => !silT t) = ok w l
  | [], w => rfl
  | t :: r, w => by
    rw [List.filter_cons]
    cases hs : silT t with
    | true =>
      obtain ⟨h1, h2, h3, h4, h5, _⟩ := sil_kind hs
      simp only [Bool.not_true, Bool.false_eq_true, if_false]
      rw [ok_filter r w, ok, h1, h2, h3, h4, h5]
      simp
    | false =>
      simp only [Bool.not_false, if_true]
      rw [ok, ok, ok_filter r (clo t :: w), ok_filter r w.tail, ok_filter r w]

end Go.Ev.Tok

-- from EvTkH
set_option linter.unusedVariables false
set_option linter.unusedSimpArgs false
namespace Go.Ev.Tok

def nsl (l : List Tk) : List Tk := l.filter fun t => !silT t

theorem nsl_app (a b : List Tk) : nsl (a ++ b) = nsl a ++ nsl b := List.filter_append a b
theorem nsl_sil (S : List Tk) (h : ∀ t ∈ S, silT t = true) : nsl S = [] := by
  unfold nsl
  rw [List.filter_eq_nil_iff]
  intro t ht
  rw [h t ht]; simp
theorem nsl_run (R : List Tk) (h : ∀ t ∈ R, silT t = false) : nsl R = R := by
  unfold nsl
  rw [List.filter_eq_self]
  intro t ht
  rw [h t ht]; rfl
theorem silSP : silT SP = true := rfl

theorem dw_all (S r : List Tk) (h : ∀ t ∈ S, silT t = true) : (S ++ r).dropWhile silT = r.dropWhile silT := by
  induction S with
  | nil => rfl
  | cons t S ih =>
    rw [List.cons_append, List.dropWhile_cons, h t (by simp), if_pos rfl]
    exact ih fun u hu => h u (List.mem_cons_of_mem _ hu)

theorem dw_run (R r : List Tk) (hn : R ≠ []) (h : ∀ t ∈ R, silT t = false) : (R ++ r).dropWhile silT = R ++ r := by
  cases R with
  | nil => exact absurd rfl hn
  | cons t R => rw [List.cons_append, List.dropWhile_cons, h t (by simp)]; simp

theorem all_sil (l : List Tk) (h : l.dropWhile silT = []) : ∀ t ∈ l, silT t = true := by
  have := List.takeWhile_append_dropWhile (p := silT) (l := l)
  rw [h, List.append_nil] at this
  intro t ht
  rw [← this] at ht
  exact mem_tw ht

theorem sil_dw (l : List Tk) (h : ∀ t ∈ l, silT t = true) : l.dropWhile silT = [] := by
  have := dw_all l [] h
  rwa [List.append_nil] at this

/-- In the normal form as in the list: what is neither blank nor remark. -/
theorem nsl_nrm : ∀ (n : Nat) (l : List Tk), l.length ≤ n → nsl (nrm l) = nsl l
  | n, l, hn => by
    rcases parts l with h | ⟨S, R, r, h1, h2, h3, h4, h5, h6⟩
    · rw [nrm_sil l h, nsl_sil l (all_sil l h)]; rfl
    · have hl := congrArg List.length h1
      simp only [List.length_append] at hl
      have hR : 0 < R.length := List.length_pos_iff.2 h3
      match n with
      | 0 => omega
      | n + 1 =>
        have ih := nsl_nrm n r (by omega)
        rw [h6, h1, nsl_app, nsl_app, nsl_app, nsl_sil S h2, ← ih]
        cases nrm r with
        | nil => simp
        | cons u q =>
          have : nsl (SP :: u :: q) = nsl (u :: q) := rfl
          rw [this]; simp

theorem ok_nrm (w : List (List UInt8)) (l : List Tk) : ok w (nrm l) = ok w l := by
  rw [← ok_filter (nrm l) w, ← ok_filter l w]
  have := nsl_nrm _ l (Nat.le_refl _)
  unfold nsl at this
  rw [this]

theorem nrm_hd (l : List Tk) : ∀ u q, nrm l = u :: q → silT u = false := by
  intro u q h
  rcases parts l with h0 | ⟨S, R, r, h1, h2, h3, h4, h5, h6⟩
  · rw [nrm_sil l h0] at h; cases h
  · rw [h6] at h
    cases R with
    | nil => exact absurd rfl h3
    | cons t R =>
      rw [List.cons_append] at h
      simp only [List.cons.injEq] at h
      rw [← h.1]
      exact h4 t (by simp)

theorem nrm_mem : ∀ (n : Nat) (l : List Tk), l.length ≤ n → ∀ t ∈ nrm l, t = SP ∨ t ∈ l
  | n, l, hn, t, ht => by
    rcases parts l with h | ⟨S, R, r, h1, h2, h3, h4, h5, h6⟩
    · rw [nrm_sil l h] at ht; cases ht
    · have hl := congrArg List.length h1
      simp only [List.length_append] at hl
      have hR : 0 < R.length := List.length_pos_iff.2 h3
      match n with
      | 0 => omega
      | n + 1 =>
        rw [h6] at ht
        rcases List.mem_append.1 ht with e | e
        · right; rw [h1]; simp [e]
        · have ih := nrm_mem n r (by omega) t
          cases hr : nrm r with
          | nil => rw [hr] at e; cases e
          | cons u q =>
            rw [hr] at e ih
            simp only at e
            rcases List.mem_cons.1 e with e | e
            · left; exact e
            · rcases ih e with e | e
              · left; exact e
              · right; rw [h1]; simp [e]

/-- The text of the head is that of the normal form. -/
theorem hdP_sil (S : List Tk) (h : ∀ t ∈ S, silT t = true) : ∀ (a : Bool) (r : List Tk), hdP a a (S ++ r) = hdP a a r := by
  induction S with
  | nil => intro a r; rfl
  | cons t S ih =>
    intro a r
    rw [List.cons_append, hdP, h t (by simp)]
    exact ih (fun u hu => h u (List.mem_cons_of_mem _ hu)) a r

theorem hdP_run : ∀ (R : List Tk) (r : List Tk), (∀ t ∈ R, silT t = false) → hdP true false (R ++ r) = rw R ++ hdP true false r
  | [], r, h => rfl
  | t :: R, r, h => by
    rw [List.cons_append, hdP, h t (by simp)]
    simp only [cond_false, List.nil_append]
    rw [hdP_run R r fun u hu => h u (List.mem_cons_of_mem _ hu), rw_cons, List.append_assoc]

theorem hdP_nrm : ∀ (n : Nat) (l : List Tk), l.length ≤ n → hdP false false l = rw (nrm l) ∧ hdP true true l = (match nrm l with
    | [] => []
    | m => 32 :: rw m)
  | n, l, hn => by
    rcases parts l with h | ⟨S, R, r, h1, h2, h3, h4, h5, h6⟩
    · have hs := all_sil l h
      have e := hdP_sil l hs
      rw [nrm_sil l h]
      refine ⟨?_, ?_⟩
      · have := e false []; rw [List.append_nil] at this; rw [this]; rfl
      · have := e true []; rw [List.append_nil] at this; rw [this]; rfl
    · have hl := congrArg List.length h1
      simp only [List.length_append] at hl
      have hR : 0 < R.length := List.length_pos_iff.2 h3
      match n with
      | 0 => omega
      | n + 1 =>
        obtain ⟨i1, i2⟩ := hdP_nrm n r (by omega)
        have hr : hdP true false r = (match nrm r with
            | [] => []
            | m => 32 :: rw m) := by
          rcases h5 with e | ⟨u, r', e, hu⟩
          · subst e; rfl
          · rw [← i2, e, hdP, hdP, hu]; rfl
        have hR2 : hdP true false (R ++ r) = rw (nrm l) := by
          rw [hdP_run R r h4, hr, h6, rw_app]
          cases nrm r with
          | nil => rfl
          | cons u q => rfl
        cases R with
        | nil => exact absurd rfl h3
        | cons t R =>
          have ht := h4 t (by simp)
          have hne : ∃ u q, nrm l = u :: q := ⟨_, _, by rw [h6]; rfl⟩
          obtain ⟨u, q, hq⟩ := hne
          have e : ∀ a b, hdP a b ((t :: R) ++ r) = (bif b then [32] else []) ++ rw (nrm l) := by
            intro a b
            rw [← hR2, List.cons_append, hdP, hdP, ht]
            simp only [cond_false]
            rw [List.append_assoc]
            rfl
          have h1' : l = S ++ (t :: R ++ r) := by rw [h1, List.append_assoc]
          have x1 : hdP false false l = hdP false false (S ++ (t :: R ++ r)) := by rw [← h1']
          have x2 : hdP true true l = hdP true true (S ++ (t :: R ++ r)) := by rw [← h1']
          refine ⟨?_, ?_⟩
          · rw [x1, hdP_sil S h2, e]; rfl
          · rw [x2, hdP_sil S h2, e, hq]; rfl

theorem head_nrm (l : List Tk) : hdP false false l = rw (nrm l) := (hdP_nrm _ l (Nat.le_refl _)).1

/-- Its text is cut into the normal form again. -/
theorem cut_nrm : ∀ (n : Nat) (l : List Tk), l.length ≤ n → Cut l → (∀ t ∈ l, badT t = false) → Cut (nrm l)
  | n, l, hn, hc, hb => by
    rcases parts l with h | ⟨S, R, r, h1, h2, h3, h4, h5, h6⟩
    · rw [nrm_sil l h]; exact cutP_nil
    · have hl := congrArg List.length h1
      simp only [List.length_append] at hl
      have hR : 0 < R.length := List.length_pos_iff.2 h3
      match n with
      | 0 => omega
      | n + 1 =>
        have hcl : Cut (S ++ R ++ r) := h1 ▸ hc
        have hcr : Cut r := hcl.right
        have hcR : Cut R := hcl.left.right
        have ih := cut_nrm n r (by omega) hcr (fun t ht => hb t (by rw [h1]; simp [ht]))
        cases hr : nrm r with
        | nil => rw [h6, hr]; simpa using hcR
        | cons u q =>
          rw [h6, hr]
          simp only
          unfold Cut
          have e : rw (R ++ SP :: u :: q) = rw R ++ 32 :: rw (u :: q) := by rw [rw_app, rw_cons]; rfl
          have ho : ¬ Unshut (rw R) := by
            rintro ⟨v, hv, hk⟩
            have hcR' : cutP (rw R) = R := hcR
            rw [hcR'] at hv
            have hm := List.mem_of_getLast? hv
            have q1 := h4 v hm
            have q2 := hb v (by rw [h1]; simp [hm])
            unfold silT at q1
            unfold badT at q2
            rcases hk with e | e | e <;> rw [e] at q1 q2 <;> simp at q1 q2
          have hcR' : cutP (rw R) = R := hcR
          have ihr : cutP (rw (u :: q)) = u :: q := by rw [hr] at ih; exact ih
          have hu := nrm_hd r u q hr
          have hne : rw (u :: q) ≠ [] := by intro e; rw [e, cutP_nil] at ihr; cases ihr
          have hk : (tok1 (rw (u :: q))).1 ≠ 8 := by
            have := ihr
            rw [cutP_cons _ hne] at this
            simp only [List.cons.injEq] at this
            have e : (tok1 (rw (u :: q))).1 = u.1 := by
              have := congrArg (fun x : Tk => x.1) this.1
              exact this
            rw [e]
            intro e8
            unfold silT at hu
            rw [e8] at hu
            simp at hu
          rw [e, cut_apart _ _ _ (Nat.le_refl _) ho, cut_blank _ (blank_of _ hne hk), hcR', ihr]
          rfl

end Go.Ev.Tok

-- from EvTkI
set_option linter.unusedVariables false
set_option linter.unusedSimpArgs false
namespace Go.Ev.Tok

abbrev AllS (S : List Tk) : Prop := ∀ t ∈ S, silT t = true

theorem AllS.app {S E : List Tk} (h : AllS S) (g : AllS E) : AllS (S ++ E) := by
  intro t ht
  rcases List.mem_append.1 ht with e | e
  · exact h t e
  · exact g t e

theorem AllS.rev {S : List Tk} (h : AllS S) : AllS S.reverse := fun t ht => h t (List.mem_reverse.1 ht)

theorem trimE_app (A S : List Tk) (h : AllS S) : trimE (A ++ S) = trimE A := by
  unfold trimE
  rw [List.reverse_append, dw_all _ _ h.rev]

theorem trimE_all (S : List Tk) (h : AllS S) : trimE S = [] := by
  have := trimE_app [] S h
  rwa [List.nil_append] at this

theorem trimE_last (A : List Tk) (t : Tk) (h : silT t = false) : trimE (A ++ [t]) = A ++ [t] := by
  unfold trimE
  rw [List.reverse_append, List.reverse_singleton, List.singleton_append, List.dropWhile_cons, h]
  simp

theorem trimE_form (L : List Tk) : (AllS L ∧ trimE L = []) ∨ ∃ A t S, L = A ++ t :: S ∧ silT t = false ∧ AllS S ∧ trimE L = A ++ [t] := by
  cases hd : L.reverse.dropWhile silT with
  | nil =>
    left
    have h := all_sil _ hd
    refine ⟨fun t ht => h t (List.mem_reverse.2 ht), ?_⟩
    unfold trimE; rw [hd]; rfl
  | cons t r =>
    right
    have ht : silT t = false := by
      have := List.head?_dropWhile_not silT L.reverse
      rw [hd] at this
      simpa using this
    have h1 := List.takeWhile_append_dropWhile (p := silT) (l := L.reverse)
    rw [hd] at h1
    refine ⟨r.reverse, t, (L.reverse.takeWhile silT).reverse, ?_, ht, ?_, ?_⟩
    · have := congrArg List.reverse h1
      rw [List.reverse_reverse, List.reverse_append, List.reverse_cons] at this
      rw [List.append_assoc, List.singleton_append] at this
      exact this.symm
    · intro u hu
      exact mem_tw (List.mem_reverse.1 hu)
    · unfold trimE; rw [hd]; simp

theorem trimE_mid (A W : List Tk) (c : Tk) (h : silT c = false) : trimE (A ++ c :: W) = A ++ c :: trimE W := by
  rcases trimE_form W with ⟨h1, h2⟩ | ⟨B, t, S, h1, h2, h3, h4⟩
  · rw [show A ++ c :: W = (A ++ [c]) ++ W by simp, trimE_app _ _ h1, trimE_last _ _ h, h2]
  · rw [h4, h1, show A ++ c :: (B ++ t :: S) = (A ++ c :: B ++ [t]) ++ S by simp, trimE_app _ _ h3, trimE_last _ _ h2]
    simp

theorem dw_app (A S : List Tk) (h : AllS S) : (A ++ S).dropWhile silT = A.dropWhile silT ++ (if (A.dropWhile silT).isEmpty then [] else S) := by
  rw [List.dropWhile_append]
  cases ha : A.dropWhile silT with
  | nil => simp [sil_dw S h]
  | cons a b => simp

theorem sol_app (A S : List Tk) (h : AllS S) : sol (A ++ S) = sol A := by
  unfold sol
  rw [dw_app A S h]
  cases ha : A.dropWhile silT with
  | nil => simp
  | cons a b =>
    simp only [List.isEmpty_cons, Bool.false_eq_true, if_false]
    exact trimE_app _ _ h

theorem sol_pre (S A : List Tk) (h : AllS S) : sol (S ++ A) = sol A := by
  unfold sol
  rw [dw_all S A h]

theorem sol_all (S : List Tk) (h : AllS S) : sol S = [] := by
  unfold sol
  rw [sil_dw S h]; rfl

theorem tw_all (L : List Tk) : AllS (L.takeWhile silT) := fun t ht => mem_tw ht

theorem sol_dw (A : List Tk) : sol (A.dropWhile silT) = sol A := by
  conv => rhs; rw [← List.takeWhile_append_dropWhile (p := silT) (l := A)]
  rw [sol_pre _ _ (tw_all A)]

theorem dw_mid (A W : List Tk) (t : Tk) (h : silT t = false) : (A ++ t :: W).dropWhile silT = A.dropWhile silT ++ t :: W := by
  rw [List.dropWhile_append]
  cases ha : A.dropWhile silT with
  | nil => simp [List.dropWhile_cons, h]
  | cons a b => simp

theorem sol_mid (A W : List Tk) (t : Tk) (h : silT t = false) : sol (A ++ t :: W) = A.dropWhile silT ++ t :: trimE W := by
  unfold sol
  rw [dw_mid A W t h, trimE_mid _ _ _ h]

theorem sol_snoc (A S : List Tk) (t : Tk) (h : silT t = false) (hS : AllS S) : sol (A ++ t :: S) = A.dropWhile silT ++ [t] := by
  rw [sol_mid A S t h, trimE_all S hS]

theorem sol_form (L : List Tk) : (AllS L ∧ sol L = []) ∨ ∃ A t S, L = A ++ t :: S ∧ silT t = false ∧ AllS S ∧ sol L = A.dropWhile silT ++ [t] := by
  rcases trimE_form L with ⟨h1, h2⟩ | ⟨A, t, S, h1, h2, h3, h4⟩
  · exact .inl ⟨h1, sol_all L h1⟩
  · exact .inr ⟨A, t, S, h1, h2, h3, by rw [h1, sol_snoc A S t h2 h3]⟩

theorem sol_split (L : List Tk) : ∃ S E, L = S ++ sol L ++ E ∧ AllS S ∧ AllS E := by
  rcases sol_form L with ⟨h1, h2⟩ | ⟨A, t, S, h1, h2, h3, h4⟩
  · exact ⟨L, [], by rw [h2]; simp, h1, by intro t ht; cases ht⟩
  · refine ⟨A.takeWhile silT, S, ?_, tw_all A, h3⟩
    rw [h4]
    rw [h1]
    have := List.takeWhile_append_dropWhile (p := silT) (l := A)
    have e : A ++ t :: S = (A.takeWhile silT ++ A.dropWhile silT) ++ t :: S := by rw [this]
    rw [e]
    simp only [List.append_assoc, List.singleton_append]

theorem nsl_sol (L : List Tk) : nsl (sol L) = nsl L := by
  obtain ⟨S, E, h1, h2, h3⟩ := sol_split L
  conv => rhs; rw [h1]
  rw [nsl_app, nsl_app, nsl_sil S h2, nsl_sil E h3]
  simp

theorem sol_sol (L : List Tk) : sol (sol L) = sol L := by
  obtain ⟨S, E, h1, h2, h3⟩ := sol_split L
  have : sol L = sol (S ++ sol L ++ E) := by rw [← h1]
  rw [sol_app _ _ h3, sol_pre _ _ h2] at this
  exact this.symm

theorem sol_trimE (W : List Tk) : sol (trimE W) = sol W := by
  rcases trimE_form W with ⟨h1, h2⟩ | ⟨A, t, S, h1, h2, h3, h4⟩
  · rw [h2, sol_all W h1]; rfl
  · rw [h4, h1, sol_snoc A S t h2 h3, sol_snoc A [] t h2 (by intro t ht; cases ht)]

theorem imp_congr {A B : List Tk} (h : sol A = sol B) : imp A = imp B := by unfold imp; rw [h]

/-- Does it say important? Of tokens without blanks and remarks. -/
def impB (l : List Tk) : Bool := match l.reverse with
  | t :: m :: _ => !(t.1 != 1 || !fldT t word) && mrkT m
  | _ => false

theorem mrk_sil {m : Tk} (h : mrkT m = true) : silT m = false := by
  cases hs : silT m with
  | false => rfl
  | true => rw [(sil_kind hs).2.2.2.2.2.2.1] at h; cases h

/-- Either it says important, and what is ahead of that is the value; or all is. -/
theorem imp_cases (L : List Tk) : ((imp L).2 = impB (nsl L)) ∧ ((imp L).2 = false ∧ (imp L).1 = sol L ∨ (imp L).2 = true ∧ ∃ B R, L = B ++ R ∧ (imp L).1 = sol B) := by
  rcases sol_form L with ⟨h1, h2⟩ | ⟨A, t, S, h1, h2, h3, h4⟩
  · unfold imp
    rw [h2, nsl_sil L h1]
    exact ⟨rfl, .inl ⟨rfl, rfl⟩⟩
  · have g1 : (sol L).getLast? = some t := by rw [h4]; simp
    have g2 : (sol L).dropLast = A.dropWhile silT := by rw [h4]; simp
    have g3 : nsl L = nsl A ++ [t] := by
      rw [h1, nsl_app]
      have : nsl (t :: S) = t :: nsl S := by unfold nsl; rw [List.filter_cons, h2]; rfl
      rw [this, nsl_sil S h3]
    have key : ∀ o : Option Tk, (sol A).getLast? = o → imp L = bif t.1 != 1 || !fldT t word then (sol L, false) else match o with
        | none => (sol L, false)
        | some m => bif mrkT m then (sol (sol A).dropLast, true) else (sol L, false) := by
      intro o ho
      unfold imp
      rw [g1, g2, sol_dw]
      simp only
      rw [ho]
      all_goals rfl
    rcases sol_form A with ⟨k1, k2⟩ | ⟨B, m, S', k1, k2, k3, k4⟩
    · rw [key none (by rw [k2]; rfl), g3, nsl_sil A k1]
      cases (t.1 != 1 || !fldT t word) <;> exact ⟨rfl, .inl ⟨rfl, rfl⟩⟩
    · rw [key (some m) (by rw [k4]; simp)]
      have g4 : nsl A = nsl B ++ [m] := by
        rw [k1, nsl_app]
        have : nsl (m :: S') = m :: nsl S' := by unfold nsl; rw [List.filter_cons, k2]; rfl
        rw [this, nsl_sil S' k3]
      have g5 : impB (nsl L) = (!(t.1 != 1 || !fldT t word) && mrkT m) := by
        rw [g3, g4]
        unfold impB
        simp
      rw [g5]
      have g6 : sol (sol A).dropLast = sol B := by rw [k4]; simp [sol_dw]
      cases (t.1 != 1 || !fldT t word) with
      | true => exact ⟨rfl, .inl ⟨rfl, rfl⟩⟩
      | false =>
        simp only [cond_false, Bool.not_false, Bool.true_and]
        cases mrkT m with
        | false => exact ⟨rfl, .inl ⟨rfl, rfl⟩⟩
        | true => exact ⟨rfl, .inr ⟨rfl, B, m :: S' ++ t :: S, by rw [h1, k1]; simp, g6⟩⟩

theorem imp_mark (B S1 S2 : List Tk) (m t : Tk) (hm : mrkT m = true) (h1 : AllS S1) (ht : t.1 = 1) (hf : fldT t word = true) (h2 : AllS S2) : imp (B ++ m :: (S1 ++ t :: S2)) = (sol B, true) := by
  have hst : silT t = false := by unfold silT; rw [ht]; rfl
  have hsm := mrk_sil hm
  have e1 : sol (B ++ m :: (S1 ++ t :: S2)) = (B ++ m :: S1).dropWhile silT ++ [t] := by
    rw [show B ++ m :: (S1 ++ t :: S2) = (B ++ m :: S1) ++ t :: S2 by simp, sol_snoc _ _ _ hst h2]
  have e2 : sol (B ++ m :: S1) = B.dropWhile silT ++ [m] := sol_snoc _ _ _ hsm h1
  unfold imp
  rw [e1]
  simp only [List.getLast?_append, List.getLast?_singleton, Option.some_or, List.dropLast_concat]
  rw [ht, hf, sol_dw, e2]
  simp only [List.getLast?_append, List.getLast?_singleton, Option.some_or, List.dropLast_concat]
  rw [hm, sol_dw]
  rfl

theorem name_sil {t : Tk} (h : (t.1 != 1) = false) : silT t = false := by
  have : t.1 = 1 := by simpa using h
  unfold silT; rw [this]; rfl
theorem col_sil {t : Tk} (h : colT t = true) : silT t = false := by
  cases hs : silT t with
  | false => rfl
  | true => rw [(sil_kind hs).2.2.2.2.2.1] at h; cases h

/-- How a declaration is read. -/
theorem dcl_form (S S0 W : List Tk) (t c : Tk) (hS : AllS S) (hS0 : AllS S0) (ht : (t.1 != 1) = false) (hc : colT c = true) :
    dcl (S ++ t :: (S0 ++ c :: W)) = bif !plainP (nmP t.2.2.1) then none else
      bif fairP (imp W).1 && (ownP t.2.2.1 || !(hdP false false (imp W).1).isEmpty) then some (nmP t.2.2.1, hdP false false (imp W).1, (imp W).2) else none := by
  have e1 : sol (S ++ t :: (S0 ++ c :: W)) = t :: (S0 ++ c :: trimE W) := by
    rw [sol_pre _ _ hS]
    have := sol_mid [] (S0 ++ c :: W) t (name_sil ht)
    rw [List.nil_append] at this
    rw [this, trimE_mid _ _ _ (col_sil hc)]
    rfl
  have e2 : sol (S0 ++ c :: trimE W) = c :: trimE (trimE W) := by
    rw [sol_mid _ _ _ (col_sil hc), sil_dw S0 hS0]; rfl
  have e3 : imp (trimE (trimE W)) = imp W := imp_congr (by rw [sol_trimE, sol_trimE])
  unfold dcl
  rw [e1]
  simp only
  rw [ht, e2]
  simp only [cond_false]
  rw [hc, e3]
  rfl

theorem dcl_back {p : List Tk} {d : Dc} (h : dcl p = some d) : ∃ S t S0 c W, p = S ++ t :: (S0 ++ c :: W) ∧ AllS S ∧ AllS S0 ∧ (t.1 != 1) = false ∧ colT c = true ∧ plainP (nmP t.2.2.1) = true ∧
    fairP (imp W).1 = true ∧ (ownP t.2.2.1 = true ∨ (hdP false false (imp W).1).isEmpty = false) ∧ d = (nmP t.2.2.1, hdP false false (imp W).1, (imp W).2) := by
  obtain ⟨S, E, h1, h2, h3⟩ := sol_split p
  have h' := h
  unfold dcl at h
  match hs : sol p with
  | [] => rw [hs] at h; cases h
  | t :: r =>
    rw [hs] at h h1
    simp only at h
    cases ht : (t.1 != 1) with
    | true => rw [ht] at h; cases h
    | false =>
      rw [ht, cond_false] at h
      obtain ⟨S0, E0, g1, g2, g3⟩ := sol_split r
      match hs2 : sol r with
      | [] => rw [hs2] at h; cases h
      | c :: q =>
        rw [hs2] at h g1
        simp only at h
        cases hc : colT c with
        | false => rw [hc] at h; cases h
        | true =>
          have hp : p = S ++ t :: (S0 ++ c :: (q ++ E0 ++ E)) := by rw [h1, g1]; simp
          refine ⟨S, t, S0, c, q ++ E0 ++ E, hp, h2, g2, ht, hc, ?_⟩
          rw [hp, dcl_form S S0 _ t c h2 g2 ht hc] at h'
          cases hpl : plainP (nmP t.2.2.1) with
          | false => rw [hpl] at h'; cases h'
          | true =>
            rw [hpl] at h'
            simp only [Bool.not_true, cond_false] at h'
            cases hf : fairP (imp (q ++ E0 ++ E)).1 with
            | false => rw [hf] at h'; cases h'
            | true =>
              rw [hf] at h'
              simp only [Bool.true_and] at h'
              cases ho : ownP t.2.2.1 with
              | true => rw [ho] at h'; exact ⟨rfl, rfl, .inl rfl, (Option.some.inj h').symm⟩
              | false =>
                cases he : (hdP false false (imp (q ++ E0 ++ E)).1).isEmpty with
                | true => rw [ho, he] at h'; cases h'
                | false => rw [ho, he] at h'; exact ⟨rfl, rfl, .inr rfl, (Option.some.inj h').symm⟩

end Go.Ev.Tok

-- from EvTkJ
set_option linter.unusedVariables false
set_option linter.unusedSimpArgs false
namespace Go.Ev.Tok

theorem nrm_pre (S X : List Tk) (h : AllS S) : nrm (S ++ X) = nrm X := by
  unfold nrm
  rw [nrmF, nrmF, dw_all S X h]
  cases hd : X.dropWhile silT with
  | nil => rfl
  | cons t r =>
    have h1 := drop_le silT X
    rw [hd] at h1
    have ht : silT t = false := by
      have := List.head?_dropWhile_not silT X
      rw [hd] at this
      simpa using this
    have h2 : ((t :: r).dropWhile fun t => !silT t).length < (t :: r).length := by
      rw [List.dropWhile_cons, ht]
      simp only [Bool.not_false, if_true]
      have := drop_le (fun t => !silT t) r
      simp only [List.length_cons]; omega
    simp only
    rw [nrmF_more X.length (S ++ X).length _ (by omega) (by rw [List.length_append]; omega)]

theorem nrm_run (R r : List Tk) (hn : R ≠ []) (h : ∀ t ∈ R, silT t = false) (hr : r = [] ∨ ∃ u r', r = u :: r' ∧ silT u = true) : nrm (R ++ r) = R ++ match nrm r with
      | [] => []
      | m => SP :: m := by
  cases R with
  | nil => exact absurd rfl hn
  | cons t R =>
    have ht := h t (by simp)
    have e1 : ((t :: R ++ r).takeWhile fun t => !silT t) = t :: R := by
      rw [List.takeWhile_append_of_pos (by intro u hu; rw [h u hu]; rfl)]
      rcases hr with e | ⟨u, r', e, hu⟩
      · rw [e]; simp
      · rw [e, List.takeWhile_cons, hu]; simp
    have e2 : ((t :: R ++ r).dropWhile fun t => !silT t) = r := by
      rw [List.dropWhile_append_of_pos (by intro u hu; rw [h u hu]; rfl)]
      rcases hr with e | ⟨u, r', e, hu⟩
      · rw [e]; rfl
      · rw [e, List.dropWhile_cons, hu]; simp
    unfold nrm
    rw [nrmF, dw_run (t :: R) r hn h]
    have e3 : ∃ a b, t :: R ++ r = a :: b := ⟨_, _, rfl⟩
    obtain ⟨a, b, hab⟩ := e3
    rw [hab]
    simp only
    rw [← hab, e1, e2, nrmF_more (r.length + 1) (t :: R ++ r).length r (by omega) (by rw [List.length_append, List.length_cons]; omega)]
    all_goals (cases nrmF (r.length + 1) r <;> rfl)

theorem nrm_last : ∀ (n : Nat) (l : List Tk), l.length ≤ n → ∀ u, (nrm l).getLast? = some u → silT u = false ∧ u ∈ l
  | n, l, hn, u, hu => by
    rcases parts l with h | ⟨S, R, r, h1, h2, h3, h4, h5, h6⟩
    · rw [nrm_sil l h] at hu; cases hu
    · have hl := congrArg List.length h1
      simp only [List.length_append] at hl
      have hR : 0 < R.length := List.length_pos_iff.2 h3
      match n with
      | 0 => omega
      | n + 1 =>
        have ih := nrm_last n r (by omega) u
        rw [h6] at hu
        cases hr : nrm r with
        | nil =>
          rw [hr] at hu
          simp only [List.append_nil] at hu
          have hm := List.mem_of_getLast? hu
          exact ⟨h4 u hm, by rw [h1]; simp [hm]⟩
        | cons a b =>
          rw [hr] at hu ih
          have e : (R ++ SP :: a :: b).getLast? = (a :: b).getLast? := by
            rw [show R ++ SP :: a :: b = (R ++ [SP]) ++ a :: b by simp, List.getLast?_append]
            cases hg : (a :: b).getLast? with
            | none => simp at hg
            | some x => rfl
          simp only at hu
          rw [e] at hu
          obtain ⟨i1, i2⟩ := ih hu
          exact ⟨i1, by rw [h1]; simp [i2]⟩

theorem nrm_nrm : ∀ (n : Nat) (l : List Tk), l.length ≤ n → nrm (nrm l) = nrm l
  | n, l, hn => by
    rcases parts l with h | ⟨S, R, r, h1, h2, h3, h4, h5, h6⟩
    · rw [nrm_sil l h]; rfl
    · have hl := congrArg List.length h1
      simp only [List.length_append] at hl
      have hR : 0 < R.length := List.length_pos_iff.2 h3
      match n with
      | 0 => omega
      | n + 1 =>
        have ih := nrm_nrm n r (by omega)
        rw [h6]
        cases hr : nrm r with
        | nil =>
          rw [nrm_run R _ h3 h4 (.inl rfl)]
          rfl
        | cons a b =>
          rw [hr] at ih
          simp only
          rw [nrm_run R (SP :: a :: b) h3 h4 (.inr ⟨SP, a :: b, rfl, rfl⟩)]
          have : nrm (SP :: a :: b) = nrm (a :: b) := nrm_pre [SP] (a :: b) (by intro t ht; rw [List.mem_singleton.1 ht]; rfl)
          rw [this, ih]

/-- What has no blank at its ends is as it is. -/
theorem sol_nrm (l : List Tk) : sol (nrm l) = nrm l := by
  cases h : nrm l with
  | nil => rfl
  | cons u q =>
    have hu := nrm_hd l u q h
    have e1 : (u :: q).dropWhile silT = u :: q := by rw [List.dropWhile_cons, hu]; simp
    unfold sol
    rw [e1]
    obtain ⟨A, t, hA⟩ : ∃ A t, u :: q = A ++ [t] := ⟨(u :: q).dropLast, (u :: q).getLast (by simp), (List.dropLast_concat_getLast (by simp)).symm⟩
    have hl : (nrm l).getLast? = some t := by rw [h, hA]; simp
    rw [hA, trimE_last A t (nrm_last _ l (Nat.le_refl _) t hl).1]

theorem ok_bad : ∀ (l : List Tk) (w : List (List UInt8)), ok w l = true → ∀ t ∈ l, badT t = false
  | [], w, _, t, ht => by cases ht
  | a :: r, w, h, t, ht => by
    rw [ok] at h
    cases hb : badT a with
    | true => rw [hb] at h; simp at h
    | false =>
      have hr : ∃ w', ok w' r = true := by
        rw [hb] at h
        cases hc : brcT a with
        | true => rw [hc] at h; simp at h
        | false =>
          rw [hc] at h
          simp only [Bool.or_false, cond_false] at h
          cases ho : opT a with
          | true => rw [ho, cond_true] at h; exact ⟨_, h⟩
          | false =>
            rw [ho, cond_false] at h
            cases hq : clT a with
            | true => rw [hq, cond_true, Bool.and_eq_true, Bool.and_eq_true] at h; exact ⟨_, h.2.2⟩
            | false =>
              rw [hq, cond_false] at h
              cases hs : (w.isEmpty && semT a) with
              | true => rw [hs] at h; cases h
              | false => rw [hs] at h; exact ⟨_, h⟩
      obtain ⟨w', hw'⟩ := hr
      rcases List.mem_cons.1 ht with e | e
      · rw [e]; exact hb
      · exact ok_bad r w' hw' t e

/-- A declaration that can be told and read again. -/
def Good (d : Dc) : Prop := plainP d.1 = true ∧ nmP d.1 = d.1 ∧ ∃ V, Cut V ∧ nrm V = V ∧ d.2.1 = rw V ∧ ok [] V = true ∧ (ownP d.1 = true ∨ V ≠ []) ∧ (d.2.2 = false → impB (nsl V) = false)

theorem lowB_low (c : UInt8) : lowB (lowB c) = lowB c ∧ (lowB c == 45) = (c == 45) := by
  have h : ∀ n : Fin 256, lowB (lowB (UInt8.ofNat n.val)) = lowB (UInt8.ofNat n.val) ∧ (lowB (UInt8.ofNat n.val) == 45) = (UInt8.ofNat n.val == 45) := by decide +kernel
  have := h ⟨c.toNat, c.toNat_lt⟩
  simpa using this

theorem own_low (s : List UInt8) : ownP (s.map lowB) = ownP s := by
  unfold ownP
  match s with
  | [] => rfl
  | [a] => simp [List.isPrefixOf]
  | a :: b :: r =>
    have h1 := (lowB_low a).2
    have h2 := (lowB_low b).2
    simp only [List.map_cons, List.isPrefixOf, Bool.and_true]
    rw [BEq.comm (a := (45 : UInt8)), BEq.comm (a := (45 : UInt8)) (b := lowB b), h1, h2, BEq.comm (b := (45 : UInt8)), BEq.comm (a := b)]

theorem nmP_nmP (s : List UInt8) : nmP (nmP s) = nmP s ∧ ownP (nmP s) = ownP s := by
  cases h : ownP s with
  | true =>
    have e : nmP s = s := by unfold nmP; rw [h]; rfl
    rw [e, h]; exact ⟨e, rfl⟩
  | false =>
    have e : nmP s = s.map lowB := by unfold nmP; rw [h]; rfl
    have h2 : ownP (s.map lowB) = false := by rw [own_low, h]
    rw [e]
    refine ⟨?_, h2⟩
    unfold nmP
    rw [h2, cond_false, List.map_map]
    congr 1
    funext c
    exact (lowB_low c).1

theorem fnd_skip (p : Tk → Bool) : ∀ (P Z : List Tk) (m : Nat), (∀ t ∈ P, p t = false ∧ opT t = false) → P.length + Z.length < m → fnd p m (P ++ Z) = P.length + fnd p m Z
  | [], Z, m, _, _ => by simp
  | t :: P, Z, 0, _, h => by omega
  | t :: P, Z, m + 1, hp, h => by
    simp only [List.length_cons] at h ⊢
    obtain ⟨h1, h2⟩ := hp t (by simp)
    rw [List.cons_append, fnd, h1, h2, fnd_skip p P Z m (fun u hu => hp u (List.mem_cons_of_mem _ hu)) (by omega), fnd_more p m (m + 1) Z (by omega) (by omega)]
    simp only [cond_false]
    omega

/-- What is read of tokens of a text is good. -/
theorem good_of (L : List Tk) (hc : Cut L) (d : Dc) (h : dcl (L.take (fnd semT (L.length + 1) L)) = some d) : Good d := by
  obtain ⟨S, t, S0, c, W, h1, h2, h3, h4, h5, h6, h7, h8, h9⟩ := dcl_back h
  obtain ⟨i1, i2⟩ := imp_cases W
  have hv : ∃ S1 E, W = S1 ++ (imp W).1 ++ E ∧ AllS S1 := by
    rcases i2 with ⟨_, e⟩ | ⟨_, B, R, e1, e2⟩
    · obtain ⟨S1, E, e1, e2, _⟩ := sol_split W
      exact ⟨S1, E, by rw [e]; exact e1, e2⟩
    · obtain ⟨S1, E, f1, f2, _⟩ := sol_split B
      refine ⟨S1, E ++ R, ?_, f2⟩
      rw [e2]
      conv => lhs; rw [e1, f1]
      simp only [List.append_assoc]
  obtain ⟨S1, E, w1, w2⟩ := hv
  have hfl := fnd_len semT (L.length + 1) L
  have hsol : sol (imp W).1 = (imp W).1 := by
    rcases i2 with ⟨_, e⟩ | ⟨_, B, R, e1, e2⟩
    · rw [e]; exact sol_sol W
    · rw [e2]; exact sol_sol B
  generalize hv : (imp W).1 = v at *
  have hL : L = (S ++ t :: (S0 ++ c :: S1)) ++ (v ++ (E ++ L.drop (fnd semT (L.length + 1) L))) := by
    conv => lhs; rw [← List.take_append_drop (fnd semT (L.length + 1) L) L, h1, w1]
    simp only [List.append_assoc, List.cons_append]
  have hlen : fnd semT (L.length + 1) L = (S ++ t :: (S0 ++ c :: S1)).length + v.length + E.length := by
    have := congrArg List.length h1
    rw [List.length_take, w1] at this
    simp only [List.length_append, List.length_cons] at this ⊢
    omega
  generalize hY : E ++ L.drop (fnd semT (L.length + 1) L) = Y at hL
  have hP : ∀ u ∈ S ++ t :: (S0 ++ c :: S1), semT u = false ∧ opT u = false := by
    intro u hu
    have sil : ∀ u, silT u = true → semT u = false ∧ opT u = false := fun u hu => ⟨(sil_kind hu).2.2.2.1, (sil_kind hu).1⟩
    rcases List.mem_append.1 hu with e | e
    · exact sil u (h2 u e)
    · rcases List.mem_cons.1 e with e | e
      · have : t.1 = 1 := by simpa using h4
        rw [e]; unfold semT rawT opT; rw [this]; simp
      · rcases List.mem_append.1 e with e | e
        · exact sil u (h3 u e)
        · rcases List.mem_cons.1 e with e | e
          · rw [e]
            unfold colT rawT at h5
            rw [Bool.and_eq_true, beq_iff_eq, beq_iff_eq] at h5
            unfold semT rawT opT
            rw [h5.1, h5.2]; simp
          · exact sil u (w2 u e)
  have hle : v.length ≤ fnd semT (L.length + 1) (v ++ Y) := by
    have hl2 := congrArg List.length hL
    rw [List.length_append] at hl2
    have := fnd_skip semT _ (v ++ Y) (L.length + 1) hP (by omega)
    rw [← hL] at this
    omega
  have hok : ok [] v = true := ok_of _ v (Nat.le_refl _) h7 (L.length + 1) Y hle (by
    have hl2 := congrArg List.length hL
    simp only [List.length_append] at hl2
    omega)
  have hcv : Cut v := by
    have : cutP (rw L) = (S ++ t :: (S0 ++ c :: S1)) ++ v ++ Y := by rw [show cutP (rw L) = L from hc, List.append_assoc]; exact hL
    exact cut_seg this
  have hn := nmP_nmP t.2.2.1
  rw [h9]
  refine ⟨h6, hn.1, nrm v, cut_nrm _ v (Nat.le_refl _) hcv (ok_bad v [] hok), nrm_nrm _ v (Nat.le_refl _), head_nrm v, by rw [ok_nrm]; exact hok, ?_, ?_⟩
  · rcases h8 with e | e
    · left; show ownP (nmP t.2.2.1) = true; rw [hn.2]; exact e
    · right
      intro e2
      rw [head_nrm, e2] at e
      cases e
  · intro hi
    have hi' : (imp W).2 = false := hi
    rw [nsl_nrm _ v (Nat.le_refl _)]
    rcases i2 with ⟨_, e⟩ | ⟨e, _⟩
    · rw [e, nsl_sol, ← i1]; exact hi'
    · rw [hi'] at e; cases e

theorem Cut.drop {L : List Tk} (h : Cut L) (n : Nat) : Cut (L.drop n) := by
  have : Cut (L.take n ++ L.drop n) := by rw [List.take_append_drop]; exact h
  exact this.right

theorem goods_of : ∀ (n : Nat) (L : List Tk), Cut L → ∀ d ∈ dcls n L, Good d
  | 0, L, _, d, h => by cases h
  | n + 1, [], _, d, h => by cases h
  | n + 1, t :: r, hc, d, h => by
    rw [dcls] at h
    · rcases List.mem_append.1 h with e | e
      · exact good_of (t :: r) hc d (by simpa using e)
      · exact goods_of n _ (hc.drop _) d e
    · simp

/-- A sign that is a token by itself. -/
structure Sign (z : UInt8) : Prop where
  stop : Stop z
  bl : isBlank z = false
  sl : (z == 47) = false
  q1 : (z == 39) = false
  q2 : (z == 34) = false
  ha : (z == 35) = false
  at_ : (z == 64) = false
  pm : (z == 43 || z == 45) = false
  kd : oneK z = 12

theorem sign_num {z : UInt8} (h : Sign z) (Z : List UInt8) : nlen (z :: Z) = 0 := by
  have e1 : sgn (z :: Z) = 0 := by rw [sgn_cons, h.pm]; rfl
  have e2 : whl (z :: Z) = 0 := by
    unfold whl
    rw [e1]
    unfold cnt
    rw [List.drop_zero, List.takeWhile_cons, h.stop.dig]; simp
  have e3 : bhd (z :: Z) = 0 := by
    unfold bhd
    rw [e1, e2, List.drop_zero, frc_cons, h.stop.pt]; rfl
  unfold nlen
  rw [e2, e3]; rfl

theorem sign_bg {z : UInt8} (h : Sign z) (Z : List UInt8) : bg (z :: Z) = false := by
  have hs : isSt z = false := by
    cases hs : isSt z with
    | false => rfl
    | true => have := st_sg hs; rw [h.stop.sg] at this; cases this
  have hm : (z == 45) = false := by
    have := h.pm
    rw [Bool.or_eq_false_iff] at this
    exact this.2
  cases Z with
  | nil => exact hs
  | cons b r =>
    rw [bg, hm, hs]
    simp only [cond_false, Bool.false_or]
    rw [esc, h.stop.bs]; rfl

theorem sign_tok {z : UInt8} (h : Sign z) (Z : List UInt8) : tok1 (z :: Z) = (12, 1, [], 0) := by
  have hb : cnt isBlank (z :: Z) = 0 := by unfold cnt; rw [List.takeWhile_cons, h.bl]; simp
  have e1 : hd1 (z :: Z) 47 = false := h.sl
  have e2 : hd1 (z :: Z) 39 = false := h.q1
  have e3 : hd1 (z :: Z) 34 = false := h.q2
  have e4 : hd1 (z :: Z) 35 = false := h.ha
  have e5 : hd1 (z :: Z) 64 = false := h.at_
  unfold tok1
  rw [hb, if_neg (by omega), e1, e2, e3, e4, e5, sign_num h, if_neg (by omega), sign_bg h]
  simp only [Bool.false_and, Bool.or_self, cond_false]
  show (oneK z, 1, [], 0) = _
  rw [h.kd]

theorem sign_cut {z : UInt8} (h : Sign z) (Z : List UInt8) : cutP (z :: Z) = (12, [z], [], 0) :: cutP Z := by
  rw [cutP_cons _ (by simp), sign_tok h]
  rfl

theorem sign58 : Sign 58 := ⟨⟨rfl, rfl, rfl, rfl, rfl, rfl⟩, rfl, rfl, rfl, rfl, rfl, rfl, rfl, rfl⟩
theorem sign59 : Sign 59 := ⟨⟨rfl, rfl, rfl, rfl, rfl, rfl⟩, rfl, rfl, rfl, rfl, rfl, rfl, rfl, rfl⟩
theorem sign33 : Sign 33 := ⟨⟨rfl, rfl, rfl, rfl, rfl, rfl⟩, rfl, rfl, rfl, rfl, rfl, rfl, rfl, rfl⟩

def SEM : Tk := (12, [59], [], 0)
def COL : Tk := (12, [58], [], 0)
def MRK : Tk := (12, [33], [], 0)
def IMP : Tk := (1, word, word, 0)

theorem plain_cut {s : List UInt8} (h : plainP s = true) : ∃ n, cutP s = [((1 : Int), s, s, n)] := by
  unfold plainP at h
  match hc : cutP s with
  | [] => rw [hc] at h; cases h
  | [t] =>
    rw [hc] at h
    simp only [Bool.and_eq_true, beq_iff_eq] at h
    obtain ⟨⟨h1, h2⟩, h3⟩ := h
    refine ⟨t.2.2.2, ?_⟩
    have : t = ((1 : Int), s, s, t.2.2.2) := by
      obtain ⟨a, b, c, d⟩ := t
      simp only at h1 h2 h3
      rw [h1, h2, h3]
    rw [← this]
  | t :: u :: r => rw [hc] at h; cases h

theorem name_cut {s : List UInt8} (h : plainP s = true) {z : UInt8} (hz : Stop z) (Z : List UInt8) : ∃ n, cutP (s ++ z :: Z) = ((1 : Int), s, s, n) :: cutP (z :: Z) := by
  obtain ⟨n, hn⟩ := plain_cut h
  refine ⟨n, ?_⟩
  have ho : ¬ Unfin z s := by
    rintro ⟨u, hu, hk⟩
    rw [hn] at hu
    have : u = ((1 : Int), s, s, n) := by simpa using hu.symm
    rw [this] at hk
    simp at hk
  rw [cut_apart' hz Z _ s (Nat.le_refl _) ho, hn]
  rfl

theorem word_plain : plainP word = true := by kernel_rfl

/-- The value's text, and what ends it. -/
theorem val_cut {V : List Tk} (hc : Cut V) (hn : nrm V = V) (ho : ok [] V = true) {z : UInt8} (hz : Stop z) (Z : List UInt8) : cutP (rw V ++ z :: Z) = V ++ cutP (z :: Z) := by
  have hc' : cutP (rw V) = V := hc
  have hu : ¬ Unfin z (rw V) := by
    rintro ⟨u, hu, hk⟩
    rw [hc'] at hu
    have hm := List.mem_of_getLast? hu
    have q1 := ok_bad V [] ho u hm
    rw [← hn] at hu
    have q2 := (nrm_last _ V (Nat.le_refl _) u hu).1
    unfold silT at q2
    unfold badT at q1
    rcases hk with e | e | e
    · rw [e] at q1; simp at q1
    · rw [e.1] at q2; simp at q2
    · rw [e] at q2; simp at q2
  rw [cut_apart' hz Z _ _ (Nat.le_refl _) hu, hc']

def txt (d : Dc) : List UInt8 := d.1 ++ [58] ++ d.2.1 ++ (bif d.2.2 then 33 :: word else []) ++ [59]
def txts (l : List Dc) : List UInt8 := (l.map txt).flatten

/-- The declaration read again, ahead of its semicolon. -/
theorem good_cut (d : Dc) (h : Good d) (X : List UInt8) : ∃ P, cutP (txt d ++ X) = P ++ SEM :: cutP X ∧ (∀ (m : Nat) (Y : List Tk), P.length + Y.length + 1 < m → fnd semT m (P ++ SEM :: Y) = P.length) ∧ dcl P = some d := by
  obtain ⟨h1, h2, V, h3, h4, h5, h6, h7, h8⟩ := h
  obtain ⟨nm, vl, ip⟩ := d
  simp only at h1 h2 h5 h7 h8
  have hsem : ∀ Z, cutP (59 :: Z) = SEM :: cutP Z := sign_cut sign59
  have hcol : ∀ Z, cutP (58 :: Z) = COL :: cutP Z := sign_cut sign58
  have hmrk : ∀ Z, cutP (33 :: Z) = MRK :: cutP Z := sign_cut sign33
  have hword : ∃ n, ∀ Z, cutP (word ++ 59 :: Z) = ((1 : Int), word, word, n) :: cutP (59 :: Z) := by
    obtain ⟨n, hn⟩ := plain_cut word_plain
    refine ⟨n, fun Z => ?_⟩
    obtain ⟨n', hn'⟩ := name_cut word_plain sign59.stop Z
    have e := cut_split _ _ _ (by rw [hn']; exact (List.singleton_append).symm : cutP (word ++ 59 :: Z) = [((1 : Int), word, word, n')] ++ cutP (59 :: Z))
    have : rw [((1 : Int), word, word, n')] = word := by rw [rw_cons, rw_nil, List.append_nil]
    rw [this, hn] at e
    rw [hn', (List.cons.inj e.1).1]
  obtain ⟨w, hw⟩ := hword
  let M : List Tk := bif ip then [MRK, ((1 : Int), word, word, w)] else []
  have hMm : M = bif ip then [MRK, ((1 : Int), word, word, w)] else [] := rfl
  have hval : ∀ Z, cutP (vl ++ ((bif ip then 33 :: word else []) ++ 59 :: Z)) = V ++ (M ++ SEM :: cutP Z) := by
    intro Z
    rw [h5, hMm]
    cases ip with
    | true =>
      simp only [cond_true, List.cons_append]
      rw [val_cut h3 h4 h6 sign33.stop, hmrk, hw, hsem]
      rfl
    | false =>
      simp only [cond_false, List.nil_append]
      rw [val_cut h3 h4 h6 sign59.stop, hsem]
  obtain ⟨n, hn⟩ := name_cut h1 sign58.stop (vl ++ ((bif ip then 33 :: word else []) ++ 59 :: X))
  refine ⟨((1 : Int), nm, nm, n) :: COL :: (V ++ M), ?_, ?_, ?_⟩
  · have e : txt (nm, vl, ip) ++ X = nm ++ 58 :: (vl ++ ((bif ip then 33 :: word else []) ++ 59 :: X)) := by
      unfold txt; simp only [List.append_assoc, List.singleton_append, List.cons_append, List.nil_append]
    rw [e, hn, hcol, hval]
    simp only [List.append_assoc, List.cons_append]
  · intro m Y hm
    have hM : ∀ u ∈ M, semT u = false ∧ opT u = false := by
      intro u hu
      rw [hMm] at hu
      cases ip with
      | false => cases hu
      | true =>
        simp only [cond_true, List.mem_cons, List.not_mem_nil, or_false] at hu
        rcases hu with e | e <;> rw [e] <;> exact ⟨rfl, rfl⟩
    have hf := (of_ok _ V (Nat.le_refl _)).2 h6
    simp only [List.length_cons, List.length_append] at hm ⊢
    have s0 : fnd semT m ([((1 : Int), nm, nm, n), COL] ++ (V ++ (M ++ SEM :: Y))) = [((1 : Int), nm, nm, n), COL].length + fnd semT m (V ++ (M ++ SEM :: Y)) := by
      refine fnd_skip semT _ _ m ?_ (by simp only [List.length_cons, List.length_append, List.length_nil]; omega)
      intro u hu
      simp only [List.mem_cons, List.not_mem_nil, or_false] at hu
      rcases hu with e | e <;> rw [e] <;> exact ⟨rfl, rfl⟩
    have e : ((1 : Int), nm, nm, n) :: COL :: (V ++ M) ++ SEM :: Y = [((1 : Int), nm, nm, n), COL] ++ (V ++ (M ++ SEM :: Y)) := by simp
    rw [e, s0, hf.2 m _ (by simp only [List.length_cons, List.length_append]; omega), fnd_skip semT M _ m hM (by simp only [List.length_cons]; omega)]
    have z : fnd semT m (SEM :: Y) = 0 := by
      match m with
      | 0 => omega
      | m + 1 => rw [fnd]; rfl
    rw [z]
    simp only [List.length_cons, List.length_nil]
    omega
  · have hno : AllS ([] : List Tk) := by intro t ht; cases ht
    have hd := dcl_form [] [] (V ++ M) ((1 : Int), nm, nm, n) COL hno hno rfl rfl
    rw [List.nil_append, List.nil_append] at hd
    rw [hd]
    have hi : imp (V ++ M) = (V, ip) := by
      rw [hMm]
      cases ip with
      | true =>
        have := imp_mark V [] [] MRK ((1 : Int), word, word, w) rfl hno rfl (by kernel_rfl) hno
        rw [List.nil_append] at this
        rw [show sol V = V by rw [← h4]; exact sol_nrm V] at this
        exact this
      | false =>
        simp only [cond_false, List.append_nil]
        obtain ⟨i1, i2⟩ := imp_cases V
        rw [h8 rfl] at i1
        rcases i2 with ⟨_, e⟩ | ⟨e, _⟩
        · have : imp V = ((imp V).1, (imp V).2) := rfl
          rw [this, i1, e]
          rw [show sol V = V by rw [← h4]; exact sol_nrm V]
        · rw [i1] at e; cases e
    rw [hi]
    simp only
    rw [h2, h1, ((of_ok _ V (Nat.le_refl _)).2 h6).1, head_nrm, h4, ← h5]
    have hne : (ownP nm || !vl.isEmpty) = true := by
      rcases h7 with e | e
      · rw [e]; rfl
      · have : vl ≠ [] := by
          intro e2
          rw [e2] at h5
          have hc' : cutP (rw V) = V := h3
          rw [← h5, cutP_nil] at hc'
          exact e hc'.symm
        cases vl with
        | nil => exact absurd rfl this
        | cons a b => simp
    rw [hne]
    rfl

theorem dcls_more : ∀ (n m : Nat) (l : List Tk), l.length < n → n ≤ m → dcls m l = dcls n l
  | 0, m, l, h, _ => by omega
  | n + 1, 0, l, _, h => by omega
  | n + 1, m + 1, [], h, hm => rfl
  | n + 1, m + 1, t :: r, h, hm => by
    rw [dcls, dcls]
    · simp only [List.length_cons] at h
      rw [dcls_more n m _ (by rw [List.length_drop]; simp only [List.length_cons]; omega) (by omega)]
    · simp
    · simp

/-- All declarations of tokens. -/
def decs (L : List Tk) : List Dc := dcls (L.length + 2) L

theorem decs_of (n : Nat) (L : List Tk) (h : L.length < n) : dcls n L = decs L := by
  unfold decs
  rcases Nat.le_total n (L.length + 2) with e | e
  · exact (dcls_more n _ L h e).symm
  · exact dcls_more (L.length + 2) n L (by omega) e

/-- A piece, and what is behind its semicolon. -/
theorem decs_piece (P Y : List Tk) (h : ∀ m, P.length + Y.length + 1 < m → fnd semT m (P ++ SEM :: Y) = P.length) : decs (P ++ SEM :: Y) = (dcl P).toList ++ decs Y := by
  have hl : (P ++ SEM :: Y).length = P.length + Y.length + 1 := by simp; omega
  have e : decs (P ++ SEM :: Y) = (dcl ((P ++ SEM :: Y).take P.length)).toList ++ dcls ((P ++ SEM :: Y).length + 1) ((P ++ SEM :: Y).drop (P.length + 1)) := by
    unfold decs
    have hf := h ((P ++ SEM :: Y).length + 1) (by omega)
    generalize hx : P ++ SEM :: Y = x at *
    cases x with
    | nil => simp at hl
    | cons a b =>
      rw [dcls]
      · rw [hf]
      · simp
  rw [e, List.take_left' rfl]
  have e2 : (P ++ SEM :: Y).drop (P.length + 1) = Y := by
    rw [show P ++ SEM :: Y = (P ++ [SEM]) ++ Y by simp, List.drop_left' (by simp)]
  rw [e2, decs_of _ Y (by omega)]

/-- Told and read again: the declarations are the same, and what is behind them is read as by itself. -/
theorem told : ∀ (l : List Dc), (∀ d ∈ l, Good d) → ∀ X : List UInt8, decs (cutP (txts l ++ X)) = l ++ decs (cutP X)
  | [], _, X => rfl
  | d :: l, h, X => by
    have e : txts (d :: l) ++ X = txt d ++ (txts l ++ X) := by unfold txts; simp
    obtain ⟨P, h1, h2, h3⟩ := good_cut d (h d (by simp)) (txts l ++ X)
    rw [e, h1, decs_piece P _ (fun m hm => h2 m _ hm), h3, told l (fun u hu => h u (List.mem_cons_of_mem _ hu)) X]
    rfl

theorem goods (s : List UInt8) : ∀ d ∈ decs (cutP s), Good d := goods_of _ _ (Cut.of s)

end Go.Ev.Tok
