/- A text and another one with a sign between that ends tokens are cut as each by itself: in plain words, no Go in sight; no condition beyond those that each theorem names. -/
import Derived.Test.YtdnnaneifaoooaaDoorEvTkP
set_option linter.unusedVariables false
set_option linter.unusedSimpArgs false
namespace Go.Ev.Tok

/-- A sign that no token takes in behind its beginning. -/
structure Stop (z : UInt8) : Prop where
  sg : isSg z = false
  bs : (z == 92) = false
  pt : (z == 46) = false
  pc : (z == 37) = false
  br : (z == 40) = false
  st : (z == 42) = false

theorem Stop.dig {z : UInt8} (h : Stop z) : isDig z = false := by
  have := h.sg
  unfold isSg at this
  simp only [Bool.or_eq_false_iff] at this
  exact this.1.2

theorem nmz {z : UInt8} (hz : Stop z) (t : List UInt8) : (nm (z :: t)).2 = 0 := by
  cases t with
  | nil => simp [nm, hz.sg]
  | cons d r => simp [nm, hz.sg, hz.bs]

theorem nm_cr' {z : UInt8} (hz : Stop z) : ∀ (x t : List UInt8), x.length < (nm (x ++ z :: t)).2 → Cr x
  | [], t, h => by rw [List.nil_append, nmz hz] at h; simp at h
  | [c], t, h => by
    have e : nm ([c] ++ z :: t) = bif c == 92 && z != 10 then (z :: (nm t).1, (nm t).2 + 2) else bif isSg c then (c :: (nm (z :: t)).1, (nm (z :: t)).2 + 1) else ([], 0) := by
      show nm (c :: z :: t) = _
      rw [nm]
    rw [e, nmz hz] at h
    cases h1 : (c == 92) with
    | true =>
      have : c = 92 := by simpa using h1
      subst this; exact .one
    | false =>
      rw [h1] at h
      simp only [Bool.false_and, cond_false] at h
      cases h2 : isSg c <;> rw [h2] at h <;> simp at h
  | c :: d :: r, t, h => by
    have e : nm (c :: d :: r ++ z :: t) = bif c == 92 && d != 10 then (d :: (nm (r ++ z :: t)).1, (nm (r ++ z :: t)).2 + 2) else bif isSg c then (c :: (nm (d :: r ++ z :: t)).1, (nm (d :: r ++ z :: t)).2 + 1) else ([], 0) := by
      show nm (c :: d :: (r ++ z :: t)) = _
      rw [nm]; rfl
    rw [e] at h
    cases h1 : (c == 92 && d != 10) with
    | true =>
      rw [h1] at h
      simp only [cond_true, List.length_cons] at h
      rw [Bool.and_eq_true] at h1
      have h92 : c = 92 := by simpa using h1.1
      have h10 : d ≠ 10 := by simpa using h1.2
      subst h92
      exact .es h10 (nm_cr' hz r t (by omega))
    | false =>
      rw [h1] at h
      simp only [cond_false] at h
      cases h2 : isSg c with
      | true =>
        rw [h2] at h
        simp only [cond_true, List.length_cons] at h
        exact .sg h2 (nm_cr' hz (d :: r) t (by simp only [List.length_cons]; omega))
      | false => rw [h2] at h; simp at h


theorem cnt_app' (p : UInt8 → Bool) {z : UInt8} (h : p z = false) (t : List UInt8) : ∀ s : List UInt8, cnt p (s ++ z :: t) = cnt p s
  | [] => by unfold cnt; rw [List.nil_append, List.takeWhile_cons, h]; rfl
  | a :: r => by
    have ih := cnt_app' p h t r
    unfold cnt at ih ⊢
    rw [List.cons_append, List.takeWhile_cons, List.takeWhile_cons]
    cases p a with
    | true => simp only [if_true, List.length_cons]; rw [ih]
    | false => rfl


theorem frc_app' {z : UInt8} (hz : Stop z) (t : List UInt8) (s : List UInt8) : frc (s ++ z :: t) = frc s := by
  cases s with
  | nil => rw [List.nil_append, frc_cons, hz.pt]; rfl
  | cons a r =>
    show (bif a == 46 then cnt isDig (r ++ z :: t) else 0) = bif a == 46 then cnt isDig r else 0
    rw [cnt_app' isDig hz.dig]


theorem hd1_app' {z : UInt8} (s t : List UInt8) (c : UInt8) (hs : s ≠ []) : hd1 (s ++ z :: t) c = hd1 s c := by
  cases s with
  | nil => exact absurd rfl hs
  | cons a r => rfl


theorem hd1_app2' {z : UInt8} (s t : List UInt8) (c : UInt8) (hc : (z == c) = false) : hd1 (s ++ z :: t) c = hd1 s c := by
  cases s with
  | nil => exact hc
  | cons a r => rfl


theorem sgn_app' {z : UInt8} (s t : List UInt8) (hs : s ≠ []) : sgn (s ++ z :: t) = sgn s := by
  cases s with
  | nil => exact absurd rfl hs
  | cons a r => rfl


theorem drop_app' {z : UInt8} (s t : List UInt8) (n : Nat) (h : n ≤ s.length) : (s ++ z :: t).drop n = s.drop n ++ z :: t := List.drop_append_of_le_length h


theorem whl_app' {z : UInt8} (hz : Stop z) (s t : List UInt8) (hs : s ≠ []) : whl (s ++ z :: t) = whl s := by
  unfold whl
  rw [sgn_app' s t hs, drop_app' s t _ (sgn_le s).1, cnt_app' isDig hz.dig]


theorem bhd_app' {z : UInt8} (hz : Stop z) (s t : List UInt8) (hs : s ≠ []) : bhd (s ++ z :: t) = bhd s := by
  unfold bhd
  rw [sgn_app' s t hs, whl_app' hz s t hs, drop_app' s t _ (whl_le s), frc_app' hz]


theorem nlen_app' {z : UInt8} (hz : Stop z) (s t : List UInt8) (hs : s ≠ []) : nlen (s ++ z :: t) = nlen s := by
  unfold nlen
  rw [sgn_app' s t hs, whl_app' hz s t hs, bhd_app' hz s t hs]


/-- Does a text's end want more? -/
def Unfin (z : UInt8) (s : List UInt8) : Prop := ∃ u, (cutP s).getLast? = some u ∧ (u.1 = 6 ∨ (u.1 = 8 ∧ isBlank z = true) ∨ u.1 = 9)

theorem unfin6 {z : UInt8} {x : List UInt8} (h : Cr x) : Unfin z x := by
  obtain ⟨u, h1, h2⟩ := last6 _ x (Nat.le_refl _) h
  exact ⟨u, h1, .inl h2⟩

theorem tok1_app' {z : UInt8} (hz : Stop z) (s t : List UInt8) (hs : s ≠ []) : (tok1 (s ++ z :: t)).2.1 ≤ s.length ∨ Unfin z s := by
  by_cases hle : (tok1 (s ++ z :: t)).2.1 ≤ s.length
  · exact .inl hle
  right
  have hpos : 0 < s.length := List.length_pos_iff.2 hs
  have d1 : (s ++ z :: t).drop 1 = s.drop 1 ++ z :: t := drop_app' s t 1 (by omega)
  by_cases hb : cnt isBlank (s ++ z :: t) > 0
  · have e : tok1 (s ++ z :: t) = (8, cnt isBlank (s ++ z :: t), [], 0) := by unfold tok1; rw [if_pos hb]
    rw [e] at hle
    simp only at hle
    have h2 := cnt_take isBlank (s ++ z :: t) s.length
    rw [List.take_left'  rfl] at h2
    have h3 : cnt isBlank s = s.length := by omega
    have hzb : isBlank z = true := by
      cases hzz : isBlank z with
      | true => rfl
      | false => rw [cnt_app' isBlank hzz] at hle; have := cnt_le isBlank s; omega
    have e2 : tok1 s = (8, cnt isBlank s, [], 0) := by unfold tok1; rw [if_pos (by omega)]
    obtain ⟨u, hu, hk⟩ := cut_whole s hs (by rw [e2]; exact h3)
    exact ⟨u, hu, .inr (.inl ⟨by rw [hk, e2], hzb⟩)⟩
  have hb2 : ¬ cnt isBlank s > 0 := by
    have h2 := cnt_take isBlank (s ++ z :: t) s.length
    rw [List.take_left' rfl] at h2
    omega
  by_cases hn : 0 < nlen s
  · have hn2 : 0 < nlen (s ++ z :: t) := by rw [nlen_app' hz s t hs]; exact hn
    rw [tok1_num _ hn2] at hle
    unfold numT at hle
    have hnl := nlen_le s
    rw [nlen_app' hz s t hs, drop_app' s t _ hnl, hd1_app2' _ t 37 hz.pc] at hle
    cases h37 : hd1 (s.drop (nlen s)) 37 with
    | true =>
      have := hd1_pos h37
      rw [List.length_drop] at this
      rw [h37] at hle
      simp only [cond_true] at hle
      omega
    | false =>
      rw [h37] at hle
      simp only [cond_false] at hle
      cases hbg : bg (s.drop (nlen s) ++ z :: t) with
      | false => rw [hbg] at hle; simp only [cond_false] at hle; omega
      | true =>
        rw [hbg] at hle
        simp only [cond_true] at hle
        have hc : Cr (s.drop (nlen s)) := nm_cr' hz _ t (by rw [List.length_drop]; omega)
        obtain ⟨c1, c2⟩ := cr_nm hc
        have e : tok1 s = bif bg (s.drop (nlen s)) then (7, nlen s + (nm (s.drop (nlen s))).2, (nm (s.drop (nlen s))).1.map lowB, nval s) else (7, nlen s, [], nval s) := by
          rw [tok1_num s hn]; unfold numT; rw [h37]; rfl
        cases hbs : bg (s.drop (nlen s)) with
        | true =>
          rw [hbs, cond_true] at e
          obtain ⟨u, hu, h6⟩ := unfin6 (z := z) Cr.one
          exact ⟨u, cut_last s hs u (by rw [e]; simp only; rw [← List.drop_drop, c2]; exact hu), h6⟩
        | false =>
          rw [hbs, cond_false] at e
          obtain ⟨u, hu, h6⟩ := unfin6 (z := z) hc
          exact ⟨u, cut_last s hs u (by rw [e]; exact hu), h6⟩
  have hn2 : ¬ nlen (s ++ z :: t) > 0 := by rw [nlen_app' hz s t hs]; exact hn
  have hh := hd1_app' (z := z) s t
  have e' : tok1 (s ++ z :: t) = bif hd1 s 47 && hd1 (s.drop 1 ++ z :: t) 42 then (9, noteN (s ++ z :: t), [], 0)
      else bif hd1 s 39 || hd1 s 34 then
        bif (tx (s.getD 0 0) (s.drop 1 ++ z :: t)).1 then (5, 1 + (tx (s.getD 0 0) (s.drop 1 ++ z :: t)).2.1, (tx (s.getD 0 0) (s.drop 1 ++ z :: t)).2.2, 0) else (6, 1 + (tx (s.getD 0 0) (s.drop 1 ++ z :: t)).2.1, [], 0)
      else bif hd1 s 35 && decide (1 < (s ++ z :: t).length) && (isSg ((s ++ z :: t).getD 1 0) || esc (s.drop 1 ++ z :: t)) then (4, 1 + (nm (s.drop 1 ++ z :: t)).2, (nm (s.drop 1 ++ z :: t)).1, 0)
      else bif hd1 s 64 && bg (s.drop 1 ++ z :: t) then (3, 1 + (nm (s.drop 1 ++ z :: t)).2, (nm (s.drop 1 ++ z :: t)).1, 0)
      else bif bg (s ++ z :: t) then nameT (s ++ z :: t)
      else (oneK (s.getD 0 0), 1, [], 0) := by
    have g : (s ++ z :: t).getD 0 0 = s.getD 0 0 := by
      cases s with
      | nil => exact absurd rfl hs
      | cons a r => rfl
    unfold tok1
    rw [if_neg hb, if_neg hn2, hh _ hs, hh _ hs, hh _ hs, hh _ hs, hh _ hs, d1, g]
  have e0 : tok1 s = bif hd1 s 47 && hd1 (s.drop 1) 42 then (9, noteN s, [], 0)
      else bif hd1 s 39 || hd1 s 34 then
        bif (tx (s.getD 0 0) (s.drop 1)).1 then (5, 1 + (tx (s.getD 0 0) (s.drop 1)).2.1, (tx (s.getD 0 0) (s.drop 1)).2.2, 0) else (6, 1 + (tx (s.getD 0 0) (s.drop 1)).2.1, [], 0)
      else bif hd1 s 35 && decide (1 < s.length) && (isSg (s.getD 1 0) || esc (s.drop 1)) then (4, 1 + (nm (s.drop 1)).2, (nm (s.drop 1)).1, 0)
      else bif hd1 s 64 && bg (s.drop 1) then (3, 1 + (nm (s.drop 1)).2, (nm (s.drop 1)).1, 0)
      else bif bg s then nameT s
      else (oneK (s.getD 0 0), 1, [], 0) := by
    unfold tok1
    rw [if_neg hb2, if_neg hn]
  rw [hd1_app2' _ t 42 hz.st] at e'
  cases h1 : (hd1 s 47 && hd1 (s.drop 1) 42) with
  | true =>
    rw [h1, cond_true] at e' e0
    rw [e'] at hle
    simp only at hle
    have hw : noteN s = s.length := by
      unfold noteN
      by_cases hi : Go.Lib.index (s.drop 2) [42, 47] ≥ 0
      · exfalso
        apply hle
        rw [Bool.and_eq_true] at h1
        have h2 := hd1_pos h1.2
        rw [List.length_drop] at h2
        unfold noteN
        rw [drop_app' s t 2 (by omega), idx_app _ _ hi, if_pos hi]
        have := idx_le _ hi
        rw [List.length_drop] at this
        omega
      · rw [if_neg hi]
    obtain ⟨u, hu, hk⟩ := cut_whole s hs (by rw [e0]; exact hw)
    exact ⟨u, hu, .inr (.inr (by rw [hk, e0]))⟩
  | false =>
    rw [h1, cond_false] at e' e0
    cases h2 : (hd1 s 39 || hd1 s 34) with
    | true =>
      rw [h2, cond_true] at e' e0
      have hlen : (s.drop 1).length < (tx (s.getD 0 0) (s.drop 1 ++ z :: t)).2.1 := by
        rw [e'] at hle
        rw [List.length_drop]
        cases hx : (tx (s.getD 0 0) (s.drop 1 ++ z :: t)).1 with
        | true => rw [hx, cond_true] at hle; simp only at hle; omega
        | false => rw [hx, cond_false] at hle; simp only at hle; omega
      obtain ⟨x1, x2⟩ := tx_app _ _ _ hlen
      rw [x1, cond_false, x2] at e0
      obtain ⟨u, hu, hk⟩ := cut_whole s hs (by rw [e0]; simp only [List.length_drop]; omega)
      exact ⟨u, hu, .inl (by rw [hk, e0])⟩
    | false =>
      rw [h2, cond_false] at e' e0
      have one : ∀ x c, s = c :: x → Cr x → hd1 s 35 = true ∨ hd1 s 64 = true → Unfin z s := by
        intro x c hsx hc hcc
        obtain ⟨c1, c2⟩ := cr_nm hc
        have hx := List.length_pos_iff.2 (cr_ne hc)
        subst hsx
        have hbg : bg (c :: x) = false := by
          match x, hc with
          | [], hc => exact absurd rfl (cr_ne hc)
          | d :: r, hc =>
            rw [bg_cons]
            rcases hcc with h | h
            · have : c = 35 := by simpa [hd1] using h
              subst this; rfl
            · have : c = 64 := by simpa [hd1] using h
              subst this; rfl
        have dd : (c :: x).drop 1 = x := rfl
        rw [hbg, cond_false, dd] at e0
        obtain ⟨u6, hu6, h66⟩ := unfin6 (z := z) Cr.one
        obtain ⟨ux, hux, h6x⟩ := unfin6 (z := z) hc
        have done1 : tok1 (c :: x) = (oneK ((c :: x).getD 0 0), 1, [], 0) → Unfin z (c :: x) := fun e => ⟨ux, cut_last _ hs ux (by rw [e]; exact hux), h6x⟩
        have done2 : ∀ k, tok1 (c :: x) = (k, 1 + (nm x).2, (nm x).1, 0) → Unfin z (c :: x) := fun k e => ⟨u6, cut_last _ hs u6 (by rw [e]; simp only; rw [Nat.add_comm, List.drop_succ_cons, c2]; exact hu6), h66⟩
        cases h3 : (hd1 (c :: x) 35 && decide (1 < (c :: x).length) && (isSg ((c :: x).getD 1 0) || esc x)) with
        | true => rw [h3, cond_true] at e0; exact done2 _ e0
        | false =>
          rw [h3, cond_false] at e0
          cases h4 : (hd1 (c :: x) 64 && bg x) with
          | true => rw [h4, cond_true] at e0; exact done2 _ e0
          | false => rw [h4, cond_false] at e0; exact done1 e0
      obtain ⟨c, x, hsx⟩ : ∃ c x, s = c :: x := by
        cases s with
        | nil => exact absurd rfl hs
        | cons a r => exact ⟨a, r, rfl⟩
      have hxl : s.length = x.length + 1 := by rw [hsx]; rfl
      have hdx : s.drop 1 = x := by rw [hsx]; rfl
      cases h3 : (hd1 s 35 && decide (1 < (s ++ z :: t).length) && (isSg ((s ++ z :: t).getD 1 0) || esc (s.drop 1 ++ z :: t))) with
      | true =>
        rw [h3, cond_true] at e'
        rw [e', hdx] at hle
        simp only at hle
        rw [Bool.and_eq_true, Bool.and_eq_true] at h3
        exact one x c hsx (nm_cr' hz x t (by omega)) (.inl h3.1.1)
      | false =>
        rw [h3, cond_false] at e'
        cases h4 : (hd1 s 64 && bg (s.drop 1 ++ z :: t)) with
        | true =>
          rw [h4, cond_true] at e'
          rw [e', hdx] at hle
          simp only at hle
          rw [Bool.and_eq_true] at h4
          exact one x c hsx (nm_cr' hz x t (by omega)) (.inr h4.1)
        | false =>
          rw [h4, cond_false] at e'
          cases h5 : bg (s ++ z :: t) with
          | false =>
            rw [h5, cond_false] at e'
            rw [e'] at hle
            simp only at hle
            omega
          | true =>
            rw [h5, cond_true] at e'
            rw [e'] at hle
            by_cases hm : (nm (s ++ z :: t)).2 ≤ s.length
            · exfalso
              apply hle
              unfold nameT
              rw [drop_app' s t _ hm, hd1_app2' _ t 40 hz.br]
              cases h40 : hd1 (s.drop (nm (s ++ z :: t)).2) 40 with
              | true =>
                have := hd1_pos h40
                rw [List.length_drop] at this
                simp only [cond_true]; omega
              | false => exact hm
            · exact unfin6 (z := z) (nm_cr' hz s t (by omega))


theorem cut_apart' {z : UInt8} (hz : Stop z) (t : List UInt8) : ∀ (n : Nat) (s : List UInt8), s.length ≤ n → ¬ Unfin z s → cutP (s ++ z :: t) = cutP s ++ cutP (z :: t)
  | 0, s, hn, ho => by
    have : s = [] := List.length_eq_zero_iff.1 (by omega)
    subst this; rfl
  | n + 1, s, hn, ho => by
    by_cases hs : s = []
    · subst hs; rfl
    have h1 := tok1_ok s hs
    have hle : (tok1 (s ++ z :: t)).2.1 ≤ s.length := (tok1_app' hz s t hs).resolve_right ho
    have hne : s ++ z :: t ≠ [] := by simp
    have e := tok1_take (s ++ z :: t) hne s.length hle
    rw [List.take_left' rfl] at e
    rw [← e] at hle
    rw [cutP_cons _ hne, ← e, drop_app' s t _ hle, cutP_cons s hs]
    have e2 : tokO (s ++ z :: t) (tok1 s) = tokO s (tok1 s) := by
      unfold tokO
      rw [List.take_append_of_le_length hle]
    rw [e2, List.cons_append]
    congr 1
    apply cut_apart' hz t n _ (by rw [List.length_drop]; omega)
    rintro ⟨u, hu, hk⟩
    exact ho ⟨u, cut_last s hs u hu, hk⟩


end Go.Ev.Tok
