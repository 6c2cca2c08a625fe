/- What tokens of a sheet are, in plain words: no Go in sight; no condition. -/
import Derived.Test.YtdnnaneifaoooaaDoorEvNum
import Derived.Lib.Index
set_option linter.unusedVariables false
namespace Go.Ev.Tok

def isDig (c : UInt8) : Bool := decide (48 ≤ c.toNat) && decide (c.toNat ≤ 57)
def isSt (c : UInt8) : Bool := decide (128 ≤ c.toNat) || c == 95 || (decide (97 ≤ c.toNat ||| 32) && decide (c.toNat ||| 32 ≤ 122))
def isSg (c : UInt8) : Bool := isSt c || isDig c || c == 45
def isBlank (c : UInt8) : Bool := c == 32 || c == 9 || c == 10 || c == 12 || c == 13

/-- Does an escape begin a text? -/
def esc : List UInt8 → Bool
  | a :: b :: _ => a == 92 && b != 10
  | _ => false

/-- Does a name begin a text? -/
def bg : List UInt8 → Bool
  | [] => false
  | [a] => isSt a
  | a :: b :: r => bif a == 45 then b == 45 || isSt b || esc (b :: r) else isSt a || esc (a :: b :: r)

/-- What a name says, and how many bytes it is. -/
def nm : List UInt8 → List UInt8 × Nat
  | [] => ([], 0)
  | [c] => bif isSg c then ([c], 1) else ([], 0)
  | c :: d :: r => bif c == 92 && d != 10 then (d :: (nm r).1, (nm r).2 + 2) else bif isSg c then (c :: (nm (d :: r)).1, (nm (d :: r)).2 + 1) else ([], 0)

/-- A text behind its first quote: is it closed, how many bytes, what it says. -/
def tx (q : UInt8) : List UInt8 → Bool × Nat × List UInt8
  | [] => (false, 0, [])
  | [c] => bif c == q then (true, 1, []) else bif c == 10 then (false, 0, []) else (false, 1, [c])
  | c :: d :: r => bif c == q then (true, 1, []) else bif c == 10 then (false, 0, []) else
      bif c == 92 then ((tx q r).1, (tx q r).2.1 + 2, d :: (tx q r).2.2) else ((tx q (d :: r)).1, (tx q (d :: r)).2.1 + 1, c :: (tx q (d :: r)).2.2)

/-- How many of the first ones. -/
def cnt (p : UInt8 → Bool) (s : List UInt8) : Nat := (s.takeWhile p).length

theorem nm_le : ∀ s : List UInt8, (nm s).2 ≤ s.length
  | [] => by simp [nm]
  | [c] => by unfold nm; cases isSg c <;> simp
  | c :: d :: r => by
    have h1 := nm_le r
    have h2 := nm_le (d :: r)
    unfold nm
    cases (c == 92 && d != 10)
    · cases isSg c
      · simp
      · simp at h2 ⊢; omega
    · simp; omega

theorem nm_len : ∀ s : List UInt8, (nm s).1.length ≤ (nm s).2
  | [] => by simp [nm]
  | [c] => by unfold nm; cases isSg c <;> simp
  | c :: d :: r => by
    have h1 := nm_len r
    have h2 := nm_len (d :: r)
    unfold nm
    cases (c == 92 && d != 10)
    · cases isSg c
      · simp
      · simp; omega
    · simp; omega

theorem tx_le (q : UInt8) : ∀ s : List UInt8, (tx q s).2.1 ≤ s.length
  | [] => by simp [tx]
  | [c] => by unfold tx; cases (c == q) <;> cases (c == 10) <;> simp
  | c :: d :: r => by
    have h1 := tx_le q r
    have h2 := tx_le q (d :: r)
    unfold tx
    cases (c == q) <;> cases (c == 10) <;> cases (c == 92) <;> simp at h2 ⊢ <;> omega

/-- Is there a sign ahead of a number? -/
def sgn : List UInt8 → Nat
  | a :: _ => bif a == 43 || a == 45 then 1 else 0
  | [] => 0

def whl (s : List UInt8) : Nat := cnt isDig (s.drop (sgn s))

/-- How many digits stand behind a point. -/
def frc : List UInt8 → Nat
  | a :: r => bif a == 46 then cnt isDig r else 0
  | [] => 0

def bhd (s : List UInt8) : Nat := frc (s.drop (sgn s + whl s))

/-- How many bytes a number is. -/
def nlen (s : List UInt8) : Nat := if whl s + bhd s = 0 then 0 else sgn s + whl s + (if bhd s = 0 then 0 else 1 + bhd s)

def addD (n : Int) (c : UInt8) : Int := if (1000000000 : Int) < 10 * n + ((c.toNat : Int) - 48) % 256 then 1000000000 else 10 * n + ((c.toNat : Int) - 48) % 256

/-- The digits behind the point. -/
def fpart (s : List UInt8) : List UInt8 := if bhd s = 0 then [] else (s.drop (sgn s + whl s + 1)).take (bhd s)

def nabs (s : List UInt8) : Int :=
  addD (addD (addD (((s.drop (sgn s)).take (whl s)).foldl addD 0) ((fpart s).getD 0 48)) ((fpart s).getD 1 48)) ((fpart s).getD 2 48)

def nval (s : List UInt8) : Int := if whl s + bhd s = 0 then 0 else if s.getD 0 0 = 45 then - nabs s else nabs s

theorem cnt_le (p : UInt8 → Bool) (s : List UInt8) : cnt p s ≤ s.length := by
  unfold cnt
  exact (List.takeWhile_sublist p).length_le

theorem cnt_drop (p : UInt8 → Bool) (s : List UInt8) : (s.dropWhile p).length = s.length - cnt p s := by
  have h := congrArg List.length (List.takeWhile_append_dropWhile (p := p) (l := s))
  rw [List.length_append] at h
  unfold cnt; omega

theorem sgn_le (s : List UInt8) : sgn s ≤ s.length ∧ sgn s ≤ 1 := by
  cases s with
  | nil => simp [sgn]
  | cons a r =>
    unfold sgn
    cases h : (a == 43 || a == 45)
    · simp [h]
    · simp [h]

theorem whl_le (s : List UInt8) : sgn s + whl s ≤ s.length := by
  have h := cnt_le isDig (s.drop (sgn s))
  have := (sgn_le s).1
  unfold whl
  simp at h; omega

theorem bhd_le (s : List UInt8) : bhd s ≠ 0 → sgn s + whl s + 1 + bhd s ≤ s.length := by
  intro h
  have he : bhd s = frc (s.drop (sgn s + whl s)) := rfl
  rw [he] at h ⊢
  have hw := whl_le s
  cases hd : s.drop (sgn s + whl s) with
  | nil => rw [hd] at h; simp [frc] at h
  | cons a r =>
    rw [hd] at h
    have hl := congrArg List.length hd
    simp only [List.length_drop, List.length_cons] at hl
    have e2 : frc (a :: r) = bif a == 46 then cnt isDig r else 0 := rfl
    rw [e2] at h ⊢
    cases h46 : (a == 46)
    · rw [h46] at h; simp at h
    · have := cnt_le isDig r
      simp only [cond_true]; omega

theorem nlen_le (s : List UInt8) : nlen s ≤ s.length := by
  have h1 := whl_le s
  have h2 := bhd_le s
  unfold nlen
  split
  · omega
  · split
    · omega
    · have := h2 (by assumption); omega

theorem addD_bd {n : Int} (c : UInt8) (h0 : 0 ≤ n) : 0 ≤ addD n c ∧ addD n c ≤ 1000000000 := by
  unfold addD
  split <;> omega

theorem fold_bd : ∀ (l : List UInt8) (n : Int), 0 ≤ n → n ≤ 1000000000 → 0 ≤ l.foldl addD n ∧ l.foldl addD n ≤ 1000000000
  | [], n, h0, h1 => ⟨h0, h1⟩
  | c :: l, n, h0, h1 => fold_bd l (addD n c) (addD_bd c h0).1 (addD_bd c h0).2

def lowB (c : UInt8) : UInt8 := bif decide (65 ≤ c.toNat) && decide (c.toNat ≤ 90) then c + 32 else c

def hd1 (s : List UInt8) (c : UInt8) : Bool := match s with
  | a :: _ => a == c
  | [] => false

/-- The kind of a sign that stands alone. -/
def oneK (c : UInt8) : Int := bif c == 40 || c == 91 || c == 123 then 10 else bif c == 41 || c == 93 || c == 125 then 11 else bif c == 92 then 6 else 12

theorem idx_le : ∀ s : List UInt8, Go.Lib.index s [42, 47] ≥ 0 → Go.Lib.index s [42, 47] + 2 ≤ (s.length : Int)
  | [], h => by simp [Go.Lib.index] at h
  | b :: l, h => by
    have ih := idx_le l
    unfold Go.Lib.index at h ⊢
    split
    · rename_i hp
      cases l with
      | nil => simp [List.isPrefixOf] at hp
      | cons d l => simp; omega
    · rename_i hp
      rw [if_neg hp] at h
      split
      · rename_i h1
        rw [if_pos h1] at h; omega
      · rename_i h1
        rw [if_neg h1] at h
        have hg := Go.Lib.index_ge l [42, 47]
        have h2 : Go.Lib.index l [42, 47] ≠ -1 := fun e => h1 (by rw [e]; rfl)
        have := ih (by omega)
        simp; omega

/-- How many bytes a remark is. -/
def noteN (s : List UInt8) : Nat := if Go.Lib.index (s.drop 2) [42, 47] ≥ 0 then (Go.Lib.index (s.drop 2) [42, 47]).toNat + 4 else s.length

def numT (s : List UInt8) : Int × Nat × List UInt8 × Int :=
  bif hd1 (s.drop (nlen s)) 37 then (7, nlen s + 1, [37], nval s) else bif bg (s.drop (nlen s)) then (7, nlen s + (nm (s.drop (nlen s))).2, (nm (s.drop (nlen s))).1.map lowB, nval s) else (7, nlen s, [], nval s)

def nameT (s : List UInt8) : Int × Nat × List UInt8 × Int :=
  bif hd1 (s.drop (nm s).2) 40 then (2, (nm s).2 + 1, (nm s).1, 0) else (1, (nm s).2, (nm s).1, 0)

/-- The first token of a text that is not empty: its kind, how many bytes, what it says, its number. -/
def tok1 (s : List UInt8) : Int × Nat × List UInt8 × Int :=
  if cnt isBlank s > 0 then (8, cnt isBlank s, [], 0)
  else bif hd1 s 47 && hd1 (s.drop 1) 42 then (9, noteN s, [], 0)
  else bif hd1 s 39 || hd1 s 34 then
    bif (tx (s.getD 0 0) (s.drop 1)).1 then (5, 1 + (tx (s.getD 0 0) (s.drop 1)).2.1, (tx (s.getD 0 0) (s.drop 1)).2.2, 0) else (6, 1 + (tx (s.getD 0 0) (s.drop 1)).2.1, [], 0)
  else bif hd1 s 35 && decide (1 < s.length) && (isSg (s.getD 1 0) || esc (s.drop 1)) then (4, 1 + (nm (s.drop 1)).2, (nm (s.drop 1)).1, 0)
  else bif hd1 s 64 && bg (s.drop 1) then (3, 1 + (nm (s.drop 1)).2, (nm (s.drop 1)).1, 0)
  else if nlen s > 0 then numT s
  else bif bg s then nameT s
  else (oneK (s.getD 0 0), 1, [], 0)

theorem hd1_pos {s : List UInt8} {c : UInt8} (h : hd1 s c = true) : 0 < s.length := by
  cases s with
  | nil => simp [hd1] at h
  | cons a r => simp

theorem st_sg {c : UInt8} (h : isSt c = true) : isSg c = true := by unfold isSg; rw [h]; rfl

theorem bg_nm {s : List UInt8} (h : bg s = true) : 0 < (nm s).2 := by
  match s with
  | [] => simp [bg] at h
  | [a] =>
    have : isSg a = true := st_sg h
    simp [nm, this]
  | a :: b :: r =>
    unfold nm
    cases h1 : (a == 92 && b != 10) with
    | true => simp
    | false =>
      have hsg : isSg a = true := by
        have e : bg (a :: b :: r) = bif a == 45 then b == 45 || isSt b || esc (b :: r) else isSt a || esc (a :: b :: r) := rfl
        rw [e] at h
        cases h2 : (a == 45) with
        | true =>
          have : a = 45 := by simpa using h2
          subst this; decide
        | false =>
          rw [h2, cond_false] at h
          have h3 : esc (a :: b :: r) = false := h1
          rw [h3, Bool.or_false] at h
          exact st_sg h
      simp [hsg]

theorem tok1_ok (s : List UInt8) (hne : s ≠ []) : 0 < (tok1 s).2.1 ∧ (tok1 s).2.1 ≤ s.length := by
  have hl : 0 < s.length := List.length_pos_iff.2 hne
  have hn1 := nm_le (s.drop 1)
  have hn0 := nm_le s
  have ht := tx_le (s.getD 0 0) (s.drop 1)
  simp only [List.length_drop] at hn1 ht
  unfold tok1
  split
  · exact ⟨by assumption, cnt_le _ _⟩
  cases h1 : (hd1 s 47 && hd1 (s.drop 1) 42) with
  | true =>
    rw [Bool.and_eq_true] at h1
    have := hd1_pos h1.2
    simp only [List.length_drop] at this
    simp only [cond_true]
    unfold noteN
    split
    · have := idx_le (s.drop 2) (by assumption)
      simp only [List.length_drop] at this
      omega
    · omega
  | false =>
    simp only [cond_false]
    cases h2 : (hd1 s 39 || hd1 s 34) with
    | true =>
      simp only [cond_true]
      cases (tx (s.getD 0 0) (s.drop 1)).1 <;> simp only [cond_true, cond_false] <;> omega
    | false =>
      simp only [cond_false]
      cases h3 : (hd1 s 35 && decide (1 < s.length) && (isSg (s.getD 1 0) || esc (s.drop 1))) with
      | true => simp only [cond_true]; omega
      | false =>
        simp only [cond_false]
        cases h4 : (hd1 s 64 && bg (s.drop 1)) with
        | true => simp only [cond_true]; omega
        | false =>
          simp only [cond_false]
          have hnl := nlen_le s
          split
          · unfold numT
            cases h5 : hd1 (s.drop (nlen s)) 37 with
            | true =>
              have := hd1_pos h5
              simp only [List.length_drop] at this
              simp only [cond_true]; omega
            | false =>
              have := nm_le (s.drop (nlen s))
              simp only [List.length_drop] at this
              simp only [cond_false]
              cases bg (s.drop (nlen s)) <;> simp only [cond_true, cond_false] <;> omega
          · cases h6 : bg s with
            | true =>
              have h7 := bg_nm h6
              simp only [cond_true]
              unfold nameT
              cases h8 : hd1 (s.drop (nm s).2) 40 with
              | true =>
                have := hd1_pos h8
                simp only [List.length_drop] at this
                simp only [cond_true]; omega
              | false => simp only [cond_false]; omega
            | false => simp only [cond_false]; omega

/-- A token in full: its kind, its bytes, what it says, its number. -/
def tokO (s : List UInt8) (t : Int × Nat × List UInt8 × Int) : Int × (List UInt8) × (List UInt8) × Int := (t.1, s.take t.2.1, t.2.2.1, t.2.2.2)

/-- The tokens of a text. -/
def cutF : Nat → List UInt8 → List (Int × List UInt8 × List UInt8 × Int)
  | 0, _ => []
  | n + 1, s => match s with
    | [] => []
    | a :: r => tokO (a :: r) (tok1 (a :: r)) :: cutF n ((a :: r).drop (tok1 (a :: r)).2.1)

def cutP (s : List UInt8) : List (Int × List UInt8 × List UInt8 × Int) := cutF s.length s

theorem cutF_len : ∀ (n : Nat) (s : List UInt8), s.length ≤ n → cutF n s = cutP s
  | 0, s, h => by
    have : s = [] := List.length_eq_zero_iff.1 (by omega)
    subst this; rfl
  | n + 1, [], h => rfl
  | n + 1, a :: r, h => by
    have h1 := tok1_ok (a :: r) (by simp)
    have e1 : cutF (n + 1) (a :: r) = tokO (a :: r) (tok1 (a :: r)) :: cutF n ((a :: r).drop (tok1 (a :: r)).2.1) := rfl
    have e2 : cutP (a :: r) = tokO (a :: r) (tok1 (a :: r)) :: cutF r.length ((a :: r).drop (tok1 (a :: r)).2.1) := rfl
    have hd : ((a :: r).drop (tok1 (a :: r)).2.1).length ≤ r.length := by
      rw [List.length_drop]; simp only [List.length_cons] at h1 ⊢; omega
    have hn : r.length ≤ n := by simp only [List.length_cons] at h; omega
    rw [e1, e2, cutF_len n _ (by omega)]
    rw [show cutP ((a :: r).drop (tok1 (a :: r)).2.1) = cutF r.length ((a :: r).drop (tok1 (a :: r)).2.1) from ?_]
    by_cases hr : r.length = n
    · rw [hr, cutF_len n _ (by omega)]
    · exact (cutF_len r.length _ hd).symm
termination_by n => n

theorem cutP_nil : cutP [] = [] := rfl
theorem cutP_cons (s : List UInt8) (h : s ≠ []) : cutP s = tokO s (tok1 s) :: cutP (s.drop (tok1 s).2.1) := by
  match s, h with
  | a :: r, h =>
    have h1 := tok1_ok (a :: r) (by simp)
    rw [← cutF_len (r.length) ((a :: r).drop (tok1 (a :: r)).2.1) (by rw [List.length_drop]; simp only [List.length_cons] at h1 ⊢; omega)]
    rfl

theorem cutP_raw : ∀ (n : Nat) (s : List UInt8), s.length ≤ n → (((cutP s).map fun t => t.2.1).flatten = s ∧ ∀ t ∈ cutP s, t.2.1 ≠ [])
  | 0, s, h => by
    have : s = [] := List.length_eq_zero_iff.1 (by omega)
    subst this
    exact ⟨rfl, fun t ht => by simp [cutP_nil] at ht⟩
  | n + 1, s, h => by
    by_cases hs : s = []
    · subst hs
      exact ⟨rfl, fun t ht => by simp [cutP_nil] at ht⟩
    · have h1 := tok1_ok s hs
      have ih := cutP_raw n (s.drop (tok1 s).2.1) (by rw [List.length_drop]; omega)
      rw [cutP_cons s hs]
      refine ⟨?_, ?_⟩
      · rw [List.map_cons, List.flatten_cons, ih.1]
        exact List.take_append_drop _ s
      · intro t ht
        rw [List.mem_cons] at ht
        rcases ht with rfl | ht
        · show s.take (tok1 s).2.1 ≠ []
          intro e
          have := congrArg List.length e
          rw [List.length_take, List.length_nil] at this
          omega
        · exact ih.2 t ht

theorem cutP_len : ∀ (n : Nat) (s : List UInt8), s.length ≤ n → (cutP s).length ≤ s.length
  | 0, s, h => by
    have : s = [] := List.length_eq_zero_iff.1 (by omega)
    subst this; exact Nat.le_refl _
  | n + 1, s, h => by
    by_cases hs : s = []
    · subst hs; exact Nat.le_refl _
    · have h1 := tok1_ok s hs
      have ih := cutP_len n (s.drop (tok1 s).2.1) (by rw [List.length_drop]; omega)
      rw [cutP_cons s hs, List.length_cons]
      rw [List.length_drop] at ih
      omega

end Go.Ev.Tok
