/- EvTkS, EvTkT, EvTkP, EvTkQ, EvTkR, EvTkF, EvTkG, EvTkH, EvVaT, EvVaB, EvVaC, EvVaD, EvVaE, EvVaF in one: no condition beyond those that each theorem names. -/
import Derived.Test.YtipobmmndkgdfaaDoorEvNum
import Derived.Lib.Index
import Derived.Test.YtipobmmndkgdfaaDoorEvVa
import GoSem.ClaimJoined
-- from EvTkS
set_option linter.unusedVariables false
namespace Go.Ev.Tok

def isDig (c : UInt8) : Bool := decide (48 ≤ c.toNat) && decide (c.toNat ≤ 57)
def isSt (c : UInt8) : Bool := decide (128 ≤ c.toNat) || c == 95 || (decide (97 ≤ c.toNat ||| 32) && decide (c.toNat ||| 32 ≤ 122))
def isSg (c : UInt8) : Bool := isSt c || isDig c || c == 45
def isBlank (c : UInt8) : Bool := c == 32 || c == 9 || c == 10 || c == 12 || c == 13

/-- Does an escape begin a text? -/
def esc : List UInt8 → Bool
  | a :: b :: _ => a == 92 && b != 10
  | _ => false

/-- Does a name begin a text? -/
def bg : List UInt8 → Bool
  | [] => false
  | [a] => isSt a
  | a :: b :: r => bif a == 45 then b == 45 || isSt b || esc (b :: r) else isSt a || esc (a :: b :: r)

/-- What a name says, and how many bytes it is. -/
def nm : List UInt8 → List UInt8 × Nat
  | [] => ([], 0)
  | [c] => bif isSg c then ([c], 1) else ([], 0)
  | c :: d :: r => bif c == 92 && d != 10 then (d :: (nm r).1, (nm r).2 + 2) else bif isSg c then (c :: (nm (d :: r)).1, (nm (d :: r)).2 + 1) else ([], 0)

/-- A text behind its first quote: is it closed, how many bytes, what it says. -/
def tx (q : UInt8) : List UInt8 → Bool × Nat × List UInt8
  | [] => (false, 0, [])
  | [c] => bif c == q then (true, 1, []) else bif c == 10 then (false, 0, []) else (false, 1, [c])
  | c :: d :: r => bif c == q then (true, 1, []) else bif c == 10 then (false, 0, []) else
      bif c == 92 then ((tx q r).1, (tx q r).2.1 + 2, d :: (tx q r).2.2) else ((tx q (d :: r)).1, (tx q (d :: r)).2.1 + 1, c :: (tx q (d :: r)).2.2)

/-- How many of the first ones. -/
def cnt (p : UInt8 → Bool) (s : List UInt8) : Nat := (s.takeWhile p).length

theorem nm_le : ∀ s : List UInt8, (nm s).2 ≤ s.length
  | [] => by simp [nm]
  | [c] => by unfold nm; cases isSg c <;> simp
  | c :: d :: r => by
    have h1 := nm_le r
    have h2 := nm_le (d :: r)
    unfold nm
    cases (c == 92 && d != 10)
    · cases isSg c
      · simp
      · simp at h2 ⊢; omega
    · simp; omega

theorem nm_len : ∀ s : List UInt8, (nm s).1.length ≤ (nm s).2
  | [] => by simp [nm]
  | [c] => by unfold nm; cases isSg c <;> simp
  | c :: d :: r => by
    have h1 := nm_len r
    have h2 := nm_len (d :: r)
    unfold nm
    cases (c == 92 && d != 10)
    · cases isSg c
      · simp
      · simp; omega
    · simp; omega

theorem tx_le (q : UInt8) : ∀ s : List UInt8, (tx q s).2.1 ≤ s.length
  | [] => by simp [tx]
  | [c] => by unfold tx; cases (c == q) <;> cases (c == 10) <;> simp
  | c :: d :: r => by
    have h1 := tx_le q r
    have h2 := tx_le q (d :: r)
    unfold tx
    cases (c == q) <;> cases (c == 10) <;> cases (c == 92) <;> simp at h2 ⊢ <;> omega

/-- Is there a sign ahead of a number? -/
def sgn : List UInt8 → Nat
  | a :: _ => bif a == 43 || a == 45 then 1 else 0
  | [] => 0

def whl (s : List UInt8) : Nat := cnt isDig (s.drop (sgn s))

/-- How many digits stand behind a point. -/
def frc : List UInt8 → Nat
  | a :: r => bif a == 46 then cnt isDig r else 0
  | [] => 0

def bhd (s : List UInt8) : Nat := frc (s.drop (sgn s + whl s))

/-- How many bytes a number is. -/
def nlen (s : List UInt8) : Nat := if whl s + bhd s = 0 then 0 else sgn s + whl s + (if bhd s = 0 then 0 else 1 + bhd s)

def addD (n : Int) (c : UInt8) : Int := if (1000000000 : Int) < 10 * n + ((c.toNat : Int) - 48) % 256 then 1000000000 else 10 * n + ((c.toNat : Int) - 48) % 256

/-- The digits behind the point. -/
def fpart (s : List UInt8) : List UInt8 := if bhd s = 0 then [] else (s.drop (sgn s + whl s + 1)).take (bhd s)

def nabs (s : List UInt8) : Int :=
  addD (addD (addD (((s.drop (sgn s)).take (whl s)).foldl addD 0) ((fpart s).getD 0 48)) ((fpart s).getD 1 48)) ((fpart s).getD 2 48)

def nval (s : List UInt8) : Int := if whl s + bhd s = 0 then 0 else if s.getD 0 0 = 45 then - nabs s else nabs s

theorem cnt_le (p : UInt8 → Bool) (s : List UInt8) : cnt p s ≤ s.length := by
  unfold cnt
  exact (List.takeWhile_sublist p).length_le

theorem cnt_drop (p : UInt8 → Bool) (s : List UInt8) : (s.dropWhile p).length = s.length - cnt p s := by
  have h := congrArg List.length (List.takeWhile_append_dropWhile (p := p) (l := s))
  rw [List.length_append] at h
  unfold cnt; omega

theorem sgn_le (s : List UInt8) : sgn s ≤ s.length ∧ sgn s ≤ 1 := by
  cases s with
  | nil => simp [sgn]
  | cons a r =>
    unfold sgn
    cases h : (a == 43 || a == 45)
    · simp [h]
    · simp [h]

theorem whl_le (s : List UInt8) : sgn s + whl s ≤ s.length := by
  have h := cnt_le isDig (s.drop (sgn s))
  have := (sgn_le s).1
  unfold whl
  simp at h; omega

theorem bhd_le (s : List UInt8) : bhd s ≠ 0 → sgn s + whl s + 1 + bhd s ≤ s.length := by
  intro h
  have he : bhd s = frc (s.drop (sgn s + whl s)) := rfl
  rw [he] at h ⊢
  have hw := whl_le s
  cases hd : s.drop (sgn s + whl s) with
  | nil => rw [hd] at h; simp [frc] at h
  | cons a r =>
    rw [hd] at h
    have hl := congrArg List.length hd
    simp only [List.length_drop, List.length_cons] at hl
    have e2 : frc (a :: r) = bif a == 46 then cnt isDig r else 0 := rfl
    rw [e2] at h ⊢
    cases h46 : (a == 46)
    · rw [h46] at h; simp at h
    · have := cnt_le isDig r
      simp only [cond_true]; omega

theorem nlen_le (s : List UInt8) : nlen s ≤ s.length := by
  have h1 := whl_le s
  have h2 := bhd_le s
  unfold nlen
  split
  · omega
  · split
    · omega
    · have := h2 (by assumption); omega

theorem addD_bd {n : Int} (c : UInt8) (h0 : 0 ≤ n) : 0 ≤ addD n c ∧ addD n c ≤ 1000000000 := by
  unfold addD
  split <;> omega

theorem fold_bd : ∀ (l : List UInt8) (n : Int), 0 ≤ n → n ≤ 1000000000 → 0 ≤ l.foldl addD n ∧ l.foldl addD n ≤ 1000000000
  | [], n, h0, h1 => ⟨h0, h1⟩
  | c :: l, n, h0, h1 => fold_bd l (addD n c) (addD_bd c h0).1 (addD_bd c h0).2

def lowB (c : UInt8) : UInt8 := bif decide (65 ≤ c.toNat) && decide (c.toNat ≤ 90) then c + 32 else c

def hd1 (s : List UInt8) (c : UInt8) : Bool := match s with
  | a :: _ => a == c
  | [] => false

/-- The kind of a sign that stands alone. -/
def oneK (c : UInt8) : Int := bif c == 40 || c == 91 || c == 123 then 10 else bif c == 41 || c == 93 || c == 125 then 11 else bif c == 92 then 6 else 12

theorem idx_le : ∀ s : List UInt8, Go.Lib.index s [42, 47] ≥ 0 → Go.Lib.index s [42, 47] + 2 ≤ (s.length : Int)
  | [], h => by simp [Go.Lib.index] at h
  | b :: l, h => by
    have ih := idx_le l
    unfold Go.Lib.index at h ⊢
    split
    · rename_i hp
      cases l with
      | nil => simp [List.isPrefixOf] at hp
      | cons d l => simp; omega
    · rename_i hp
      rw [if_neg hp] at h
      split
      · rename_i h1
        rw [if_pos h1] at h; omega
      · rename_i h1
        rw [if_neg h1] at h
        have hg := Go.Lib.index_ge l [42, 47]
        have h2 : Go.Lib.index l [42, 47] ≠ -1 := fun e => h1 (by rw [e]; rfl)
        have := ih (by omega)
        simp; omega

/-- How many bytes a remark is. -/
def noteN (s : List UInt8) : Nat := if Go.Lib.index (s.drop 2) [42, 47] ≥ 0 then (Go.Lib.index (s.drop 2) [42, 47]).toNat + 4 else s.length

def numT (s : List UInt8) : Int × Nat × List UInt8 × Int :=
  bif hd1 (s.drop (nlen s)) 37 then (7, nlen s + 1, [37], nval s) else bif bg (s.drop (nlen s)) then (7, nlen s + (nm (s.drop (nlen s))).2, (nm (s.drop (nlen s))).1.map lowB, nval s) else (7, nlen s, [], nval s)

def nameT (s : List UInt8) : Int × Nat × List UInt8 × Int :=
  bif hd1 (s.drop (nm s).2) 40 then (2, (nm s).2 + 1, (nm s).1, 0) else (1, (nm s).2, (nm s).1, 0)

/-- The first token of a text that is not empty: its kind, how many bytes, what it says, its number. -/
def tok1 (s : List UInt8) : Int × Nat × List UInt8 × Int :=
  if cnt isBlank s > 0 then (8, cnt isBlank s, [], 0)
  else bif hd1 s 47 && hd1 (s.drop 1) 42 then (9, noteN s, [], 0)
  else bif hd1 s 39 || hd1 s 34 then
    bif (tx (s.getD 0 0) (s.drop 1)).1 then (5, 1 + (tx (s.getD 0 0) (s.drop 1)).2.1, (tx (s.getD 0 0) (s.drop 1)).2.2, 0) else (6, 1 + (tx (s.getD 0 0) (s.drop 1)).2.1, [], 0)
  else bif hd1 s 35 && decide (1 < s.length) && (isSg (s.getD 1 0) || esc (s.drop 1)) then (4, 1 + (nm (s.drop 1)).2, (nm (s.drop 1)).1, 0)
  else bif hd1 s 64 && bg (s.drop 1) then (3, 1 + (nm (s.drop 1)).2, (nm (s.drop 1)).1, 0)
  else if nlen s > 0 then numT s
  else bif bg s then nameT s
  else (oneK (s.getD 0 0), 1, [], 0)

theorem hd1_pos {s : List UInt8} {c : UInt8} (h : hd1 s c = true) : 0 < s.length := by
  cases s with
  | nil => simp [hd1] at h
  | cons a r => simp

theorem st_sg {c : UInt8} (h : isSt c = true) : isSg c = true := by unfold isSg; rw [h]; rfl

theorem bg_nm {s : List UInt8} (h : bg s = true) : 0 < (nm s).2 := by
  match s with
  | [] => simp [bg] at h
  | [a] =>
    have : isSg a = true := st_sg h
    simp [nm, this]
  | a :: b :: r =>
    unfold nm
    cases h1 : (a == 92 && b != 10) with
    | true => simp
    | false =>
      have hsg : isSg a = true := by
        have e : bg (a :: b :: r) = bif a == 45 then b == 45 || isSt b || esc (b :: r) else isSt a || esc (a :: b :: r) := rfl
        rw [e] at h
        cases h2 : (a == 45) with
        | true =>
          have : a = 45 := by simpa using h2
          subst this; decide
        | false =>
          rw [h2, cond_false] at h
          have h3 : esc (a :: b :: r) = false := h1
          rw [h3, Bool.or_false] at h
          exact st_sg h
      simp [hsg]

theorem tok1_ok (s : List UInt8) (hne : s ≠ []) : 0 < (tok1 s).2.1 ∧ (tok1 s).2.1 ≤ s.length := by
  have hl : 0 < s.length := List.length_pos_iff.2 hne
  have hn1 := nm_le (s.drop 1)
  have hn0 := nm_le s
  have ht := tx_le (s.getD 0 0) (s.drop 1)
  simp only [List.length_drop] at hn1 ht
  unfold tok1
  split
  · exact ⟨by assumption, cnt_le _ _⟩
  cases h1 : (hd1 s 47 && hd1 (s.drop 1) 42) with
  | true =>
    rw [Bool.and_eq_true] at h1
    have := hd1_pos h1.2
    simp only [List.length_drop] at this
    simp only [cond_true]
    unfold noteN
    split
    · have := idx_le (s.drop 2) (by assumption)
      simp only [List.length_drop] at this
      omega
    · omega
  | false =>
    simp only [cond_false]
    cases h2 : (hd1 s 39 || hd1 s 34) with
    | true =>
      simp only [cond_true]
      cases (tx (s.getD 0 0) (s.drop 1)).1 <;> simp only [cond_true, cond_false] <;> omega
    | false =>
      simp only [cond_false]
      cases h3 : (hd1 s 35 && decide (1 < s.length) && (isSg (s.getD 1 0) || esc (s.drop 1))) with
      | true => simp only [cond_true]; omega
      | false =>
        simp only [cond_false]
        cases h4 : (hd1 s 64 && bg (s.drop 1)) with
        | true => simp only [cond_true]; omega
        | false =>
          simp only [cond_false]
          have hnl := nlen_le s
          split
          · unfold numT
            cases h5 : hd1 (s.drop (nlen s)) 37 with
            | true =>
              have := hd1_pos h5
              simp only [List.length_drop] at this
              simp only [cond_true]; omega
            | false =>
              have := nm_le (s.drop (nlen s))
              simp only [List.length_drop] at this
              simp only [cond_false]
              cases bg (s.drop (nlen s)) <;> simp only [cond_true, cond_false] <;> omega
          · cases h6 : bg s with
            | true =>
              have h7 := bg_nm h6
              simp only [cond_true]
              unfold nameT
              cases h8 : hd1 (s.drop (nm s).2) 40 with
              | true =>
                have := hd1_pos h8
                simp only [List.length_drop] at this
                simp only [cond_true]; omega
              | false => simp only [cond_false]; omega
            | false => simp only [cond_false]; omega

/-- A token in full: its kind, its bytes, what it says, its number. -/
def tokO (s : List UInt8) (t : Int × Nat × List UInt8 × Int) : Int × (List UInt8) × (List UInt8) × Int := (t.1, s.take t.2.1, t.2.2.1, t.2.2.2)

/-- The tokens of a text. -/
def cutF : Nat → List UInt8 → List (Int × List UInt8 × List UInt8 × Int)
  | 0, _ => []
  | n + 1, s => match s with
    | [] => []
    | a :: r => tokO (a :: r) (tok1 (a :: r)) :: cutF n ((a :: r).drop (tok1 (a :: r)).2.1)

def cutP (s : List UInt8) : List (Int × List UInt8 × List UInt8 × Int) := cutF s.length s

theorem cutF_len : ∀ (n : Nat) (s : List UInt8), s.length ≤ n → cutF n s = cutP s
  | 0, s, h => by
    have : s = [] := List.length_eq_zero_iff.1 (by omega)
    subst this; rfl
  | n + 1, [], h => rfl
  | n + 1, a :: r, h => by
    have h1 := tok1_ok (a :: r) (by simp)
    have e1 : cutF (n + 1) (a :: r) = tokO (a :: r) (tok1 (a :: r)) :: cutF n ((a :: r).drop (tok1 (a :: r)).2.1) := rfl
    have e2 : cutP (a :: r) = tokO (a :: r) (tok1 (a :: r)) :: cutF r.length ((a :: r).drop (tok1 (a :: r)).2.1) := rfl
    have hd : ((a :: r).drop (tok1 (a :: r)).2.1).length ≤ r.length := by
      rw [List.length_drop]; simp only [List.length_cons] at h1 ⊢; omega
    have hn : r.length ≤ n := by simp only [List.length_cons] at h; omega
    rw [e1, e2, cutF_len n _ (by omega)]
    rw [show cutP ((a :: r).drop (tok1 (a :: r)).2.1) = cutF r.length ((a :: r).drop (tok1 (a :: r)).2.1) from ?_]
    by_cases hr : r.length = n
    · rw [hr, cutF_len n _ (by omega)]
    · exact (cutF_len r.length _ hd).symm
termination_by n => n

theorem cutP_nil : cutP [] = [] := rfl
theorem cutP_cons (s : List UInt8) (h : s ≠ []) : cutP s = tokO s (tok1 s) :: cutP (s.drop (tok1 s).2.1) := by
  match s, h with
  | a :: r, h =>
    have h1 := tok1_ok (a :: r) (by simp)
    rw [← cutF_len (r.length) ((a :: r).drop (tok1 (a :: r)).2.1) (by rw [List.length_drop]; simp only [List.length_cons] at h1 ⊢; omega)]
    rfl

theorem cutP_raw : ∀ (n : Nat) (s : List UInt8), s.length ≤ n → (((cutP s).map fun t => t.2.1).flatten = s ∧ ∀ t ∈ cutP s, t.2.1 ≠ [])
  | 0, s, h => by
    have : s = [] := List.length_eq_zero_iff.1 (by omega)
    subst this
    exact ⟨rfl, fun t ht => by simp [cutP_nil] at ht⟩
  | n + 1, s, h => by
    by_cases hs : s = []
    · subst hs
      exact ⟨rfl, fun t ht => by simp [cutP_nil] at ht⟩
    · have h1 := tok1_ok s hs
      have ih := cutP_raw n (s.drop (tok1 s).2.1) (by rw [List.length_drop]; omega)
      rw [cutP_cons s hs]
      refine ⟨?_, ?_⟩
      · rw [List.map_cons, List.flatten_cons, ih.1]
        exact List.take_append_drop _ s
      · intro t ht
        rw [List.mem_cons] at ht
        rcases ht with rfl | ht
        · show s.take (tok1 s).2.1 ≠ []
          intro e
          have := congrArg List.length e
          rw [List.length_take, List.length_nil] at this
          omega
        · exact ih.2 t ht

theorem cutP_len : ∀ (n : Nat) (s : List UInt8), s.length ≤ n → (cutP s).length ≤ s.length
  | 0, s, h => by
    have : s = [] := List.length_eq_zero_iff.1 (by omega)
    subst this; exact Nat.le_refl _
  | n + 1, s, h => by
    by_cases hs : s = []
    · subst hs; exact Nat.le_refl _
    · have h1 := tok1_ok s hs
      have ih := cutP_len n (s.drop (tok1 s).2.1) (by rw [List.length_drop]; omega)
      rw [cutP_cons s hs, List.length_cons]
      rw [List.length_drop] at ih
      omega

end Go.Ev.Tok

-- from EvTkT
set_option linter.unusedVariables false
set_option linter.unusedSimpArgs false
namespace Go.Ev.Tok

theorem cnt_take (p : UInt8 → Bool) : ∀ (s : List UInt8) (m : Nat), cnt p (s.take m) = min m (cnt p s)
  | [], m => by simp [cnt]
  | a :: r, 0 => by simp [cnt]
  | a :: r, m + 1 => by
    have ih := cnt_take p r m
    unfold cnt at ih ⊢
    rw [List.take_succ_cons, List.takeWhile_cons, List.takeWhile_cons]
    cases p a <;> simp
    omega

theorem hd1_take (s : List UInt8) (m : Nat) (c : UInt8) : hd1 (s.take m) c = (decide (0 < m) && hd1 s c) := by
  cases s with
  | nil => simp [hd1]
  | cons a r => cases m <;> simp [hd1]

theorem nm_take : ∀ (s : List UInt8) (m : Nat), (nm s).2 ≤ m → nm (s.take m) = nm s
  | [], m, _ => by simp
  | [c], 0, h => by
    unfold nm at h
    cases hc : isSg c with
    | true => rw [hc] at h; simp at h
    | false => simp [nm, hc]
  | [c], m + 1, h => by simp
  | c :: d :: r, 0, h => by
    have e : nm (c :: d :: r) = bif c == 92 && d != 10 then (d :: (nm r).1, (nm r).2 + 2) else bif isSg c then (c :: (nm (d :: r)).1, (nm (d :: r)).2 + 1) else ([], 0) := by rw [nm]
    rw [e] at h ⊢
    cases h1 : (c == 92 && d != 10) with
    | true => rw [h1] at h; simp at h
    | false =>
      rw [h1] at h
      cases h2 : isSg c with
      | true => rw [h2] at h; simp at h
      | false => rfl
  | c :: d :: r, 1, h => by
    have e : nm (c :: d :: r) = bif c == 92 && d != 10 then (d :: (nm r).1, (nm r).2 + 2) else bif isSg c then (c :: (nm (d :: r)).1, (nm (d :: r)).2 + 1) else ([], 0) := by rw [nm]
    rw [e] at h ⊢
    cases h1 : (c == 92 && d != 10) with
    | true => rw [h1] at h; simp at h
    | false =>
      rw [h1] at h
      simp only [cond_false] at h ⊢
      cases h2 : isSg c with
      | true =>
        rw [h2] at h
        simp only [cond_true] at h ⊢
        have h3 : nm (d :: r) = ([], 0) := by
          have h4 := nm_len (d :: r)
          have h5 : (nm (d :: r)).2 = 0 := by omega
          have h6 : (nm (d :: r)).1 = [] := List.length_eq_zero_iff.1 (by omega)
          exact Prod.ext h6 h5
        rw [h3]
        simp [nm, h2]
      | false => simp [nm, h2]
  | c :: d :: r, m + 2, h => by
    have e : ∀ r, nm (c :: d :: r) = bif c == 92 && d != 10 then (d :: (nm r).1, (nm r).2 + 2) else bif isSg c then (c :: (nm (d :: r)).1, (nm (d :: r)).2 + 1) else ([], 0) := by intro r; rw [nm]
    rw [e] at h ⊢
    rw [List.take_succ_cons, List.take_succ_cons, e]
    cases h1 : (c == 92 && d != 10) with
    | true =>
      rw [h1] at h
      simp only [cond_true] at h ⊢
      rw [nm_take r m (by omega)]
    | false =>
      rw [h1] at h
      simp only [cond_false] at h ⊢
      cases h2 : isSg c with
      | true =>
        rw [h2] at h
        simp only [cond_true] at h ⊢
        have := nm_take (d :: r) (m + 1) (by omega)
        rw [List.take_succ_cons] at this
        rw [this]
      | false => rfl

theorem tx_take (q : UInt8) : ∀ (s : List UInt8) (m : Nat), (tx q s).2.1 ≤ m → tx q (s.take m) = tx q s
  | [], m, _ => by simp
  | [c], 0, h => by
    unfold tx at h
    cases h1 : (c == q) with
    | true => rw [h1] at h; simp at h
    | false =>
      cases h2 : (c == 10) with
      | true => simp [tx, h1, h2]
      | false => rw [h1, h2] at h; simp at h
  | [c], m + 1, h => by simp
  | c :: d :: r, 0, h => by
    have e : tx q (c :: d :: r) = bif c == q then (true, 1, []) else bif c == 10 then (false, 0, []) else
      bif c == 92 then ((tx q r).1, (tx q r).2.1 + 2, d :: (tx q r).2.2) else ((tx q (d :: r)).1, (tx q (d :: r)).2.1 + 1, c :: (tx q (d :: r)).2.2) := by rw [tx]
    rw [e] at h ⊢
    cases h1 : (c == q) with
    | true => rw [h1] at h; simp at h
    | false =>
      rw [h1] at h
      cases h2 : (c == 10) with
      | true => rfl
      | false =>
        rw [h2] at h
        cases h3 : (c == 92) <;> rw [h3] at h <;> simp at h
  | c :: d :: r, 1, h => by
    have e : tx q (c :: d :: r) = bif c == q then (true, 1, []) else bif c == 10 then (false, 0, []) else
      bif c == 92 then ((tx q r).1, (tx q r).2.1 + 2, d :: (tx q r).2.2) else ((tx q (d :: r)).1, (tx q (d :: r)).2.1 + 1, c :: (tx q (d :: r)).2.2) := by rw [tx]
    rw [e] at h ⊢
    cases h1 : (c == q) with
    | true => simp [tx, h1]
    | false =>
      rw [h1] at h
      cases h2 : (c == 10) with
      | true => simp [tx, h1, h2]
      | false =>
        rw [h2] at h
        cases h3 : (c == 92) with
        | true => rw [h3] at h; simp at h
        | false =>
          rw [h3] at h
          simp only [cond_false] at h ⊢
          have h4 : (tx q (d :: r)).2.1 = 0 := by omega
          have h5 : tx q (d :: r) = (false, 0, []) := by
            have := tx_take q (d :: r) 0 (by omega)
            rw [← this]; rfl
          rw [h5]
          simp [tx, h1, h2]
  | c :: d :: r, m + 2, h => by
    have e : ∀ r, tx q (c :: d :: r) = bif c == q then (true, 1, []) else bif c == 10 then (false, 0, []) else
      bif c == 92 then ((tx q r).1, (tx q r).2.1 + 2, d :: (tx q r).2.2) else ((tx q (d :: r)).1, (tx q (d :: r)).2.1 + 1, c :: (tx q (d :: r)).2.2) := by intro r; rw [tx]
    rw [e] at h ⊢
    rw [List.take_succ_cons, List.take_succ_cons, e]
    cases h1 : (c == q) with
    | true => rfl
    | false =>
      rw [h1] at h
      cases h2 : (c == 10) with
      | true => rfl
      | false =>
        rw [h2] at h
        cases h3 : (c == 92) with
        | true =>
          rw [h3] at h
          simp only [cond_true, cond_false] at h ⊢
          rw [tx_take q r m (by omega)]
        | false =>
          rw [h3] at h
          simp only [cond_true, cond_false] at h ⊢
          have := tx_take q (d :: r) (m + 1) (by omega)
          rw [List.take_succ_cons] at this
          rw [this]

theorem sgn_take (s : List UInt8) (m : Nat) (h : 1 ≤ m) : sgn (s.take m) = sgn s := by
  cases s with
  | nil => simp
  | cons a r => cases m with
    | zero => omega
    | succ m => rfl

theorem drop_take' (s : List UInt8) (m i : Nat) : (s.take m).drop i = (s.drop i).take (m - i) := by
  rw [List.drop_take]

theorem whl_take (s : List UInt8) (m : Nat) (h : 1 ≤ m) : whl (s.take m) = min (m - sgn s) (whl s) := by
  unfold whl
  rw [sgn_take s m h, drop_take', cnt_take]

theorem frc_take (l : List UInt8) (j : Nat) : frc (l.take j) = min (j - 1) (frc l) := by
  cases l with
  | nil => simp [frc]
  | cons a r =>
    cases j with
    | zero => simp [frc]
    | succ j =>
      have e : ∀ r, frc (a :: r) = bif a == 46 then cnt isDig r else 0 := fun r => rfl
      rw [List.take_succ_cons, e, e]
      cases a == 46
      · simp
      · simp only [cond_true]
        rw [cnt_take]; rfl

theorem num_take (s : List UInt8) (m : Nat) (h : 1 ≤ m) : (nlen s = 0 → nlen (s.take m) = 0) ∧
    (0 < nlen s → nlen s ≤ m → nlen (s.take m) = nlen s ∧ nval (s.take m) = nval s) := by
  have hw := whl_take s m h
  have hg := sgn_take s m h
  have hb : bhd (s.take m) = min (m - (sgn s + min (m - sgn s) (whl s)) - 1) (frc (s.drop (sgn s + min (m - sgn s) (whl s)))) := by
    unfold bhd
    rw [hw, hg, drop_take', frc_take]
  have hs0 := (sgn_le s).2
  refine ⟨fun h0 => ?_, fun h0 hm => ?_⟩
  · have h1 : whl s + bhd s = 0 := by
      unfold nlen at h0
      split at h0
      · assumption
      · split at h0 <;> omega
    have hw0 : whl s = 0 := by omega
    have hb0 : frc (s.drop (sgn s + whl s)) = 0 := by
      have : bhd s = 0 := by omega
      exact this
    rw [hw0] at hw hb hb0
    rw [Nat.min_zero] at hw hb
    rw [hb0, Nat.min_zero] at hb
    unfold nlen
    rw [if_pos (by omega)]
  · have h1 : ¬ (whl s + bhd s = 0) := by
      intro h1
      unfold nlen at h0
      rw [if_pos h1] at h0; omega
    have hn : nlen s = sgn s + whl s + (if bhd s = 0 then 0 else 1 + bhd s) := by
      unfold nlen
      rw [if_neg h1]
    have hm1 : sgn s + whl s ≤ m := by omega
    have ew : min (m - sgn s) (whl s) = whl s := by omega
    rw [ew] at hw hb
    have eb : bhd (s.take m) = bhd s := by
      rw [hb]
      show min _ (bhd s) = bhd s
      by_cases hz : bhd s = 0
      · omega
      · rw [if_neg hz] at hn; omega
    refine ⟨?_, ?_⟩
    · unfold nlen
      rw [hw, eb, hg]
    · have ef : fpart (s.take m) = fpart s := by
        unfold fpart
        rw [eb, hg, hw]
        by_cases hz : bhd s = 0
        · rw [if_pos hz, if_pos hz]
        · rw [if_neg hz] at hn
          rw [if_neg hz, if_neg hz, drop_take', List.take_take]
          congr 1
          omega
      have ew2 : ((s.take m).drop (sgn s)).take (whl s) = (s.drop (sgn s)).take (whl s) := by
        rw [drop_take', List.take_take]
        congr 1
        omega
      have ea : nabs (s.take m) = nabs s := by
        unfold nabs
        rw [hg, hw, ew2, ef]
      have e0 : (s.take m).getD 0 0 = s.getD 0 0 := by
        cases s with
        | nil => simp
        | cons a r => cases m with
          | zero => omega
          | succ m => rfl
      unfold nval
      rw [hw, eb, if_neg h1, if_neg h1, ea, e0]

theorem esc_take (l : List UInt8) (j : Nat) : esc (l.take j) = (decide (2 ≤ j) && esc l) := by
  match l, j with
  | [], j => simp [esc]
  | [a], 0 => simp [esc]
  | [a], j + 1 => simp [esc]
  | a :: b :: r, 0 => simp [esc]
  | a :: b :: r, 1 => simp [esc]
  | a :: b :: r, j + 2 => simp [esc]

theorem bg_cons (a b : UInt8) (r : List UInt8) : bg (a :: b :: r) = bif a == 45 then b == 45 || isSt b || esc (b :: r) else isSt a || esc (a :: b :: r) := rfl

theorem bg_down (l : List UInt8) (j : Nat) (h : bg l = false) : bg (l.take j) = false := by
  match l, j with
  | [], j => simpa using h
  | [a], 0 => rfl
  | [a], j + 1 => simpa using h
  | a :: b :: r, 0 => rfl
  | a :: b :: r, 1 =>
    show isSt a = false
    rw [bg_cons] at h
    cases h2 : (a == 45) with
    | true =>
      have : a = 45 := by simpa using h2
      subst this; decide
    | false =>
      rw [h2, cond_false, Bool.or_eq_false_iff] at h
      exact h.1
  | a :: b :: r, j + 2 =>
    rw [List.take_succ_cons, List.take_succ_cons, bg_cons]
    rw [bg_cons] at h
    have e1 := esc_take (b :: r) (j + 1)
    have e2 := esc_take (a :: b :: r) (j + 2)
    rw [List.take_succ_cons] at e1
    rw [List.take_succ_cons, List.take_succ_cons] at e2
    rw [e1, e2]
    cases h2 : (a == 45) with
    | true =>
      rw [h2, cond_true, Bool.or_eq_false_iff] at h
      rw [cond_true, h.1, h.2]; simp
    | false =>
      rw [h2, cond_false, Bool.or_eq_false_iff] at h
      rw [cond_false, h.1, h.2]; simp

theorem sg45 : isSg 45 = true := by decide

theorem nm_sg (c d : UInt8) (r : List UInt8) (h : (c == 92 && d != 10) = false) (h2 : isSg c = true) : nm (c :: d :: r) = (c :: (nm (d :: r)).1, (nm (d :: r)).2 + 1) := by
  rw [nm, h, h2]; rfl
theorem nm_esc (c d : UInt8) (r : List UInt8) (h : (c == 92 && d != 10) = true) : nm (c :: d :: r) = (d :: (nm r).1, (nm r).2 + 2) := by
  rw [nm, h]; rfl
theorem sg_not92 {c : UInt8} (h : isSg c = true) (d : UInt8) : (c == 92 && d != 10) = false := by
  cases h2 : (c == 92) with
  | false => rfl
  | true =>
    have : c = 92 := by simpa using h2
    subst this
    have e : isSg 92 = false := by decide
    rw [e] at h; cases h

theorem nm_one {c : UInt8} (r : List UInt8) (h : isSg c = true) : 1 ≤ (nm (c :: r)).2 := by
  cases r with
  | nil => simp [nm, h]
  | cons d r => rw [nm_sg c d r (sg_not92 h d) h]; simp

theorem bg_up (l : List UInt8) (j : Nat) (h : bg l = true) (hj : (nm l).2 ≤ j) : bg (l.take j) = true := by
  have hp := bg_nm h
  match l, j with
  | [], j => simpa using h
  | [a], 0 => omega
  | [a], j + 1 => simpa using h
  | a :: b :: r, 0 => omega
  | a :: b :: r, 1 =>
    show isSt a = true
    rw [bg_cons] at h
    cases h2 : (a == 45) with
    | true =>
      have : a = 45 := by simpa using h2
      subst this
      rw [h2, cond_true] at h
      rw [nm_sg 45 b r (sg_not92 sg45 b) sg45] at hj
      simp only at hj
      exfalso
      rw [Bool.or_eq_true, Bool.or_eq_true] at h
      rcases h with (h | h) | h
      · have : b = 45 := by simpa using h
        subst this
        have := nm_one r sg45
        omega
      · have := nm_one r (st_sg h)
        omega
      · match r, h, hj with
        | [], h, _ => simp [esc] at h
        | c :: r, h, hj =>
          rw [nm_esc b c r h] at hj
          simp only at hj; omega
    | false =>
      rw [h2, cond_false, Bool.or_eq_true] at h
      rcases h with h | h
      · exact h
      · rw [nm_esc a b r h] at hj
        simp only at hj; omega
  | a :: b :: r, j + 2 =>
    rw [List.take_succ_cons, List.take_succ_cons, bg_cons]
    rw [bg_cons] at h
    have e1 := esc_take (b :: r) (j + 1)
    have e2 := esc_take (a :: b :: r) (j + 2)
    rw [List.take_succ_cons] at e1
    rw [List.take_succ_cons, List.take_succ_cons] at e2
    rw [e1, e2]
    cases h2 : (a == 45) with
    | true =>
      have : a = 45 := by simpa using h2
      subst this
      rw [h2, cond_true] at h
      rw [cond_true]
      cases hx : (b == 45 || isSt b) with
      | true => rfl
      | false =>
        rw [hx, Bool.false_or] at h
        rw [nm_sg 45 b r (sg_not92 sg45 b) sg45] at hj
        match r, h, hj with
        | [], h, _ => simp [esc] at h
        | c :: r, h, hj =>
          rw [nm_esc b c r h] at hj
          simp only at hj
          rw [h, Bool.and_true, Bool.false_or, decide_eq_true (by omega)]
    | false =>
      rw [h2, cond_false] at h
      rw [cond_false, decide_eq_true (by omega), Bool.true_and]
      exact h

theorem idx_take : ∀ (s : List UInt8) (j : Nat), (Go.Lib.index s [42, 47] ≥ 0 → Go.Lib.index s [42, 47] + 2 ≤ (j : Int) → Go.Lib.index (s.take j) [42, 47] = Go.Lib.index s [42, 47])
  | [], j, h, _ => by simp [Go.Lib.index] at h
  | b :: l, 0, h, hj => by omega
  | b :: l, j + 1, h, hj => by
    rw [List.take_succ_cons]
    have ih := idx_take l j
    unfold Go.Lib.index at h hj ⊢
    by_cases hp : List.isPrefixOf [42, 47] (b :: l) = true
    · rw [if_pos hp] at h hj ⊢
      have : List.isPrefixOf [42, 47] (b :: l.take j) = true := by
        match l, j with
        | [], j => simp [List.isPrefixOf] at hp
        | c :: l, 0 => simp at hj
        | c :: l, j + 1 => simpa [List.isPrefixOf] using hp
      rw [if_pos this]
    · rw [if_neg hp] at h hj
      have hn : ¬ List.isPrefixOf [42, 47] (b :: l.take j) = true := by
        intro hq
        apply hp
        match l, j with
        | [], j => simp [List.isPrefixOf] at hq
        | c :: l, 0 => simp [List.isPrefixOf] at hq
        | c :: l, j + 1 => simpa [List.isPrefixOf] using hq
      rw [if_neg hp, if_neg hn]
      by_cases h1 : (Go.Lib.index l [42, 47] == -1) = true
      · simp [h1] at h
      · have h2 : Go.Lib.index l [42, 47] ≠ -1 := by simpa using h1
        simp only [h1] at h hj
        have hg := Go.Lib.index_ge l [42, 47]
        have e := ih (by omega) (by simp at hj; omega)
        rw [e]

theorem numT_take (s : List UInt8) (m : Nat) (h1 : 1 ≤ m) (h0 : 0 < nlen s) (hm : (numT s).2.1 ≤ m) : numT (s.take m) = numT s := by
  have hp : nlen s ≤ m := by
    unfold numT at hm
    cases h2 : hd1 (s.drop (nlen s)) 37 with
    | true => rw [h2] at hm; simp only [cond_true] at hm; omega
    | false =>
      rw [h2] at hm
      cases h3 : bg (s.drop (nlen s)) <;> rw [h3] at hm <;> simp only [cond_true, cond_false] at hm <;> omega
  obtain ⟨e1, e2⟩ := (num_take s m h1).2 h0 hp
  unfold numT at hm ⊢
  rw [e1, e2, drop_take', hd1_take]
  cases h2 : hd1 (s.drop (nlen s)) 37 with
  | true =>
    rw [h2] at hm; simp only [cond_true] at hm
    rw [decide_eq_true (by omega)]; rfl
  | false =>
    rw [h2] at hm
    rw [Bool.and_false]
    simp only [cond_false] at hm ⊢
    cases h3 : bg (s.drop (nlen s)) with
    | true =>
      rw [h3] at hm; simp only [cond_true] at hm
      rw [bg_up _ _ h3 (by omega), nm_take _ _ (by omega)]
    | false => rw [bg_down _ _ h3]; rfl

theorem nameT_take (s : List UInt8) (m : Nat) (hm : (nameT s).2.1 ≤ m) : nameT (s.take m) = nameT s := by
  have hp : (nm s).2 ≤ m := by
    unfold nameT at hm
    cases h2 : hd1 (s.drop (nm s).2) 40 <;> rw [h2] at hm <;> simp only [cond_true, cond_false] at hm <;> omega
  unfold nameT at hm ⊢
  rw [nm_take s m hp, drop_take', hd1_take]
  cases h2 : hd1 (s.drop (nm s).2) 40 with
  | true =>
    rw [h2] at hm; simp only [cond_true] at hm
    rw [decide_eq_true (by omega)]; rfl
  | false => rw [Bool.and_false]

theorem getD0_take (s : List UInt8) (m : Nat) (h : 1 ≤ m) : (s.take m).getD 0 0 = s.getD 0 0 := by
  cases s with
  | nil => simp
  | cons a r => cases m with
    | zero => omega
    | succ m => rfl

theorem noteN_take (s : List UInt8) (m : Nat) (h2 : 2 ≤ s.length) (hm : noteN s ≤ m) : noteN (s.take m) = noteN s ∧ 2 ≤ m := by
  by_cases hx : Go.Lib.index (s.drop 2) [42, 47] ≥ 0
  · have hn : noteN s = (Go.Lib.index (s.drop 2) [42, 47]).toNat + 4 := by unfold noteN; rw [if_pos hx]
    have e := idx_take (s.drop 2) (m - 2) hx (by omega)
    refine ⟨?_, by omega⟩
    rw [hn]
    unfold noteN
    rw [drop_take', e, if_pos hx]
  · have hn : noteN s = s.length := by unfold noteN; rw [if_neg hx]
    rw [List.take_of_length_le (by omega)]
    exact ⟨rfl, by omega⟩

/-- The first token of a text is the first token of any beginning of it that holds it. -/
theorem tok1_take (s : List UInt8) (hne : s ≠ []) (m : Nat) (hm : (tok1 s).2.1 ≤ m) : tok1 (s.take m) = tok1 s := by
  have h1 : 1 ≤ m := by have := (tok1_ok s hne).1; omega
  have hl : 1 ≤ s.length := by have := (tok1_ok s hne); omega
  have hh : ∀ c, hd1 (s.take m) c = hd1 s c := fun c => by rw [hd1_take, decide_eq_true (by omega), Bool.true_and]
  have hg := getD0_take s m h1
  have hd : (s.take m).drop 1 = (s.drop 1).take (m - 1) := drop_take' s m 1
  have hb : cnt isBlank (s.take m) = min m (cnt isBlank s) := cnt_take _ s m
  unfold tok1 at hm ⊢
  rw [hb, hh, hh, hh, hh, hh, hg, hd]
  by_cases hbl : cnt isBlank s > 0
  · rw [if_pos hbl] at hm ⊢
    have e : min m (cnt isBlank s) = cnt isBlank s := by simp only at hm; omega
    rw [e, if_pos hbl]
  rw [if_neg hbl] at hm ⊢
  rw [if_neg (by omega)]
  rw [hd1_take]
  cases hn : (hd1 s 47 && hd1 (s.drop 1) 42) with
  | true =>
    rw [hn] at hm
    simp only [cond_true] at hm ⊢
    have h2 : 2 ≤ s.length := by
      rw [Bool.and_eq_true] at hn
      have := hd1_pos hn.2
      rw [List.length_drop] at this; omega
    obtain ⟨e, h3⟩ := noteN_take s m h2 hm
    rw [e, decide_eq_true (by omega), Bool.true_and, hn]
    rfl
  | false =>
    rw [hn] at hm
    have hx : (hd1 s 47 && (decide (0 < m - 1) && hd1 (s.drop 1) 42)) = false := by
      cases ha : hd1 s 47 with
      | false => rfl
      | true => rw [ha, Bool.true_and] at hn; rw [hn]; simp
    rw [hx]
    simp only [cond_false] at hm ⊢
    cases hq : (hd1 s 39 || hd1 s 34) with
    | true =>
      rw [hq] at hm
      simp only [cond_true] at hm ⊢
      have e : tx (s.getD 0 0) ((s.drop 1).take (m - 1)) = tx (s.getD 0 0) (s.drop 1) := by
        refine tx_take _ _ _ ?_
        revert hm
        cases (tx (s.getD 0 0) (s.drop 1)).1 <;> simp only [cond_true, cond_false] <;> intro hm <;> omega
      rw [e]
    | false =>
      rw [hq] at hm
      simp only [cond_false] at hm ⊢
      rw [List.length_take]
      cases h35 : (hd1 s 35 && decide (1 < s.length) && (isSg (s.getD 1 0) || esc (s.drop 1))) with
      | true =>
        rw [h35] at hm
        simp only [cond_true] at hm
        rw [Bool.and_eq_true, Bool.and_eq_true] at h35
        obtain ⟨⟨h3, h4⟩, h5⟩ := h35
        have h4 := of_decide_eq_true h4
        match s, h4, h5 with
        | a :: b :: r, _, h5 =>
          have hp : 1 ≤ (nm (b :: r)).2 := by
            have e : ∀ x, (a :: b :: x).getD 1 0 = b := fun x => rfl
            have e2 : ((a :: b :: r).drop 1) = b :: r := rfl
            rw [e, e2] at h5
            cases h6 : isSg b with
            | true => exact nm_one r h6
            | false =>
              rw [h6, Bool.false_or] at h5
              match r, h5 with
              | [], h5 => simp [esc] at h5
              | c :: r, h5 => rw [nm_esc b c r h5]; simp
          have e2 : ((a :: b :: r).drop 1) = b :: r := rfl
          rw [e2] at hm h5 ⊢
          have e3 : ((a :: b :: r).take m).getD 1 0 = (a :: b :: r).getD 1 0 := by
            match m, hm with
            | m + 2, _ => rfl
            | 0, hm => omega
            | 1, hm => omega
          rw [e3, h3, esc_take, nm_take (b :: r) (m - 1) (by omega)]
          have h7 : (true && decide (1 < min m (a :: b :: r).length) && (isSg ((a :: b :: r).getD 1 0) || decide (2 ≤ m - 1) && esc (b :: r))) = true := by
            rw [decide_eq_true (by simp only [List.length_cons]; omega)]
            cases h6 : isSg ((a :: b :: r).getD 1 0) with
            | true => rfl
            | false =>
              rw [h6, Bool.false_or] at h5
              have : 2 ≤ m - 1 := by
                match r, h5, hm with
                | [], h5, _ => simp [esc] at h5
                | c :: r, h5, hm => rw [nm_esc b c r h5] at hm; simp only at hm; omega
              rw [h5, decide_eq_true this]; rfl
          rw [h7]
          rfl
      | false =>
        rw [h35] at hm
        simp only [cond_false] at hm ⊢
        have h35' : (hd1 s 35 && decide (1 < min m s.length) && (isSg ((s.take m).getD 1 0) || esc ((s.drop 1).take (m - 1)))) = false := by
          cases h3 : hd1 s 35 with
          | false => rfl
          | true =>
            rw [h3, Bool.true_and] at h35
            rw [Bool.true_and, esc_take]
            by_cases hm2 : 1 < min m s.length
            · have h4 : 1 < s.length := by omega
              rw [decide_eq_true h4, Bool.true_and, Bool.or_eq_false_iff] at h35
              have e3 : (s.take m).getD 1 0 = s.getD 1 0 := by
                match m, s, hm2 with
                | m + 2, a :: b :: r, _ => rfl
                | 0, s, hm2 => omega
                | 1, s, hm2 => omega
                | m + 2, [], hm2 => simp at hm2
                | m + 2, [a], hm2 => simp at hm2
              rw [e3, h35.1, h35.2]; simp
            · rw [decide_eq_false hm2]; rfl
        rw [h35']
        simp only [cond_false]
        cases h64 : (hd1 s 64 && bg (s.drop 1)) with
        | true =>
          rw [h64] at hm
          simp only [cond_true] at hm ⊢
          rw [Bool.and_eq_true] at h64
          rw [h64.1, bg_up _ _ h64.2 (by omega), nm_take _ _ (by omega)]
          rfl
        | false =>
          rw [h64] at hm
          have h64' : (hd1 s 64 && bg ((s.drop 1).take (m - 1))) = false := by
            cases h6 : hd1 s 64 with
            | false => rfl
            | true => rw [h6, Bool.true_and] at h64; rw [bg_down _ _ h64]; rfl
          rw [h64']
          simp only [cond_false] at hm ⊢
          by_cases hnl : nlen s > 0
          · rw [if_pos hnl] at hm ⊢
            have h9 : nlen s ≤ m := by
              unfold numT at hm
              cases h2 : hd1 (s.drop (nlen s)) 37 with
              | true => rw [h2] at hm; simp only [cond_true] at hm; omega
              | false =>
                rw [h2] at hm
                cases h3 : bg (s.drop (nlen s)) <;> rw [h3] at hm <;> simp only [cond_true, cond_false] at hm <;> omega
            rw [((num_take s m h1).2 hnl h9).1, if_pos hnl, numT_take s m h1 hnl hm]
          · rw [if_neg hnl] at hm ⊢
            rw [(num_take s m h1).1 (by omega), if_neg (by omega)]
            cases hbg : bg s with
            | true =>
              rw [hbg] at hm
              simp only [cond_true] at hm ⊢
              have h8 : (nm s).2 ≤ m := by
                unfold nameT at hm
                cases h2 : hd1 (s.drop (nm s).2) 40 <;> rw [h2] at hm <;> simp only [cond_true, cond_false] at hm <;> omega
              rw [bg_up s m hbg h8, cond_true, nameT_take s m hm]
            | false => rw [bg_down s m hbg]; rfl

/-- A token cut up alone is just that token. -/
theorem cutP_alone : ∀ (n : Nat) (s : List UInt8), s.length ≤ n → ∀ t ∈ cutP s, cutP t.2.1 = [t]
  | 0, s, h, t, ht => by
    have : s = [] := List.length_eq_zero_iff.1 (by omega)
    subst this
    simp [cutP_nil] at ht
  | n + 1, s, h, t, ht => by
    by_cases hs : s = []
    · subst hs; simp [cutP_nil] at ht
    · have h1 := tok1_ok s hs
      rw [cutP_cons s hs, List.mem_cons] at ht
      rcases ht with rfl | ht
      · have hr : (s.take (tok1 s).2.1) ≠ [] := by
          intro e
          have := congrArg List.length e
          rw [List.length_take, List.length_nil] at this; omega
        have e := tok1_take s hs (tok1 s).2.1 (Nat.le_refl _)
        show cutP (s.take (tok1 s).2.1) = _
        rw [cutP_cons _ hr, e]
        have e2 : (s.take (tok1 s).2.1).drop (tok1 s).2.1 = [] := by
          rw [List.drop_eq_nil_iff, List.length_take]; omega
        rw [e2, cutP_nil]
        unfold tokO
        rw [List.take_take, Nat.min_self]
      · exact cutP_alone n (s.drop (tok1 s).2.1) (by rw [List.length_drop]; omega) t ht

end Go.Ev.Tok

-- from EvTkP
set_option linter.unusedVariables false
set_option linter.unusedSimpArgs false
namespace Go.Ev.Tok

/-- A text whose last sign is an escape that is not done. -/
inductive Cr : List UInt8 → Prop
  | one : Cr [92]
  | sg {c : UInt8} {x : List UInt8} : isSg c = true → Cr x → Cr (c :: x)
  | es {d : UInt8} {x : List UInt8} : d ≠ 10 → Cr x → Cr (92 :: d :: x)

theorem cr_ne {x : List UInt8} (h : Cr x) : x ≠ [] := by cases h <;> simp

theorem sg32 : isSg 32 = false := by decide

theorem nm32 (t : List UInt8) : (nm (32 :: t)).2 = 0 := by
  cases t with
  | nil => simp [nm, sg32]
  | cons d r =>
    have : ((32 : UInt8) == 92) = false := by decide
    simp [nm, sg32, this]

theorem nm_cr : ∀ (x t : List UInt8), x.length < (nm (x ++ 32 :: t)).2 → Cr x
  | [], t, h => by rw [List.nil_append, nm32] at h; simp at h
  | [c], t, h => by
    have e : nm ([c] ++ 32 :: t) = bif c == 92 && (32 : UInt8) != 10 then (32 :: (nm t).1, (nm t).2 + 2) else bif isSg c then (c :: (nm (32 :: t)).1, (nm (32 :: t)).2 + 1) else ([], 0) := by
      show nm (c :: 32 :: t) = _
      rw [nm]
    rw [e, nm32] at h
    cases h1 : (c == 92) with
    | true =>
      have : c = 92 := by simpa using h1
      subst this; exact .one
    | false =>
      rw [h1] at h
      simp only [Bool.false_and, cond_false] at h
      cases h2 : isSg c <;> rw [h2] at h <;> simp at h
  | c :: d :: r, t, h => by
    have e : nm (c :: d :: r ++ 32 :: t) = bif c == 92 && d != 10 then (d :: (nm (r ++ 32 :: t)).1, (nm (r ++ 32 :: t)).2 + 2) else bif isSg c then (c :: (nm (d :: r ++ 32 :: t)).1, (nm (d :: r ++ 32 :: t)).2 + 1) else ([], 0) := by
      show nm (c :: d :: (r ++ 32 :: t)) = _
      rw [nm]; rfl
    rw [e] at h
    cases h1 : (c == 92 && d != 10) with
    | true =>
      rw [h1] at h
      simp only [cond_true, List.length_cons] at h
      rw [Bool.and_eq_true] at h1
      have h92 : c = 92 := by simpa using h1.1
      have h10 : d ≠ 10 := by simpa using h1.2
      subst h92
      exact .es h10 (nm_cr r t (by omega))
    | false =>
      rw [h1] at h
      simp only [cond_false] at h
      cases h2 : isSg c with
      | true =>
        rw [h2] at h
        simp only [cond_true, List.length_cons] at h
        exact .sg h2 (nm_cr (d :: r) t (by simp only [List.length_cons]; omega))
      | false => rw [h2] at h; simp at h

theorem cr_nm {x : List UInt8} (h : Cr x) : (nm x).2 + 1 = x.length ∧ x.drop (nm x).2 = [92] := by
  induction h with
  | one => exact ⟨rfl, rfl⟩
  | @sg c x hc hx ih =>
    match x, hx with
    | [], hx => exact absurd rfl (cr_ne hx)
    | d :: r, hx =>
      rw [nm_sg c d r (sg_not92 hc d) hc]
      simp only [List.length_cons] at ih ⊢
      exact ⟨by omega, ih.2⟩
  | @es d x hd hx ih =>
    have : ((92 : UInt8) == 92 && d != 10) = true := by simpa using hd
    rw [nm_esc 92 d x this]
    simp only [List.length_cons] at ih ⊢
    exact ⟨by omega, ih.2⟩

/-- What a sign of a name is not. -/
theorem sg_not {c : UInt8} (h : isSg c = true) : isBlank c = false ∧ (c == 47) = false ∧ (c == 39) = false ∧ (c == 34) = false ∧ (c == 35) = false ∧ (c == 64) = false ∧ (c == 46) = false ∧ (c == 43) = false ∧ (c == 92) = false ∧ (c == 37) = false ∧ (c == 40) = false := by
  have h2 : ∀ n : Fin 256, isSg (UInt8.ofNat n.val) = true → (isBlank (UInt8.ofNat n.val) = false ∧ ((UInt8.ofNat n.val) == 47) = false ∧ ((UInt8.ofNat n.val) == 39) = false ∧ ((UInt8.ofNat n.val) == 34) = false ∧ ((UInt8.ofNat n.val) == 35) = false ∧ ((UInt8.ofNat n.val) == 64) = false ∧ ((UInt8.ofNat n.val) == 46) = false ∧ ((UInt8.ofNat n.val) == 43) = false ∧ ((UInt8.ofNat n.val) == 92) = false ∧ ((UInt8.ofNat n.val) == 37) = false ∧ ((UInt8.ofNat n.val) == 40) = false) := by decide +kernel
  have := h2 ⟨c.toNat, c.toNat_lt⟩
  simp only [UInt8.ofNat_toNat] at this
  exact this h

theorem frc_cons (a : UInt8) (r : List UInt8) : frc (a :: r) = bif a == 46 then cnt isDig r else 0 := rfl
theorem sgn_cons (a : UInt8) (r : List UInt8) : sgn (a :: r) = bif a == 43 || a == 45 then 1 else 0 := rfl

theorem cr_frc {x : List UInt8} (h : Cr x) : frc x = 0 := by
  cases h with
  | one => rfl
  | sg hc hx => rw [frc_cons, (sg_not hc).2.2.2.2.2.2.1]; rfl
  | es hd hx => rfl

theorem cr_dig {x : List UInt8} (h : Cr x) : Cr (x.drop (cnt isDig x)) := by
  induction h with
  | one => exact .one
  | @sg c x hc hx ih =>
    unfold cnt at ih ⊢
    rw [List.takeWhile_cons]
    cases isDig c with
    | true => exact ih
    | false => exact .sg hc hx
  | @es d x hd hx ih =>
    have : cnt isDig (92 :: d :: x) = 0 := by unfold cnt; rw [List.takeWhile_cons]; rfl
    rw [this]; exact .es hd hx

/-- The number of a text. -/
theorem cr_num {x : List UInt8} (h : Cr x) (h0 : 0 < nlen x) : Cr (x.drop (nlen x)) := by
  have key : ∀ y, y = x.drop (sgn x) → Cr y → Cr (x.drop (nlen x)) := by
    intro y hy hc
    have h1 := cr_dig hc
    have e : y.drop (cnt isDig y) = x.drop (sgn x + whl x) := by
      rw [hy, List.drop_drop]; rfl
    have hb : bhd x = 0 := by unfold bhd; rw [← e]; exact cr_frc h1
    have hn : nlen x = sgn x + whl x := by
      unfold nlen at h0 ⊢
      rw [hb] at h0 ⊢
      split
      · rename_i hz; rw [if_pos hz] at h0; omega
      · rfl
    rw [hn, ← e]; exact h1
  cases h with
  | one => exact absurd h0 (by decide)
  | @sg c x hc hx =>
    have h43 := (sg_not hc).2.2.2.2.2.2.2.1
    cases h45 : (c == 45) with
    | true =>
      have : sgn (c :: x) = 1 := by rw [sgn_cons, h43, h45]; rfl
      exact key x (by rw [this]; rfl) hx
    | false =>
      have : sgn (c :: x) = 0 := by rw [sgn_cons, h43, h45]; rfl
      exact key (c :: x) (by rw [this]; rfl) (.sg hc hx)
  | @es d x hd hx =>
    exact key (92 :: d :: x) rfl (.es hd hx)

theorem hd1_92 (c : UInt8) : hd1 [92] c = ((92 : UInt8) == c) := rfl

theorem hd1_cr {x : List UInt8} (h : Cr x) : hd1 x 37 = false ∧ hd1 x 40 = false ∧ hd1 x 47 = false ∧ hd1 x 39 = false ∧ hd1 x 34 = false ∧ hd1 x 35 = false ∧ hd1 x 64 = false ∧ cnt isBlank x = 0 := by
  cases h with
  | one => decide
  | @sg c x hc hx =>
    obtain ⟨a1, a2, a3, a4, a5, a6, a7, a8, a9, a10, a11⟩ := sg_not hc
    refine ⟨a10, a11, a2, a3, a4, a5, a6, ?_⟩
    unfold cnt; rw [List.takeWhile_cons, a1]; rfl
  | @es d x hd hx => exact ⟨rfl, rfl, rfl, rfl, rfl, rfl, rfl, rfl⟩

theorem cr_tok {x : List UInt8} (h : Cr x) : x = [92] ∨ ((tok1 x).2.1 < x.length ∧ Cr (x.drop (tok1 x).2.1)) := by
  obtain ⟨a1, a2, a3, a4, a5, a6, a7, a8⟩ := hd1_cr h
  have hne := cr_ne h
  have e : tok1 x = if nlen x > 0 then numT x else bif bg x then nameT x else (oneK (x.getD 0 0), 1, [], 0) := by
    unfold tok1
    rw [a3, a4, a5, a6, a7, a8]
    rfl
  rw [e]
  obtain ⟨c1, c2⟩ := cr_nm h
  by_cases hn : nlen x > 0
  · rw [if_pos hn]
    have hr := cr_num h hn
    obtain ⟨d1, d2⟩ := cr_nm hr
    have hle := nlen_le x
    have hrl : 0 < (x.drop (nlen x)).length := List.length_pos_iff.2 (cr_ne hr)
    unfold numT
    rw [(hd1_cr hr).1, cond_false]
    right
    rw [List.length_drop] at d1 hrl
    cases hb : bg (x.drop (nlen x)) with
    | true =>
      simp only [cond_true]
      rw [← List.drop_drop, d2]
      exact ⟨by omega, .one⟩
    | false =>
      simp only [cond_false]
      exact ⟨by omega, hr⟩
  · rw [if_neg hn]
    cases hb : bg x with
    | true =>
      simp only [cond_true]
      unfold nameT
      rw [c2]
      have : hd1 [92] 40 = false := rfl
      rw [this, cond_false]
      right
      simp only
      rw [c2]
      exact ⟨by omega, .one⟩
    | false =>
      simp only [cond_false]
      cases h with
      | one => exact .inl rfl
      | @sg c x hc hx =>
        right
        have := List.length_pos_iff.2 (cr_ne hx)
        exact ⟨by simp only [List.length_cons]; omega, hx⟩
      | @es d x hd hx =>
        exfalso
        rw [bg_cons] at hb
        have : esc (92 :: d :: x) = true := by simp [esc, hd]
        rw [this] at hb
        simp at hb

theorem last6 : ∀ (n : Nat) (x : List UInt8), x.length ≤ n → Cr x → ∃ u, (cutP x).getLast? = some u ∧ u.1 = 6
  | 0, x, hn, h => absurd (List.length_eq_zero_iff.1 (by omega)) (cr_ne h)
  | n + 1, x, hn, h => by
    rcases cr_tok h with rfl | ⟨h1, h2⟩
    · exact ⟨(6, [92], [], 0), by decide, rfl⟩
    · have hp := tok1_ok x (cr_ne h)
      obtain ⟨u, hu, h6⟩ := last6 n (x.drop (tok1 x).2.1) (by rw [List.length_drop]; omega) h2
      refine ⟨u, ?_, h6⟩
      rw [cutP_cons x (cr_ne h), List.getLast?_cons, hu]
      rfl

theorem cnt_app (p : UInt8 → Bool) (h : p 32 = false) (t : List UInt8) : ∀ s : List UInt8, cnt p (s ++ 32 :: t) = cnt p s
  | [] => by unfold cnt; rw [List.nil_append, List.takeWhile_cons, h]; rfl
  | a :: r => by
    have ih := cnt_app p h t r
    unfold cnt at ih ⊢
    rw [List.cons_append, List.takeWhile_cons, List.takeWhile_cons]
    cases p a with
    | true => simp only [if_true, List.length_cons]; rw [ih]
    | false => rfl

theorem frc_app (t : List UInt8) (s : List UInt8) : frc (s ++ 32 :: t) = frc s := by
  cases s with
  | nil => rfl
  | cons a r =>
    show (bif a == 46 then cnt isDig (r ++ 32 :: t) else 0) = bif a == 46 then cnt isDig r else 0
    rw [cnt_app isDig (by decide)]

theorem hd1_app (s t : List UInt8) (c : UInt8) (hs : s ≠ []) : hd1 (s ++ 32 :: t) c = hd1 s c := by
  cases s with
  | nil => exact absurd rfl hs
  | cons a r => rfl

theorem hd1_app2 (s t : List UInt8) (c : UInt8) (hc : (32 == c) = false) : hd1 (s ++ 32 :: t) c = hd1 s c := by
  cases s with
  | nil => exact hc
  | cons a r => rfl

theorem sgn_app (s t : List UInt8) (hs : s ≠ []) : sgn (s ++ 32 :: t) = sgn s := by
  cases s with
  | nil => exact absurd rfl hs
  | cons a r => rfl

theorem drop_app (s t : List UInt8) (n : Nat) (h : n ≤ s.length) : (s ++ 32 :: t).drop n = s.drop n ++ 32 :: t := List.drop_append_of_le_length h

theorem whl_app (s t : List UInt8) (hs : s ≠ []) : whl (s ++ 32 :: t) = whl s := by
  unfold whl
  rw [sgn_app s t hs, drop_app s t _ (sgn_le s).1, cnt_app isDig (by decide)]

theorem bhd_app (s t : List UInt8) (hs : s ≠ []) : bhd (s ++ 32 :: t) = bhd s := by
  unfold bhd
  rw [sgn_app s t hs, whl_app s t hs, drop_app s t _ (whl_le s), frc_app]

theorem nlen_app (s t : List UInt8) (hs : s ≠ []) : nlen (s ++ 32 :: t) = nlen s := by
  unfold nlen
  rw [sgn_app s t hs, whl_app s t hs, bhd_app s t hs]

theorem tx_app (q : UInt8) (u : List UInt8) : ∀ x : List UInt8, x.length < (tx q (x ++ u)).2.1 → (tx q x).1 = false ∧ (tx q x).2.1 = x.length
  | [], h => ⟨rfl, rfl⟩
  | [c], h => by
    cases u with
    | nil =>
      have := tx_le q [c]
      simp only [List.append_nil] at h
      omega
    | cons d r =>
      have e : tx q ([c] ++ d :: r) = bif c == q then (true, 1, []) else bif c == 10 then (false, 0, []) else
        bif c == 92 then ((tx q r).1, (tx q r).2.1 + 2, d :: (tx q r).2.2) else ((tx q (d :: r)).1, (tx q (d :: r)).2.1 + 1, c :: (tx q (d :: r)).2.2) := by
        show tx q (c :: d :: r) = _
        rw [tx]
      rw [e] at h
      unfold tx
      cases h1 : (c == q) with
      | true => rw [h1] at h; simp at h
      | false =>
        rw [h1] at h
        cases h2 : (c == 10) with
        | true => rw [h2] at h; simp at h
        | false => exact ⟨rfl, rfl⟩
  | c :: d :: r, h => by
    have e : ∀ r, tx q (c :: d :: r) = bif c == q then (true, 1, []) else bif c == 10 then (false, 0, []) else
        bif c == 92 then ((tx q r).1, (tx q r).2.1 + 2, d :: (tx q r).2.2) else ((tx q (d :: r)).1, (tx q (d :: r)).2.1 + 1, c :: (tx q (d :: r)).2.2) := by
        intro r; rw [tx]
    have e2 : tx q (c :: d :: r ++ u) = tx q (c :: d :: (r ++ u)) := rfl
    rw [e2, e] at h
    rw [e]
    cases h1 : (c == q) with
    | true => rw [h1] at h; simp at h
    | false =>
      rw [h1] at h
      cases h2 : (c == 10) with
      | true => rw [h2] at h; simp at h
      | false =>
        rw [h2] at h
        cases h3 : (c == 92) with
        | true =>
          rw [h3] at h
          simp only [cond_true, cond_false, List.length_cons] at h ⊢
          have ih := tx_app q u r (by omega)
          exact ⟨ih.1, by rw [ih.2]⟩
        | false =>
          rw [h3] at h
          simp only [cond_true, cond_false, List.length_cons] at h ⊢
          have ih := tx_app q u (d :: r) (by simp only [List.length_cons, List.cons_append]; omega)
          exact ⟨ih.1, by rw [ih.2]; rfl⟩

theorem pre_app (x u : List UInt8) (h : List.isPrefixOf [42, 47] x = true) : List.isPrefixOf [42, 47] (x ++ u) = true := by
  match x with
  | [] => simp [List.isPrefixOf] at h
  | [a] => simp [List.isPrefixOf] at h
  | a :: b :: r => simpa [List.isPrefixOf] using h

theorem idx_app (u : List UInt8) : ∀ x : List UInt8, Go.Lib.index x [42, 47] ≥ 0 → Go.Lib.index (x ++ u) [42, 47] = Go.Lib.index x [42, 47]
  | [], h => by simp [Go.Lib.index] at h
  | b :: l, h => by
    have ih := idx_app u l
    have hi := idx_le (b :: l) h
    have e2 : b :: l ++ u = b :: (l ++ u) := rfl
    rw [e2]
    unfold Go.Lib.index at h hi ⊢
    by_cases hp : List.isPrefixOf [42, 47] (b :: l) = true
    · rw [if_pos hp]
      have := pre_app (b :: l) u hp
      rw [e2] at this
      rw [if_pos this]
    · rw [if_neg hp] at h hi
      rw [if_neg hp]
      have hl : Go.Lib.index l [42, 47] ≥ 0 := by
        have hg := Go.Lib.index_ge l [42, 47]
        by_cases h1 : (Go.Lib.index l [42, 47] == -1) = true
        · rw [if_pos h1] at h; omega
        · have : Go.Lib.index l [42, 47] ≠ -1 := by simpa using h1
          omega
      have hn : ¬ List.isPrefixOf [42, 47] (b :: (l ++ u)) = true := by
        intro hq
        apply hp
        match l, hl with
        | [], hl => simp [Go.Lib.index] at hl
        | d :: l, _ => simpa [List.isPrefixOf] using hq
      rw [if_neg hn, ih hl]

/-- A text of one token alone. -/
theorem cut_whole (s : List UInt8) (hs : s ≠ []) (h : (tok1 s).2.1 = s.length) : ∃ u, (cutP s).getLast? = some u ∧ u.1 = (tok1 s).1 := by
  rw [cutP_cons s hs, h, List.drop_length]
  exact ⟨tokO s (tok1 s), rfl, rfl⟩

theorem cut_last (s : List UInt8) (hs : s ≠ []) (u : Int × List UInt8 × List UInt8 × Int) (h : (cutP (s.drop (tok1 s).2.1)).getLast? = some u) : (cutP s).getLast? = some u := by
  rw [cutP_cons s hs, List.getLast?_cons, h]; rfl

def Unshut (s : List UInt8) : Prop := ∃ u, (cutP s).getLast? = some u ∧ (u.1 = 6 ∨ u.1 = 8 ∨ u.1 = 9)

theorem open6 {x : List UInt8} (h : Cr x) : Unshut x := by
  obtain ⟨u, h1, h2⟩ := last6 _ x (Nat.le_refl _) h
  exact ⟨u, h1, .inl h2⟩

/-- How a number begins. -/
theorem num_hd (s : List UInt8) (h : 0 < nlen s) : ∃ c r, s = c :: r ∧ isBlank c = false ∧ (c == 47) = false ∧ (c == 39) = false ∧ (c == 34) = false ∧ (c == 35) = false ∧ (c == 64) = false := by
  cases s with
  | nil => exact absurd h (by decide)
  | cons c r =>
    refine ⟨c, r, rfl, ?_⟩
    have h2 : ∀ n : Fin 256, (((UInt8.ofNat n.val) == 43 || (UInt8.ofNat n.val) == 45) = true ∨ isDig (UInt8.ofNat n.val) = true ∨ ((UInt8.ofNat n.val) == 46) = true) → (isBlank (UInt8.ofNat n.val) = false ∧ ((UInt8.ofNat n.val) == 47) = false ∧ ((UInt8.ofNat n.val) == 39) = false ∧ ((UInt8.ofNat n.val) == 34) = false ∧ ((UInt8.ofNat n.val) == 35) = false ∧ ((UInt8.ofNat n.val) == 64) = false) := by decide +kernel
    have h3 := h2 ⟨c.toNat, c.toNat_lt⟩
    simp only [UInt8.ofNat_toNat] at h3
    apply h3
    cases e1 : (c == 43 || c == 45) with
    | true => exact .inl rfl
    | false =>
      right
      cases e2 : isDig c with
      | true => exact .inl rfl
      | false =>
        right
        cases e3 : (c == 46) with
        | true => rfl
        | false =>
          exfalso
          have s0 : sgn (c :: r) = 0 := by rw [sgn_cons, e1]; rfl
          have w0 : whl (c :: r) = 0 := by
            unfold whl; rw [s0, List.drop_zero]
            unfold cnt; rw [List.takeWhile_cons, e2]; rfl
          have b0 : bhd (c :: r) = 0 := by
            unfold bhd; rw [s0, w0]
            show frc (c :: r) = 0
            rw [frc_cons, e3]; rfl
          unfold nlen at h
          rw [w0, b0] at h
          simp at h

theorem tok1_num (s : List UInt8) (h : 0 < nlen s) : tok1 s = numT s := by
  obtain ⟨c, r, rfl, a1, a2, a3, a4, a5, a6⟩ := num_hd s h
  have b : cnt isBlank (c :: r) = 0 := by unfold cnt; rw [List.takeWhile_cons, a1]; rfl
  have h1 : ∀ d, hd1 (c :: r) d = (c == d) := fun d => rfl
  unfold tok1
  rw [b, h1, h1, h1, h1, h1, a2, a3, a4, a5, a6]
  simp only [Bool.false_and, Bool.or_false, cond_false]
  rw [if_neg (by omega), if_pos h]

theorem tok1_app (s t : List UInt8) (hs : s ≠ []) : (tok1 (s ++ 32 :: t)).2.1 ≤ s.length ∨ Unshut s := by
  by_cases hle : (tok1 (s ++ 32 :: t)).2.1 ≤ s.length
  · exact .inl hle
  right
  have hpos : 0 < s.length := List.length_pos_iff.2 hs
  have d1 : (s ++ 32 :: t).drop 1 = s.drop 1 ++ 32 :: t := drop_app s t 1 (by omega)
  by_cases hb : cnt isBlank (s ++ 32 :: t) > 0
  · have e : tok1 (s ++ 32 :: t) = (8, cnt isBlank (s ++ 32 :: t), [], 0) := by unfold tok1; rw [if_pos hb]
    rw [e] at hle
    simp only at hle
    have h2 := cnt_take isBlank (s ++ 32 :: t) s.length
    rw [List.take_left'  rfl] at h2
    have h3 : cnt isBlank s = s.length := by omega
    have e2 : tok1 s = (8, cnt isBlank s, [], 0) := by unfold tok1; rw [if_pos (by omega)]
    obtain ⟨u, hu, hk⟩ := cut_whole s hs (by rw [e2]; exact h3)
    exact ⟨u, hu, .inr (.inl (by rw [hk, e2]))⟩
  have hb2 : ¬ cnt isBlank s > 0 := by
    have h2 := cnt_take isBlank (s ++ 32 :: t) s.length
    rw [List.take_left' rfl] at h2
    omega
  by_cases hn : 0 < nlen s
  · have hn2 : 0 < nlen (s ++ 32 :: t) := by rw [nlen_app s t hs]; exact hn
    rw [tok1_num _ hn2] at hle
    unfold numT at hle
    have hnl := nlen_le s
    rw [nlen_app s t hs, drop_app s t _ hnl, hd1_app2 _ t 37 (by decide)] at hle
    cases h37 : hd1 (s.drop (nlen s)) 37 with
    | true =>
      have := hd1_pos h37
      rw [List.length_drop] at this
      rw [h37] at hle
      simp only [cond_true] at hle
      omega
    | false =>
      rw [h37] at hle
      simp only [cond_false] at hle
      cases hbg : bg (s.drop (nlen s) ++ 32 :: t) with
      | false => rw [hbg] at hle; simp only [cond_false] at hle; omega
      | true =>
        rw [hbg] at hle
        simp only [cond_true] at hle
        have hc : Cr (s.drop (nlen s)) := nm_cr _ t (by rw [List.length_drop]; omega)
        obtain ⟨c1, c2⟩ := cr_nm hc
        have e : tok1 s = bif bg (s.drop (nlen s)) then (7, nlen s + (nm (s.drop (nlen s))).2, (nm (s.drop (nlen s))).1.map lowB, nval s) else (7, nlen s, [], nval s) := by
          rw [tok1_num s hn]; unfold numT; rw [h37]; rfl
        cases hbs : bg (s.drop (nlen s)) with
        | true =>
          rw [hbs, cond_true] at e
          obtain ⟨u, hu, h6⟩ := open6 Cr.one
          exact ⟨u, cut_last s hs u (by rw [e]; simp only; rw [← List.drop_drop, c2]; exact hu), h6⟩
        | false =>
          rw [hbs, cond_false] at e
          obtain ⟨u, hu, h6⟩ := open6 hc
          exact ⟨u, cut_last s hs u (by rw [e]; exact hu), h6⟩
  have hn2 : ¬ nlen (s ++ 32 :: t) > 0 := by rw [nlen_app s t hs]; exact hn
  have hh := hd1_app s t
  have e' : tok1 (s ++ 32 :: t) = bif hd1 s 47 && hd1 (s.drop 1 ++ 32 :: t) 42 then (9, noteN (s ++ 32 :: t), [], 0)
      else bif hd1 s 39 || hd1 s 34 then
        bif (tx (s.getD 0 0) (s.drop 1 ++ 32 :: t)).1 then (5, 1 + (tx (s.getD 0 0) (s.drop 1 ++ 32 :: t)).2.1, (tx (s.getD 0 0) (s.drop 1 ++ 32 :: t)).2.2, 0) else (6, 1 + (tx (s.getD 0 0) (s.drop 1 ++ 32 :: t)).2.1, [], 0)
      else bif hd1 s 35 && decide (1 < (s ++ 32 :: t).length) && (isSg ((s ++ 32 :: t).getD 1 0) || esc (s.drop 1 ++ 32 :: t)) then (4, 1 + (nm (s.drop 1 ++ 32 :: t)).2, (nm (s.drop 1 ++ 32 :: t)).1, 0)
      else bif hd1 s 64 && bg (s.drop 1 ++ 32 :: t) then (3, 1 + (nm (s.drop 1 ++ 32 :: t)).2, (nm (s.drop 1 ++ 32 :: t)).1, 0)
      else bif bg (s ++ 32 :: t) then nameT (s ++ 32 :: t)
      else (oneK (s.getD 0 0), 1, [], 0) := by
    have g : (s ++ 32 :: t).getD 0 0 = s.getD 0 0 := by
      cases s with
      | nil => exact absurd rfl hs
      | cons a r => rfl
    unfold tok1
    rw [if_neg hb, if_neg hn2, hh _ hs, hh _ hs, hh _ hs, hh _ hs, hh _ hs, d1, g]
  have e0 : tok1 s = bif hd1 s 47 && hd1 (s.drop 1) 42 then (9, noteN s, [], 0)
      else bif hd1 s 39 || hd1 s 34 then
        bif (tx (s.getD 0 0) (s.drop 1)).1 then (5, 1 + (tx (s.getD 0 0) (s.drop 1)).2.1, (tx (s.getD 0 0) (s.drop 1)).2.2, 0) else (6, 1 + (tx (s.getD 0 0) (s.drop 1)).2.1, [], 0)
      else bif hd1 s 35 && decide (1 < s.length) && (isSg (s.getD 1 0) || esc (s.drop 1)) then (4, 1 + (nm (s.drop 1)).2, (nm (s.drop 1)).1, 0)
      else bif hd1 s 64 && bg (s.drop 1) then (3, 1 + (nm (s.drop 1)).2, (nm (s.drop 1)).1, 0)
      else bif bg s then nameT s
      else (oneK (s.getD 0 0), 1, [], 0) := by
    unfold tok1
    rw [if_neg hb2, if_neg hn]
  rw [hd1_app2 _ t 42 (by decide)] at e'
  cases h1 : (hd1 s 47 && hd1 (s.drop 1) 42) with
  | true =>
    rw [h1, cond_true] at e' e0
    rw [e'] at hle
    simp only at hle
    have hw : noteN s = s.length := by
      unfold noteN
      by_cases hi : Go.Lib.index (s.drop 2) [42, 47] ≥ 0
      · exfalso
        apply hle
        rw [Bool.and_eq_true] at h1
        have h2 := hd1_pos h1.2
        rw [List.length_drop] at h2
        unfold noteN
        rw [drop_app s t 2 (by omega), idx_app _ _ hi, if_pos hi]
        have := idx_le _ hi
        rw [List.length_drop] at this
        omega
      · rw [if_neg hi]
    obtain ⟨u, hu, hk⟩ := cut_whole s hs (by rw [e0]; exact hw)
    exact ⟨u, hu, .inr (.inr (by rw [hk, e0]))⟩
  | false =>
    rw [h1, cond_false] at e' e0
    cases h2 : (hd1 s 39 || hd1 s 34) with
    | true =>
      rw [h2, cond_true] at e' e0
      have hlen : (s.drop 1).length < (tx (s.getD 0 0) (s.drop 1 ++ 32 :: t)).2.1 := by
        rw [e'] at hle
        rw [List.length_drop]
        cases hx : (tx (s.getD 0 0) (s.drop 1 ++ 32 :: t)).1 with
        | true => rw [hx, cond_true] at hle; simp only at hle; omega
        | false => rw [hx, cond_false] at hle; simp only at hle; omega
      obtain ⟨x1, x2⟩ := tx_app _ _ _ hlen
      rw [x1, cond_false, x2] at e0
      obtain ⟨u, hu, hk⟩ := cut_whole s hs (by rw [e0]; simp only [List.length_drop]; omega)
      exact ⟨u, hu, .inl (by rw [hk, e0])⟩
    | false =>
      rw [h2, cond_false] at e' e0
      have one : ∀ x c, s = c :: x → Cr x → hd1 s 35 = true ∨ hd1 s 64 = true → Unshut s := by
        intro x c hsx hc hcc
        obtain ⟨c1, c2⟩ := cr_nm hc
        have hx := List.length_pos_iff.2 (cr_ne hc)
        subst hsx
        have hbg : bg (c :: x) = false := by
          match x, hc with
          | [], hc => exact absurd rfl (cr_ne hc)
          | d :: r, hc =>
            rw [bg_cons]
            rcases hcc with h | h
            · have : c = 35 := by simpa [hd1] using h
              subst this; rfl
            · have : c = 64 := by simpa [hd1] using h
              subst this; rfl
        have dd : (c :: x).drop 1 = x := rfl
        rw [hbg, cond_false, dd] at e0
        obtain ⟨u6, hu6, h66⟩ := open6 Cr.one
        obtain ⟨ux, hux, h6x⟩ := open6 hc
        have done1 : tok1 (c :: x) = (oneK ((c :: x).getD 0 0), 1, [], 0) → Unshut (c :: x) := fun e => ⟨ux, cut_last _ hs ux (by rw [e]; exact hux), h6x⟩
        have done2 : ∀ k, tok1 (c :: x) = (k, 1 + (nm x).2, (nm x).1, 0) → Unshut (c :: x) := fun k e => ⟨u6, cut_last _ hs u6 (by rw [e]; simp only; rw [Nat.add_comm, List.drop_succ_cons, c2]; exact hu6), h66⟩
        cases h3 : (hd1 (c :: x) 35 && decide (1 < (c :: x).length) && (isSg ((c :: x).getD 1 0) || esc x)) with
        | true => rw [h3, cond_true] at e0; exact done2 _ e0
        | false =>
          rw [h3, cond_false] at e0
          cases h4 : (hd1 (c :: x) 64 && bg x) with
          | true => rw [h4, cond_true] at e0; exact done2 _ e0
          | false => rw [h4, cond_false] at e0; exact done1 e0
      obtain ⟨c, x, hsx⟩ : ∃ c x, s = c :: x := by
        cases s with
        | nil => exact absurd rfl hs
        | cons a r => exact ⟨a, r, rfl⟩
      have hxl : s.length = x.length + 1 := by rw [hsx]; rfl
      have hdx : s.drop 1 = x := by rw [hsx]; rfl
      cases h3 : (hd1 s 35 && decide (1 < (s ++ 32 :: t).length) && (isSg ((s ++ 32 :: t).getD 1 0) || esc (s.drop 1 ++ 32 :: t))) with
      | true =>
        rw [h3, cond_true] at e'
        rw [e', hdx] at hle
        simp only at hle
        rw [Bool.and_eq_true, Bool.and_eq_true] at h3
        exact one x c hsx (nm_cr x t (by omega)) (.inl h3.1.1)
      | false =>
        rw [h3, cond_false] at e'
        cases h4 : (hd1 s 64 && bg (s.drop 1 ++ 32 :: t)) with
        | true =>
          rw [h4, cond_true] at e'
          rw [e', hdx] at hle
          simp only at hle
          rw [Bool.and_eq_true] at h4
          exact one x c hsx (nm_cr x t (by omega)) (.inr h4.1)
        | false =>
          rw [h4, cond_false] at e'
          cases h5 : bg (s ++ 32 :: t) with
          | false =>
            rw [h5, cond_false] at e'
            rw [e'] at hle
            simp only at hle
            omega
          | true =>
            rw [h5, cond_true] at e'
            rw [e'] at hle
            by_cases hm : (nm (s ++ 32 :: t)).2 ≤ s.length
            · exfalso
              apply hle
              unfold nameT
              rw [drop_app s t _ hm, hd1_app2 _ t 40 (by decide)]
              cases h40 : hd1 (s.drop (nm (s ++ 32 :: t)).2) 40 with
              | true =>
                have := hd1_pos h40
                rw [List.length_drop] at this
                simp only [cond_true]; omega
              | false => exact hm
            · exact open6 (nm_cr s t (by omega))

theorem cut_apart (t : List UInt8) : ∀ (n : Nat) (s : List UInt8), s.length ≤ n → ¬ Unshut s → cutP (s ++ 32 :: t) = cutP s ++ cutP (32 :: t)
  | 0, s, hn, ho => by
    have : s = [] := List.length_eq_zero_iff.1 (by omega)
    subst this; rfl
  | n + 1, s, hn, ho => by
    by_cases hs : s = []
    · subst hs; rfl
    have h1 := tok1_ok s hs
    have hle : (tok1 (s ++ 32 :: t)).2.1 ≤ s.length := (tok1_app s t hs).resolve_right ho
    have hne : s ++ 32 :: t ≠ [] := by simp
    have e := tok1_take (s ++ 32 :: t) hne s.length hle
    rw [List.take_left' rfl] at e
    rw [← e] at hle
    rw [cutP_cons _ hne, ← e, drop_app s t _ hle, cutP_cons s hs]
    have e2 : tokO (s ++ 32 :: t) (tok1 s) = tokO s (tok1 s) := by
      unfold tokO
      rw [List.take_append_of_le_length hle]
    rw [e2, List.cons_append]
    congr 1
    apply cut_apart t n _ (by rw [List.length_drop]; omega)
    rintro ⟨u, hu, hk⟩
    exact ho ⟨u, cut_last s hs u hu, hk⟩

theorem cut_blank (t : List UInt8) (h : cnt isBlank t = 0) : cutP (32 :: t) = (8, [32], [], 0) :: cutP t := by
  have hc : cnt isBlank (32 :: t) = 1 := by
    have e : cnt isBlank (32 :: t) = cnt isBlank t + 1 := by
      unfold cnt; rw [List.takeWhile_cons]; rfl
    rw [e, h]
  have e : tok1 (32 :: t) = (8, 1, [], 0) := by unfold tok1; rw [hc]; rfl
  rw [cutP_cons _ (by simp), e]
  rfl

theorem blank_of (t : List UInt8) (ht : t ≠ []) (h : (tok1 t).1 ≠ 8) : cnt isBlank t = 0 := by
  by_cases hc : cnt isBlank t > 0
  · exfalso; apply h; unfold tok1; rw [if_pos hc]
  · omega

end Go.Ev.Tok

-- from EvTkQ
set_option linter.unusedVariables false
set_option linter.unusedSimpArgs false
namespace Go.Ev.Tok

/-- A sign that no token takes in behind its beginning. -/
structure Stop (z : UInt8) : Prop where
  sg : isSg z = false
  bs : (z == 92) = false
  pt : (z == 46) = false
  pc : (z == 37) = false
  br : (z == 40) = false
  st : (z == 42) = false

theorem Stop.dig {z : UInt8} (h : Stop z) : isDig z = false := by
  have := h.sg
  unfold isSg at this
  simp only [Bool.or_eq_false_iff] at this
  exact this.1.2

theorem nmz {z : UInt8} (hz : Stop z) (t : List UInt8) : (nm (z :: t)).2 = 0 := by
  cases t with
  | nil => simp [nm, hz.sg]
  | cons d r => simp [nm, hz.sg, hz.bs]

theorem nm_cr' {z : UInt8} (hz : Stop z) : ∀ (x t : List UInt8), x.length < (nm (x ++ z :: t)).2 → Cr x
  | [], t, h => by rw [List.nil_append, nmz hz] at h; simp at h
  | [c], t, h => by
    have e : nm ([c] ++ z :: t) = bif c == 92 && z != 10 then (z :: (nm t).1, (nm t).2 + 2) else bif isSg c then (c :: (nm (z :: t)).1, (nm (z :: t)).2 + 1) else ([], 0) := by
      show nm (c :: z :: t) = _
      rw [nm]
    rw [e, nmz hz] at h
    cases h1 : (c == 92) with
    | true =>
      have : c = 92 := by simpa using h1
      subst this; exact .one
    | false =>
      rw [h1] at h
      simp only [Bool.false_and, cond_false] at h
      cases h2 : isSg c <;> rw [h2] at h <;> simp at h
  | c :: d :: r, t, h => by
    have e : nm (c :: d :: r ++ z :: t) = bif c == 92 && d != 10 then (d :: (nm (r ++ z :: t)).1, (nm (r ++ z :: t)).2 + 2) else bif isSg c then (c :: (nm (d :: r ++ z :: t)).1, (nm (d :: r ++ z :: t)).2 + 1) else ([], 0) := by
      show nm (c :: d :: (r ++ z :: t)) = _
      rw [nm]; rfl
    rw [e] at h
    cases h1 : (c == 92 && d != 10) with
    | true =>
      rw [h1] at h
      simp only [cond_true, List.length_cons] at h
      rw [Bool.and_eq_true] at h1
      have h92 : c = 92 := by simpa using h1.1
      have h10 : d ≠ 10 := by simpa using h1.2
      subst h92
      exact .es h10 (nm_cr' hz r t (by omega))
    | false =>
      rw [h1] at h
      simp only [cond_false] at h
      cases h2 : isSg c with
      | true =>
        rw [h2] at h
        simp only [cond_true, List.length_cons] at h
        exact .sg h2 (nm_cr' hz (d :: r) t (by simp only [List.length_cons]; omega))
      | false => rw [h2] at h; simp at h


theorem cnt_app' (p : UInt8 → Bool) {z : UInt8} (h : p z = false) (t : List UInt8) : ∀ s : List UInt8, cnt p (s ++ z :: t) = cnt p s
  | [] => by unfold cnt; rw [List.nil_append, List.takeWhile_cons, h]; rfl
  | a :: r => by
    have ih := cnt_app' p h t r
    unfold cnt at ih ⊢
    rw [List.cons_append, List.takeWhile_cons, List.takeWhile_cons]
    cases p a with
    | true => simp only [if_true, List.length_cons]; rw [ih]
    | false => rfl


theorem frc_app' {z : UInt8} (hz : Stop z) (t : List UInt8) (s : List UInt8) : frc (s ++ z :: t) = frc s := by
  cases s with
  | nil => rw [List.nil_append, frc_cons, hz.pt]; rfl
  | cons a r =>
    show (bif a == 46 then cnt isDig (r ++ z :: t) else 0) = bif a == 46 then cnt isDig r else 0
    rw [cnt_app' isDig hz.dig]


theorem hd1_app' {z : UInt8} (s t : List UInt8) (c : UInt8) (hs : s ≠ []) : hd1 (s ++ z :: t) c = hd1 s c := by
  cases s with
  | nil => exact absurd rfl hs
  | cons a r => rfl


theorem hd1_app2' {z : UInt8} (s t : List UInt8) (c : UInt8) (hc : (z == c) = false) : hd1 (s ++ z :: t) c = hd1 s c := by
  cases s with
  | nil => exact hc
  | cons a r => rfl


theorem sgn_app' {z : UInt8} (s t : List UInt8) (hs : s ≠ []) : sgn (s ++ z :: t) = sgn s := by
  cases s with
  | nil => exact absurd rfl hs
  | cons a r => rfl


theorem drop_app' {z : UInt8} (s t : List UInt8) (n : Nat) (h : n ≤ s.length) : (s ++ z :: t).drop n = s.drop n ++ z :: t := List.drop_append_of_le_length h


theorem whl_app' {z : UInt8} (hz : Stop z) (s t : List UInt8) (hs : s ≠ []) : whl (s ++ z :: t) = whl s := by
  unfold whl
  rw [sgn_app' s t hs, drop_app' s t _ (sgn_le s).1, cnt_app' isDig hz.dig]


theorem bhd_app' {z : UInt8} (hz : Stop z) (s t : List UInt8) (hs : s ≠ []) : bhd (s ++ z :: t) = bhd s := by
  unfold bhd
  rw [sgn_app' s t hs, whl_app' hz s t hs, drop_app' s t _ (whl_le s), frc_app' hz]


theorem nlen_app' {z : UInt8} (hz : Stop z) (s t : List UInt8) (hs : s ≠ []) : nlen (s ++ z :: t) = nlen s := by
  unfold nlen
  rw [sgn_app' s t hs, whl_app' hz s t hs, bhd_app' hz s t hs]


/-- Does a text's end want more? -/
def Unfin (z : UInt8) (s : List UInt8) : Prop := ∃ u, (cutP s).getLast? = some u ∧ (u.1 = 6 ∨ (u.1 = 8 ∧ isBlank z = true) ∨ u.1 = 9)

theorem unfin6 {z : UInt8} {x : List UInt8} (h : Cr x) : Unfin z x := by
  obtain ⟨u, h1, h2⟩ := last6 _ x (Nat.le_refl _) h
  exact ⟨u, h1, .inl h2⟩

theorem tok1_app' {z : UInt8} (hz : Stop z) (s t : List UInt8) (hs : s ≠ []) : (tok1 (s ++ z :: t)).2.1 ≤ s.length ∨ Unfin z s := by
  by_cases hle : (tok1 (s ++ z :: t)).2.1 ≤ s.length
  · exact .inl hle
  right
  have hpos : 0 < s.length := List.length_pos_iff.2 hs
  have d1 : (s ++ z :: t).drop 1 = s.drop 1 ++ z :: t := drop_app' s t 1 (by omega)
  by_cases hb : cnt isBlank (s ++ z :: t) > 0
  · have e : tok1 (s ++ z :: t) = (8, cnt isBlank (s ++ z :: t), [], 0) := by unfold tok1; rw [if_pos hb]
    rw [e] at hle
    simp only at hle
    have h2 := cnt_take isBlank (s ++ z :: t) s.length
    rw [List.take_left'  rfl] at h2
    have h3 : cnt isBlank s = s.length := by omega
    have hzb : isBlank z = true := by
      cases hzz : isBlank z with
      | true => rfl
      | false => rw [cnt_app' isBlank hzz] at hle; have := cnt_le isBlank s; omega
    have e2 : tok1 s = (8, cnt isBlank s, [], 0) := by unfold tok1; rw [if_pos (by omega)]
    obtain ⟨u, hu, hk⟩ := cut_whole s hs (by rw [e2]; exact h3)
    exact ⟨u, hu, .inr (.inl ⟨by rw [hk, e2], hzb⟩)⟩
  have hb2 : ¬ cnt isBlank s > 0 := by
    have h2 := cnt_take isBlank (s ++ z :: t) s.length
    rw [List.take_left' rfl] at h2
    omega
  by_cases hn : 0 < nlen s
  · have hn2 : 0 < nlen (s ++ z :: t) := by rw [nlen_app' hz s t hs]; exact hn
    rw [tok1_num _ hn2] at hle
    unfold numT at hle
    have hnl := nlen_le s
    rw [nlen_app' hz s t hs, drop_app' s t _ hnl, hd1_app2' _ t 37 hz.pc] at hle
    cases h37 : hd1 (s.drop (nlen s)) 37 with
    | true =>
      have := hd1_pos h37
      rw [List.length_drop] at this
      rw [h37] at hle
      simp only [cond_true] at hle
      omega
    | false =>
      rw [h37] at hle
      simp only [cond_false] at hle
      cases hbg : bg (s.drop (nlen s) ++ z :: t) with
      | false => rw [hbg] at hle; simp only [cond_false] at hle; omega
      | true =>
        rw [hbg] at hle
        simp only [cond_true] at hle
        have hc : Cr (s.drop (nlen s)) := nm_cr' hz _ t (by rw [List.length_drop]; omega)
        obtain ⟨c1, c2⟩ := cr_nm hc
        have e : tok1 s = bif bg (s.drop (nlen s)) then (7, nlen s + (nm (s.drop (nlen s))).2, (nm (s.drop (nlen s))).1.map lowB, nval s) else (7, nlen s, [], nval s) := by
          rw [tok1_num s hn]; unfold numT; rw [h37]; rfl
        cases hbs : bg (s.drop (nlen s)) with
        | true =>
          rw [hbs, cond_true] at e
          obtain ⟨u, hu, h6⟩ := unfin6 (z := z) Cr.one
          exact ⟨u, cut_last s hs u (by rw [e]; simp only; rw [← List.drop_drop, c2]; exact hu), h6⟩
        | false =>
          rw [hbs, cond_false] at e
          obtain ⟨u, hu, h6⟩ := unfin6 (z := z) hc
          exact ⟨u, cut_last s hs u (by rw [e]; exact hu), h6⟩
  have hn2 : ¬ nlen (s ++ z :: t) > 0 := by rw [nlen_app' hz s t hs]; exact hn
  have hh := hd1_app' (z := z) s t
  have e' : tok1 (s ++ z :: t) = bif hd1 s 47 && hd1 (s.drop 1 ++ z :: t) 42 then (9, noteN (s ++ z :: t), [], 0)
      else bif hd1 s 39 || hd1 s 34 then
        bif (tx (s.getD 0 0) (s.drop 1 ++ z :: t)).1 then (5, 1 + (tx (s.getD 0 0) (s.drop 1 ++ z :: t)).2.1, (tx (s.getD 0 0) (s.drop 1 ++ z :: t)).2.2, 0) else (6, 1 + (tx (s.getD 0 0) (s.drop 1 ++ z :: t)).2.1, [], 0)
      else bif hd1 s 35 && decide (1 < (s ++ z :: t).length) && (isSg ((s ++ z :: t).getD 1 0) || esc (s.drop 1 ++ z :: t)) then (4, 1 + (nm (s.drop 1 ++ z :: t)).2, (nm (s.drop 1 ++ z :: t)).1, 0)
      else bif hd1 s 64 && bg (s.drop 1 ++ z :: t) then (3, 1 + (nm (s.drop 1 ++ z :: t)).2, (nm (s.drop 1 ++ z :: t)).1, 0)
      else bif bg (s ++ z :: t) then nameT (s ++ z :: t)
      else (oneK (s.getD 0 0), 1, [], 0) := by
    have g : (s ++ z :: t).getD 0 0 = s.getD 0 0 := by
      cases s with
      | nil => exact absurd rfl hs
      | cons a r => rfl
    unfold tok1
    rw [if_neg hb, if_neg hn2, hh _ hs, hh _ hs, hh _ hs, hh _ hs, hh _ hs, d1, g]
  have e0 : tok1 s = bif hd1 s 47 && hd1 (s.drop 1) 42 then (9, noteN s, [], 0)
      else bif hd1 s 39 || hd1 s 34 then
        bif (tx (s.getD 0 0) (s.drop 1)).1 then (5, 1 + (tx (s.getD 0 0) (s.drop 1)).2.1, (tx (s.getD 0 0) (s.drop 1)).2.2, 0) else (6, 1 + (tx (s.getD 0 0) (s.drop 1)).2.1, [], 0)
      else bif hd1 s 35 && decide (1 < s.length) && (isSg (s.getD 1 0) || esc (s.drop 1)) then (4, 1 + (nm (s.drop 1)).2, (nm (s.drop 1)).1, 0)
      else bif hd1 s 64 && bg (s.drop 1) then (3, 1 + (nm (s.drop 1)).2, (nm (s.drop 1)).1, 0)
      else bif bg s then nameT s
      else (oneK (s.getD 0 0), 1, [], 0) := by
    unfold tok1
    rw [if_neg hb2, if_neg hn]
  rw [hd1_app2' _ t 42 hz.st] at e'
  cases h1 : (hd1 s 47 && hd1 (s.drop 1) 42) with
  | true =>
    rw [h1, cond_true] at e' e0
    rw [e'] at hle
    simp only at hle
    have hw : noteN s = s.length := by
      unfold noteN
      by_cases hi : Go.Lib.index (s.drop 2) [42, 47] ≥ 0
      · exfalso
        apply hle
        rw [Bool.and_eq_true] at h1
        have h2 := hd1_pos h1.2
        rw [List.length_drop] at h2
        unfold noteN
        rw [drop_app' s t 2 (by omega), idx_app _ _ hi, if_pos hi]
        have := idx_le _ hi
        rw [List.length_drop] at this
        omega
      · rw [if_neg hi]
    obtain ⟨u, hu, hk⟩ := cut_whole s hs (by rw [e0]; exact hw)
    exact ⟨u, hu, .inr (.inr (by rw [hk, e0]))⟩
  | false =>
    rw [h1, cond_false] at e' e0
    cases h2 : (hd1 s 39 || hd1 s 34) with
    | true =>
      rw [h2, cond_true] at e' e0
      have hlen : (s.drop 1).length < (tx (s.getD 0 0) (s.drop 1 ++ z :: t)).2.1 := by
        rw [e'] at hle
        rw [List.length_drop]
        cases hx : (tx (s.getD 0 0) (s.drop 1 ++ z :: t)).1 with
        | true => rw [hx, cond_true] at hle; simp only at hle; omega
        | false => rw [hx, cond_false] at hle; simp only at hle; omega
      obtain ⟨x1, x2⟩ := tx_app _ _ _ hlen
      rw [x1, cond_false, x2] at e0
      obtain ⟨u, hu, hk⟩ := cut_whole s hs (by rw [e0]; simp only [List.length_drop]; omega)
      exact ⟨u, hu, .inl (by rw [hk, e0])⟩
    | false =>
      rw [h2, cond_false] at e' e0
      have one : ∀ x c, s = c :: x → Cr x → hd1 s 35 = true ∨ hd1 s 64 = true → Unfin z s := by
        intro x c hsx hc hcc
        obtain ⟨c1, c2⟩ := cr_nm hc
        have hx := List.length_pos_iff.2 (cr_ne hc)
        subst hsx
        have hbg : bg (c :: x) = false := by
          match x, hc with
          | [], hc => exact absurd rfl (cr_ne hc)
          | d :: r, hc =>
            rw [bg_cons]
            rcases hcc with h | h
            · have : c = 35 := by simpa [hd1] using h
              subst this; rfl
            · have : c = 64 := by simpa [hd1] using h
              subst this; rfl
        have dd : (c :: x).drop 1 = x := rfl
        rw [hbg, cond_false, dd] at e0
        obtain ⟨u6, hu6, h66⟩ := unfin6 (z := z) Cr.one
        obtain ⟨ux, hux, h6x⟩ := unfin6 (z := z) hc
        have done1 : tok1 (c :: x) = (oneK ((c :: x).getD 0 0), 1, [], 0) → Unfin z (c :: x) := fun e => ⟨ux, cut_last _ hs ux (by rw [e]; exact hux), h6x⟩
        have done2 : ∀ k, tok1 (c :: x) = (k, 1 + (nm x).2, (nm x).1, 0) → Unfin z (c :: x) := fun k e => ⟨u6, cut_last _ hs u6 (by rw [e]; simp only; rw [Nat.add_comm, List.drop_succ_cons, c2]; exact hu6), h66⟩
        cases h3 : (hd1 (c :: x) 35 && decide (1 < (c :: x).length) && (isSg ((c :: x).getD 1 0) || esc x)) with
        | true => rw [h3, cond_true] at e0; exact done2 _ e0
        | false =>
          rw [h3, cond_false] at e0
          cases h4 : (hd1 (c :: x) 64 && bg x) with
          | true => rw [h4, cond_true] at e0; exact done2 _ e0
          | false => rw [h4, cond_false] at e0; exact done1 e0
      obtain ⟨c, x, hsx⟩ : ∃ c x, s = c :: x := by
        cases s with
        | nil => exact absurd rfl hs
        | cons a r => exact ⟨a, r, rfl⟩
      have hxl : s.length = x.length + 1 := by rw [hsx]; rfl
      have hdx : s.drop 1 = x := by rw [hsx]; rfl
      cases h3 : (hd1 s 35 && decide (1 < (s ++ z :: t).length) && (isSg ((s ++ z :: t).getD 1 0) || esc (s.drop 1 ++ z :: t))) with
      | true =>
        rw [h3, cond_true] at e'
        rw [e', hdx] at hle
        simp only at hle
        rw [Bool.and_eq_true, Bool.and_eq_true] at h3
        exact one x c hsx (nm_cr' hz x t (by omega)) (.inl h3.1.1)
      | false =>
        rw [h3, cond_false] at e'
        cases h4 : (hd1 s 64 && bg (s.drop 1 ++ z :: t)) with
        | true =>
          rw [h4, cond_true] at e'
          rw [e', hdx] at hle
          simp only at hle
          rw [Bool.and_eq_true] at h4
          exact one x c hsx (nm_cr' hz x t (by omega)) (.inr h4.1)
        | false =>
          rw [h4, cond_false] at e'
          cases h5 : bg (s ++ z :: t) with
          | false =>
            rw [h5, cond_false] at e'
            rw [e'] at hle
            simp only at hle
            omega
          | true =>
            rw [h5, cond_true] at e'
            rw [e'] at hle
            by_cases hm : (nm (s ++ z :: t)).2 ≤ s.length
            · exfalso
              apply hle
              unfold nameT
              rw [drop_app' s t _ hm, hd1_app2' _ t 40 hz.br]
              cases h40 : hd1 (s.drop (nm (s ++ z :: t)).2) 40 with
              | true =>
                have := hd1_pos h40
                rw [List.length_drop] at this
                simp only [cond_true]; omega
              | false => exact hm
            · exact unfin6 (z := z) (nm_cr' hz s t (by omega))


theorem cut_apart' {z : UInt8} (hz : Stop z) (t : List UInt8) : ∀ (n : Nat) (s : List UInt8), s.length ≤ n → ¬ Unfin z s → cutP (s ++ z :: t) = cutP s ++ cutP (z :: t)
  | 0, s, hn, ho => by
    have : s = [] := List.length_eq_zero_iff.1 (by omega)
    subst this; rfl
  | n + 1, s, hn, ho => by
    by_cases hs : s = []
    · subst hs; rfl
    have h1 := tok1_ok s hs
    have hle : (tok1 (s ++ z :: t)).2.1 ≤ s.length := (tok1_app' hz s t hs).resolve_right ho
    have hne : s ++ z :: t ≠ [] := by simp
    have e := tok1_take (s ++ z :: t) hne s.length hle
    rw [List.take_left' rfl] at e
    rw [← e] at hle
    rw [cutP_cons _ hne, ← e, drop_app' s t _ hle, cutP_cons s hs]
    have e2 : tokO (s ++ z :: t) (tok1 s) = tokO s (tok1 s) := by
      unfold tokO
      rw [List.take_append_of_le_length hle]
    rw [e2, List.cons_append]
    congr 1
    apply cut_apart' hz t n _ (by rw [List.length_drop]; omega)
    rintro ⟨u, hu, hk⟩
    exact ho ⟨u, cut_last s hs u hu, hk⟩


end Go.Ev.Tok

-- from EvTkR
set_option linter.unusedVariables false
set_option linter.unusedSimpArgs false
namespace Go.Ev.Tok

abbrev Tk := Int × List UInt8 × List UInt8 × Int

/-- The text of tokens. -/
def rw (l : List Tk) : List UInt8 := (l.map fun t => t.2.1).flatten

theorem rw_nil : rw [] = [] := rfl
theorem rw_cons (t : Tk) (l : List Tk) : rw (t :: l) = t.2.1 ++ rw l := rfl
theorem rw_app (a b : List Tk) : rw (a ++ b) = rw a ++ rw b := by unfold rw; rw [List.map_append, List.flatten_append]
theorem rw_cut (s : List UInt8) : rw (cutP s) = s := (cutP_raw _ s (Nat.le_refl _)).1
theorem raw_ne {s : List UInt8} {t : Tk} (h : t ∈ cutP s) : t.2.1 ≠ [] := (cutP_raw _ s (Nat.le_refl _)).2 t h

/-- The first tokens of a text are those of the text up to there, the others those of the rest. -/
theorem cut_split : ∀ (A B : List Tk) (s : List UInt8), cutP s = A ++ B → cutP (rw A) = A ∧ cutP (rw B) = B ∧ s = rw A ++ rw B
  | [], B, s, h => by
    have := rw_cut s
    rw [h] at this
    refine ⟨rfl, ?_, ?_⟩
    · rw [List.nil_append] at this; rw [this, h]; rfl
    · rw [List.nil_append] at this; rw [rw_nil, List.nil_append, this]
  | a :: A, B, s, h => by
    by_cases hs : s = []
    · subst hs; rw [cutP_nil] at h; cases h
    · have h1 := tok1_ok s hs
      rw [cutP_cons s hs, List.cons_append] at h
      simp only [List.cons.injEq] at h
      obtain ⟨ha, hr⟩ := h
      obtain ⟨i1, i2, i3⟩ := cut_split A B _ hr
      have hra : a.2.1 = s.take (tok1 s).2.1 := by rw [← ha]; rfl
      have hS : s = s.take (tok1 s).2.1 ++ (rw A ++ rw B) := by rw [← i3, List.take_append_drop]
      have hlen : (s.take (tok1 s).2.1).length = (tok1 s).2.1 := by rw [List.length_take]; omega
      refine ⟨?_, i2, by rw [rw_cons, hra, List.append_assoc]; exact hS⟩
      have hs' : rw (a :: A) = s.take ((tok1 s).2.1 + (rw A).length) := by
        have hS2 : s = rw (a :: A) ++ rw B := by rw [rw_cons, hra, List.append_assoc]; exact hS
        have hl2 : (rw (a :: A)).length = (tok1 s).2.1 + (rw A).length := by rw [rw_cons, hra, List.length_append, hlen]
        rw [← hl2]
        have := congrArg (List.take (rw (a :: A)).length) hS2
        rw [List.take_left' rfl] at this
        exact this.symm
      have hne : rw (a :: A) ≠ [] := by
        intro he
        have := congrArg List.length he
        rw [rw_cons, hra, List.length_append, hlen] at this
        simp at this; omega
      have ht : tok1 (rw (a :: A)) = tok1 s := by rw [hs']; exact tok1_take s hs _ (by omega)
      rw [cutP_cons _ hne, ht]
      have e1 : (rw (a :: A)).drop (tok1 s).2.1 = rw A := by rw [rw_cons, hra, List.drop_left' hlen]
      have e2 : tokO (rw (a :: A)) (tok1 s) = a := by
        have h3 : (rw (a :: A)).take (tok1 s).2.1 = s.take (tok1 s).2.1 := by rw [rw_cons, hra, List.take_left' hlen]
        have h4 : tokO (rw (a :: A)) (tok1 s) = tokO s (tok1 s) := by unfold tokO; rw [h3]
        rw [h4, ha]
      rw [e1, e2, i1]

theorem cut_seg {A R B : List Tk} {s : List UInt8} (h : cutP s = A ++ R ++ B) : cutP (rw R) = R := by
  have h1 := (cut_split (A ++ R) B s h).1
  exact (cut_split A R _ h1).2.1

/-- A list of tokens that is what its text is cut into. -/
def Cut (l : List Tk) : Prop := cutP (rw l) = l

theorem Cut.of (s : List UInt8) : Cut (cutP s) := by unfold Cut; rw [rw_cut]
theorem Cut.left {a b : List Tk} (h : Cut (a ++ b)) : Cut a := (cut_split a b _ h).1
theorem Cut.right {a b : List Tk} (h : Cut (a ++ b)) : Cut b := (cut_split a b _ h).2.1
theorem Cut.ne {l : List Tk} (h : Cut l) {t : Tk} (ht : t ∈ l) : t.2.1 ≠ [] := by
  unfold Cut at h
  rw [← h] at ht
  exact raw_ne ht

def silT (t : Tk) : Bool := t.1 == 8 || t.1 == 9
def SP : Tk := (8, [32], [], 0)

/-- Tokens with one blank for all blanks and remarks in a row, and none at the ends. -/
def nrmF : Nat → List Tk → List Tk
  | 0, _ => []
  | n + 1, l => match l.dropWhile silT with
    | [] => []
    | t :: r => ((t :: r).takeWhile fun t => !silT t) ++ match nrmF n ((t :: r).dropWhile fun t => !silT t) with
      | [] => []
      | m => SP :: m

def nrm (l : List Tk) : List Tk := nrmF (l.length + 1) l

theorem drop_le {α : Type} (p : α → Bool) (l : List α) : (l.dropWhile p).length ≤ l.length := (List.dropWhile_sublist p).length_le

theorem nrmF_more : ∀ (n m : Nat) (l : List Tk), l.length < n → n ≤ m → nrmF m l = nrmF n l
  | 0, m, l, h, _ => by omega
  | n + 1, 0, l, _, h => by omega
  | n + 1, m + 1, l, h, hm => by
    unfold nrmF
    cases hd : l.dropWhile silT with
    | nil => rfl
    | cons t r =>
      have h1 := drop_le silT l
      rw [hd] at h1
      have h2 : ((t :: r).dropWhile fun t => !silT t).length < (t :: r).length := by
        have ht : silT t = false := by
          have := List.head?_dropWhile_not silT l
          rw [hd] at this
          simpa using this
        rw [List.dropWhile_cons, ht]
        simp only [Bool.not_false, if_true]
        have := drop_le (fun t => !silT t) r
        simp only [List.length_cons]; omega
      simp only
      rw [nrmF_more n m _ (by omega) (by omega)]

theorem mem_tw {α : Type} {p : α → Bool} {l : List α} {u : α} (h : u ∈ l.takeWhile p) : p u = true := by
  induction l with
  | nil => cases h
  | cons a l ih =>
    rw [List.takeWhile_cons] at h
    split at h
    · next hp => rcases List.mem_cons.1 h with e | e
                 · rw [e]; exact hp
                 · exact ih e
    · cases h

/-- How a list of tokens goes on: blanks, a run of others, the rest. -/
theorem parts (l : List Tk) : l.dropWhile silT = [] ∨ ∃ S R r, l = S ++ R ++ r ∧ (∀ t ∈ S, silT t = true) ∧ R ≠ [] ∧ (∀ t ∈ R, silT t = false) ∧ (r = [] ∨ ∃ u r', r = u :: r' ∧ silT u = true) ∧
    nrm l = R ++ match nrm r with
      | [] => []
      | m => SP :: m := by
  cases hd : l.dropWhile silT with
  | nil => exact .inl rfl
  | cons t r =>
    right
    have ht : silT t = false := by
      have := List.head?_dropWhile_not silT l
      rw [hd] at this
      simpa using this
    refine ⟨l.takeWhile silT, (t :: r).takeWhile fun t => !silT t, (t :: r).dropWhile fun t => !silT t, ?_, ?_, ?_, ?_, ?_, ?_⟩
    · rw [List.append_assoc, List.takeWhile_append_dropWhile, ← hd, List.takeWhile_append_dropWhile]
    · intro u hu; exact mem_tw hu
    · rw [List.takeWhile_cons, ht]; simp
    · intro u hu; have := mem_tw hu; simpa using this
    · cases hr : (t :: r).dropWhile fun t => !silT t with
      | nil => exact .inl rfl
      | cons u r' =>
        refine .inr ⟨u, r', rfl, ?_⟩
        have := List.head?_dropWhile_not (fun t => !silT t) (t :: r)
        rw [hr] at this
        simpa using this
    · have h1 := drop_le silT l
      rw [hd] at h1
      have h2 : ((t :: r).dropWhile fun t => !silT t).length < (t :: r).length := by
        rw [List.dropWhile_cons, ht]
        simp only [Bool.not_false, if_true]
        have := drop_le (fun t => !silT t) r
        simp only [List.length_cons]; omega
      have e : nrm l = ((t :: r).takeWhile fun t => !silT t) ++ match nrmF l.length ((t :: r).dropWhile fun t => !silT t) with
          | [] => []
          | m => SP :: m := by
        unfold nrm
        rw [nrmF, hd]
      rw [e]
      have e2 : nrm ((t :: r).dropWhile fun t => !silT t) = nrmF l.length ((t :: r).dropWhile fun t => !silT t) := by
        unfold nrm
        exact (nrmF_more _ _ _ (Nat.lt_succ_self _) (by omega)).symm
      rw [e2]

theorem nrm_sil (l : List Tk) (h : l.dropWhile silT = []) : nrm l = [] := by
  unfold nrm; rw [nrmF, h]

end Go.Ev.Tok

-- from EvTkF
set_option linter.unusedVariables false
set_option linter.unusedSimpArgs false
namespace Go.Ev.Tok

def opT (t : Tk) : Bool := t.1 == 10 || t.1 == 2
def clT (t : Tk) : Bool := t.1 == 11
def badT (t : Tk) : Bool := t.1 == 6
def atT (t : Tk) : Bool := t.1 == 3
def rawT (t : Tk) (k : Int) (s : List UInt8) : Bool := t.1 == k && t.2.1 == s
def semT (t : Tk) : Bool := rawT t 12 [59]
def colT (t : Tk) : Bool := rawT t 12 [58]
def mrkT (t : Tk) : Bool := rawT t 12 [33]
def brcT (t : Tk) : Bool := rawT t 10 [123]
def fldT (t : Tk) (s : List UInt8) : Bool := t.2.2.1.map lowB == s.map lowB

/-- What closes what a token opens. -/
def clo (t : Tk) : List UInt8 := bif t.2.1.getLastD 0 == 91 then [93] else bif t.2.1.getLastD 0 == 123 then [125] else [41]

/-- Behind what opens: how many tokens up to where all is closed, and if it is. -/
def blk : List (List UInt8) → List Tk → Nat × Bool
  | _, [] => (0, false)
  | w, t :: r =>
    bif opT t then ((blk (clo t :: w) r).1 + 1, (blk (clo t :: w) r).2)
    else bif clT t && t.2.1 == w.headD [] then
      bif w.tail.isEmpty then (1, true) else ((blk w.tail r).1 + 1, (blk w.tail r).2)
    else ((blk w r).1 + 1, (blk w r).2)

/-- How many tokens are ahead of the first one outside of blocks for which it is so. -/
def fnd (p : Tk → Bool) : Nat → List Tk → Nat
  | 0, _ => 0
  | _ + 1, [] => 0
  | n + 1, t :: r => bif p t then 0 else bif opT t then (blk [clo t] r).1 + 1 + fnd p n (r.drop (blk [clo t] r).1) else fnd p n r + 1

/-- May a value be so? -/
def fair : Nat → List Tk → Bool
  | 0, _ => false
  | _ + 1, [] => true
  | n + 1, t :: r =>
    bif badT t || brcT t || clT t then false
    else bif opT t then (blk [clo t] r).2 && (fair n (r.take ((blk [clo t] r).1 - 1)) && fair n (r.drop (blk [clo t] r).1))
    else fair n r

def trimE (l : List Tk) : List Tk := (l.reverse.dropWhile silT).reverse
def sol (l : List Tk) : List Tk := trimE (l.dropWhile silT)

def word : List UInt8 := [105, 109, 112, 111, 114, 116, 97, 110, 116]

def imp (l : List Tk) : List Tk × Bool :=
  match (sol l).getLast? with
  | none => (sol l, false)
  | some t => bif t.1 != 1 || !fldT t word then (sol l, false) else
    match (sol (sol l).dropLast).getLast? with
    | none => (sol l, false)
    | some m => bif mrkT m then (sol (sol (sol l).dropLast).dropLast, true) else (sol l, false)

def plainP (s : List UInt8) : Bool := match cutP s with
  | [t] => t.1 == 1 && t.2.2.1 == s && t.2.1 == s
  | _ => false

def ownP (s : List UInt8) : Bool := [45, 45].isPrefixOf s
def nmP (s : List UInt8) : List UInt8 := bif ownP s then s else s.map lowB

/-- The text of tokens, one blank for all blanks and remarks in a row. -/
def hdP : Bool → Bool → List Tk → List UInt8
  | _, _, [] => []
  | any, gap, t :: r => bif silT t then hdP any any r else (bif gap then [32] else []) ++ t.2.1 ++ hdP true false r

abbrev Dc := List UInt8 × List UInt8 × Bool

theorem tx_val (q : UInt8) : ∀ s : List UInt8, (tx q s).2.2.length ≤ (tx q s).2.1
  | [] => by simp [tx]
  | [c] => by unfold tx; cases (c == q) <;> cases (c == 10) <;> simp
  | c :: d :: r => by
    have h1 := tx_val q r
    have h2 := tx_val q (d :: r)
    unfold tx
    cases (c == q) <;> cases (c == 10) <;> cases (c == 92) <;> simp at h2 ⊢ <;> omega

theorem tok1_val (s : List UInt8) : (tok1 s).2.2.1.length ≤ (tok1 s).2.1 := by
  have t1 := tx_val (s.getD 0 0) (s.drop 1)
  have n1 := nm_len (s.drop 1)
  have n2 := nm_len (s.drop (nlen s))
  have n3 := nm_len s
  unfold tok1
  split
  · simp
  cases (hd1 s 47 && hd1 (s.drop 1) 42)
  · cases (hd1 s 39 || hd1 s 34)
    · cases (hd1 s 35 && decide (1 < s.length) && (isSg (s.getD 1 0) || esc (s.drop 1)))
      · cases (hd1 s 64 && bg (s.drop 1))
        · simp only [cond_false]
          split
          · unfold numT
            cases hd1 (s.drop (nlen s)) 37 <;> cases bg (s.drop (nlen s)) <;> simp only [cond_true, cond_false, List.length_nil, List.length_map, List.length_cons] <;> omega
          · cases bg s
            · simp
            · unfold nameT
              cases hd1 (s.drop (nm s).2) 40 <;> simp only [cond_true, cond_false, List.length_nil, List.length_map, List.length_cons] <;> omega
        · simp only [cond_true, cond_false]; omega
      · simp only [cond_true, cond_false]; omega
    · cases (tx (s.getD 0 0) (s.drop 1)).1 <;> simp only [cond_true, cond_false, List.length_nil, List.length_map, List.length_cons] <;> omega
  · simp

theorem cut_val : ∀ (n : Nat) (s : List UInt8), s.length ≤ n → ∀ t ∈ cutP s, t.2.2.1.length ≤ t.2.1.length
  | 0, s, h, t, ht => by
    have : s = [] := List.length_eq_zero_iff.1 (by omega)
    subst this
    simp [cutP_nil] at ht
  | n + 1, s, h, t, ht => by
    by_cases hs : s = []
    · subst hs
      simp [cutP_nil] at ht
    · have h1 := tok1_ok s hs
      rw [cutP_cons s hs] at ht
      rcases List.mem_cons.1 ht with e | e
      · rw [e]
        show (tok1 s).2.2.1.length ≤ (s.take (tok1 s).2.1).length
        have := tok1_val s
        rw [List.length_take]; omega
      · exact cut_val n _ (by rw [List.length_drop]; omega) t e

theorem blk_len : ∀ (l : List Tk) (w : List (List UInt8)), (blk w l).1 ≤ l.length
  | [], w => by simp [blk]
  | t :: r, w => by
    unfold blk
    cases opT t with
    | true => simp only [cond_true, List.length_cons]; have := blk_len r (clo t :: w); omega
    | false =>
      simp only [cond_false]
      cases (clT t && t.2.1 == w.headD []) with
      | false => simp only [cond_false, List.length_cons]; have := blk_len r w; omega
      | true =>
        simp only [cond_true]
        cases w.tail.isEmpty with
        | true => simp
        | false => simp only [cond_false, List.length_cons]; have := blk_len r w.tail; omega

/-- Where a block is not closed it goes to the end. -/
theorem blk_open : ∀ (l : List Tk) (w : List (List UInt8)), (blk w l).2 = false → (blk w l).1 = l.length
  | [], w, _ => by simp [blk]
  | t :: r, w, h => by
    unfold blk at h ⊢
    cases ho : opT t with
    | true => rw [ho] at h; simp only [cond_true, List.length_cons] at h ⊢; rw [blk_open r _ h]
    | false =>
      rw [ho] at h
      simp only [cond_false] at h ⊢
      cases hc : (clT t && t.2.1 == w.headD []) with
      | false => rw [hc] at h; simp only [cond_false, List.length_cons] at h ⊢; rw [blk_open r _ h]
      | true =>
        rw [hc] at h
        simp only [cond_true] at h ⊢
        cases hw : w.tail.isEmpty with
        | true => rw [hw] at h; simp at h
        | false => rw [hw] at h; simp only [cond_false, List.length_cons] at h ⊢; rw [blk_open r _ h]

theorem blk_pos : ∀ (l : List Tk) (w : List (List UInt8)), (blk w l).2 = true → 1 ≤ (blk w l).1
  | [], w, h => by simp [blk] at h
  | t :: r, w, h => by
    unfold blk
    cases opT t with
    | true => simp only [cond_true]; omega
    | false =>
      simp only [cond_false]
      cases (clT t && t.2.1 == w.headD []) with
      | false => simp only [cond_false]; omega
      | true =>
        simp only [cond_true]
        cases w.tail.isEmpty with
        | true => simp
        | false => simp only [cond_false]; omega

theorem fair_more : ∀ (n m : Nat) (l : List Tk), l.length < n → n ≤ m → fair m l = fair n l
  | 0, m, l, h, _ => by omega
  | n + 1, 0, l, _, h => by omega
  | n + 1, m + 1, [], h, hm => rfl
  | n + 1, m + 1, t :: r, h, hm => by
    simp only [List.length_cons] at h
    rw [fair, fair]
    have hb := blk_len r [clo t]
    rw [fair_more n m (r.take ((blk [clo t] r).1 - 1)) (by rw [List.length_take]; omega) (by omega), fair_more n m (r.drop (blk [clo t] r).1) (by rw [List.length_drop]; omega) (by omega), fair_more n m r (by omega) (by omega)]

theorem fnd_more (p : Tk → Bool) : ∀ (n m : Nat) (l : List Tk), l.length < n → n ≤ m → fnd p m l = fnd p n l
  | 0, m, l, h, _ => by omega
  | n + 1, 0, l, _, h => by omega
  | n + 1, m + 1, [], h, hm => rfl
  | n + 1, m + 1, t :: r, h, hm => by
    simp only [List.length_cons] at h
    rw [fnd, fnd]
    have hb := blk_len r [clo t]
    rw [fnd_more p n m (r.drop (blk [clo t] r).1) (by rw [List.length_drop]; omega) (by omega), fnd_more p n m r (by omega) (by omega)]

/-- May a value be so? -/
def fairP (l : List Tk) : Bool := fair (l.length + 1) l

theorem fairP_of (n : Nat) (l : List Tk) (h : l.length < n) : fair n l = fairP l := fair_more (l.length + 1) n l (by omega) (by omega)

theorem fairP_cons (t : Tk) (r : List Tk) : fairP (t :: r) = bif badT t || brcT t || clT t then false
    else bif opT t then (blk [clo t] r).2 && (fairP (r.take ((blk [clo t] r).1 - 1)) && fairP (r.drop (blk [clo t] r).1))
    else fairP r := by
  have hb := blk_len r [clo t]
  conv => lhs; unfold fairP
  rw [List.length_cons, fair, fairP_of _ _ (by rw [List.length_take]; omega), fairP_of _ _ (by rw [List.length_drop]; omega), fairP_of _ _ (by omega)]

theorem fnd_len (p : Tk → Bool) : ∀ (n : Nat) (l : List Tk), fnd p n l ≤ l.length
  | 0, l => by simp [fnd]
  | n + 1, [] => by simp [fnd]
  | n + 1, t :: r => by
    unfold fnd
    cases p t with
    | true => simp
    | false =>
      cases opT t with
      | true =>
        simp only [cond_true, cond_false, List.length_cons]
        have := blk_len r [clo t]
        have h2 := fnd_len p n (r.drop (blk [clo t] r).1)
        simp only [List.length_drop] at h2
        omega
      | false => simp only [cond_false, List.length_cons]; have := fnd_len p n r; omega

def dcl (l : List Tk) : Option Dc :=
  match sol l with
  | [] => none
  | t :: r => bif t.1 != 1 then none else
    match sol r with
    | [] => none
    | c :: q => bif !colT c || !plainP (nmP t.2.2.1) then none else
      bif fairP (imp q).1 && (ownP t.2.2.1 || !(hdP false false (imp q).1).isEmpty) then some (nmP t.2.2.1, hdP false false (imp q).1, (imp q).2) else none

def dcls : Nat → List Tk → List Dc
  | 0, _ => []
  | _ + 1, [] => []
  | n + 1, l => (dcl (l.take (fnd semT (l.length + 1) l))).toList ++ dcls n (l.drop (fnd semT (l.length + 1) l + 1))


end Go.Ev.Tok

-- from EvTkG
set_option linter.unusedVariables false
set_option linter.unusedSimpArgs false
namespace Go.Ev.Tok

/-- One walk: with what is to be closed, is it a value, without a semicolon outside of all blocks? -/
def ok : List (List UInt8) → List Tk → Bool
  | w, [] => w.isEmpty
  | w, t :: r =>
    bif badT t || brcT t then false
    else bif opT t then ok (clo t :: w) r
    else bif clT t then !w.isEmpty && (t.2.1 == w.headD [] && ok w.tail r)
    else bif w.isEmpty && semT t then false
    else ok w r

theorem op_kind {t : Tk} (h : opT t = true) : clT t = false ∧ badT t = false ∧ silT t = false ∧ semT t = false := by
  unfold opT at h
  rw [Bool.or_eq_true, beq_iff_eq, beq_iff_eq] at h
  unfold clT badT silT semT rawT
  rcases h with h | h <;> rw [h] <;> simp

theorem cl_kind {t : Tk} (h : clT t = true) : opT t = false ∧ badT t = false ∧ silT t = false ∧ semT t = false ∧ brcT t = false := by
  unfold clT at h
  rw [beq_iff_eq] at h
  unfold opT badT silT semT brcT rawT
  rw [h]; simp

theorem sil_kind {t : Tk} (h : silT t = true) : opT t = false ∧ badT t = false ∧ clT t = false ∧ semT t = false ∧ brcT t = false ∧ colT t = false ∧ mrkT t = false ∧ atT t = false ∧ (t.1 == 1) = false := by
  unfold silT at h
  rw [Bool.or_eq_true, beq_iff_eq, beq_iff_eq] at h
  unfold opT badT clT semT brcT colT mrkT atT rawT
  rcases h with h | h <;> rw [h] <;> simp

/-- What a block ends with. -/
theorem blk_end : ∀ (q : List Tk) (w : List (List UInt8)) (c : List UInt8), (blk (w ++ [c]) q).2 = true →
    ∃ I z D, q = I ++ z :: D ∧ (blk (w ++ [c]) q).1 = I.length + 1 ∧ clT z = true ∧ z.2.1 = c
  | [], w, c, h => by simp [blk] at h
  | t :: r, w, c, h => by
    rw [blk] at h ⊢
    cases ho : opT t with
    | true =>
      rw [ho] at h
      simp only [cond_true] at h ⊢
      obtain ⟨I, z, D, h1, h2, h3, h4⟩ := blk_end r (clo t :: w) c h
      exact ⟨t :: I, z, D, by rw [h1]; rfl, by rw [List.cons_append] at h2; rw [h2]; rfl, h3, h4⟩
    | false =>
      rw [ho] at h
      simp only [cond_false] at h ⊢
      cases hc : (clT t && t.2.1 == (w ++ [c]).headD []) with
      | false =>
        rw [hc] at h
        simp only [cond_false] at h ⊢
        obtain ⟨I, z, D, h1, h2, h3, h4⟩ := blk_end r w c h
        exact ⟨t :: I, z, D, by rw [h1]; rfl, by rw [h2]; rfl, h3, h4⟩
      | true =>
        rw [hc] at h
        simp only [cond_true] at h ⊢
        rw [Bool.and_eq_true, beq_iff_eq] at hc
        match w with
        | [] => exact ⟨[], t, r, rfl, rfl, hc.1, hc.2⟩
        | [a] =>
          simp only [List.cons_append, List.nil_append, List.tail_cons, List.isEmpty_cons, cond_false] at h ⊢
          obtain ⟨I, z, D, h1, h2, h3, h4⟩ := blk_end r [] c h
          exact ⟨t :: I, z, D, by rw [h1]; rfl, by rw [List.nil_append] at h2; rw [h2]; rfl, h3, h4⟩
        | a :: b :: w' =>
          simp only [List.cons_append, List.tail_cons, List.isEmpty_cons, cond_false] at h ⊢
          obtain ⟨I, z, D, h1, h2, h3, h4⟩ := blk_end r (b :: w') c h
          exact ⟨t :: I, z, D, by rw [h1]; rfl, by rw [List.cons_append] at h2; rw [h2]; rfl, h3, h4⟩

/-- How a fair list goes on. -/
theorem fair_split {t : Tk} {q : List Tk} (h : fairP (t :: q) = true) : badT t = false ∧ brcT t = false ∧ clT t = false ∧
    (opT t = false ∧ fairP q = true ∨ opT t = true ∧ ∃ I z D, q = I ++ z :: D ∧ (blk [clo t] q).1 = I.length + 1 ∧ clT z = true ∧ z.2.1 = clo t ∧ fairP I = true ∧ fairP D = true) := by
  rw [fairP_cons] at h
  cases hb : badT t with
  | true => rw [hb] at h; simp at h
  | false =>
    cases hc : brcT t with
    | true => rw [hb, hc] at h; simp at h
    | false =>
      cases hq : clT t with
      | true => rw [hb, hc, hq] at h; simp at h
      | false =>
        rw [hb, hc, hq] at h
        simp only [Bool.or_false, cond_false] at h
        refine ⟨rfl, rfl, rfl, ?_⟩
        cases ho : opT t with
        | false => rw [ho, cond_false] at h; exact .inl ⟨rfl, h⟩
        | true =>
          rw [ho, cond_true, Bool.and_eq_true, Bool.and_eq_true] at h
          obtain ⟨I, z, D, h1, h2, h3, h4⟩ := blk_end q [] (clo t) h.1
          rw [List.nil_append] at h2
          refine .inr ⟨rfl, I, z, D, h1, h2, h3, h4, ?_, ?_⟩
          · have := h.2.1
            rw [h2, h1, Nat.add_sub_cancel, List.take_left' rfl] at this
            exact this
          · have := h.2.2
            rw [h2, h1] at this
            have e : (I ++ z :: D).drop (I.length + 1) = D := by
              rw [show I ++ z :: D = (I ++ [z]) ++ D by simp, List.drop_left' (by simp)]
            rwa [e] at this

/-- A fair list between changes nothing of what is to be closed. -/
theorem ok_fair : ∀ (n : Nat) (i : List Tk), i.length ≤ n → fairP i = true → ∀ (w : List (List UInt8)) (r : List Tk), w ≠ [] → ok w (i ++ r) = ok w r
  | 0, i, h, _, w, r, _ => by
    have : i = [] := List.length_eq_zero_iff.1 (by omega)
    subst this; rfl
  | n + 1, [], h, _, w, r, _ => rfl
  | n + 1, t :: q, h, hf, w, r, hw => by
    obtain ⟨h1, h2, h3, h4⟩ := fair_split hf
    simp only [List.length_cons] at h
    have hwe : w.isEmpty = false := by cases w with
      | nil => exact absurd rfl hw
      | cons a b => rfl
    rw [List.cons_append, ok, h1, h2]
    simp only [Bool.or_false, cond_false]
    rcases h4 with ⟨h5, h6⟩ | ⟨h5, I, z, D, h6, h7, h8, h9, h10, h11⟩
    · rw [h5, h3, hwe]
      simp only [Bool.false_and, cond_false]
      exact ok_fair n q (by omega) h6 w r hw
    · rw [h5, cond_true]
      have hl := congrArg List.length h6
      simp only [List.length_append, List.length_cons] at hl
      obtain ⟨c1, c2, c3, c4, c5⟩ := cl_kind h8
      rw [h6, List.append_assoc, List.cons_append, ok_fair n I (by omega) h10 _ _ (by simp), ok, c2, c5, c1, h8]
      simp only [Bool.or_false, cond_false, cond_true, List.isEmpty_cons, Bool.not_false, List.headD_cons, List.tail_cons, h9, beq_self_eq_true, Bool.true_and]
      exact ok_fair n D (by omega) h11 w r hw

/-- A fair list ahead is walked over by a block's end. -/
theorem blk_fair : ∀ (n : Nat) (i : List Tk), i.length ≤ n → fairP i = true → ∀ (w : List (List UInt8)) (r : List Tk), w ≠ [] → blk w (i ++ r) = (i.length + (blk w r).1, (blk w r).2)
  | 0, i, h, _, w, r, _ => by
    have : i = [] := List.length_eq_zero_iff.1 (by omega)
    subst this; simp
  | n + 1, [], h, _, w, r, _ => by simp
  | n + 1, t :: q, h, hf, w, r, hw => by
    obtain ⟨h1, h2, h3, h4⟩ := fair_split hf
    simp only [List.length_cons] at h
    rw [List.cons_append, blk]
    rcases h4 with ⟨h5, h6⟩ | ⟨h5, I, z, D, h6, h7, h8, h9, h10, h11⟩
    · rw [h5, h3]
      simp only [Bool.false_and, cond_false]
      rw [blk_fair n q (by omega) h6 w r hw, List.length_cons]
      simp only [Prod.mk.injEq, and_true]
      omega
    · rw [h5, cond_true]
      have hl := congrArg List.length h6
      simp only [List.length_append, List.length_cons] at hl
      obtain ⟨c1, c2, c3, c4, c5⟩ := cl_kind h8
      have e : blk (clo t :: w) (q ++ r) = (I.length + 1 + D.length + (blk w r).1, (blk w r).2) := by
        rw [h6, List.append_assoc, List.cons_append, blk_fair n I (by omega) h10 _ _ (by simp), blk, c1, h8]
        have hwt : (clo t :: w).tail.isEmpty = false := by cases w with
          | nil => exact absurd rfl hw
          | cons a b => rfl
        rw [hwt]
        simp only [cond_false, List.headD_cons, h9, beq_self_eq_true, Bool.and_self, cond_true, List.tail_cons]
        rw [blk_fair n D (by omega) h11 w r hw]
        simp only [Prod.mk.injEq, and_true]
        omega
      rw [e, List.length_cons]
      simp only [Prod.mk.injEq, and_true]
      omega

theorem blk_at {I : List Tk} {z : Tk} {c : List UInt8} (hf : fairP I = true) (hz : clT z = true) (hc : z.2.1 = c) (X : List Tk) : blk [c] (I ++ z :: X) = (I.length + 1, true) := by
  obtain ⟨c1, c2, c3, c4, c5⟩ := cl_kind hz
  rw [blk_fair _ I (Nat.le_refl _) hf _ _ (by simp), blk, c1, hz, hc]
  simp

theorem fair_blk {t z : Tk} {I D : List Tk} (h1 : badT t = false) (h2 : brcT t = false) (h5 : opT t = true) (hz : clT z = true) (hc : z.2.1 = clo t) (hI : fairP I = true) (hD : fairP D = true) : fairP (t :: (I ++ z :: D)) = true := by
  have e : (I ++ z :: D).drop (I.length + 1) = D := by
    rw [show I ++ z :: D = (I ++ [z]) ++ D by simp, List.drop_left' (by simp)]
  rw [fairP_cons, h1, h2, (op_kind h5).1, h5, blk_at hI hz hc, Nat.add_sub_cancel, List.take_left' rfl, e, hI, hD]
  rfl

/-- Where the semicolon is that ends a fair list. -/
theorem fnd_fair (p : Tk → Bool) : ∀ (n : Nat) (v : List Tk), v.length ≤ n → fairP v = true → ∀ (m : Nat) (Y : List Tk), v.length ≤ fnd p m (v ++ Y) → v.length + Y.length < m → ∀ (Z : List Tk) (k : Nat), v.length + Z.length < k → fnd p k (v ++ Z) = v.length + fnd p k Z
  | 0, v, h, _, m, Y, _, _, Z, k, _ => by
    have : v = [] := List.length_eq_zero_iff.1 (by omega)
    subst this; simp
  | n + 1, [], h, _, m, Y, _, _, Z, k, _ => by simp
  | n + 1, t :: q, h, hf, 0, Y, hm, hm2, Z, k, hk => by omega
  | n + 1, t :: q, h, hf, m + 1, Y, hm, hm2, Z, 0, hk => by omega
  | n + 1, t :: q, h, hf, m + 1, Y, hm, hm2, Z, k + 1, hk => by
    obtain ⟨h1, h2, h3, h4⟩ := fair_split hf
    simp only [List.length_cons] at h hm hm2 hk ⊢
    rw [List.cons_append, fnd] at hm
    rw [List.cons_append, fnd]
    cases hpt : p t with
    | true => rw [hpt] at hm; simp at hm
    | false =>
      rw [hpt, cond_false] at hm
      rw [cond_false]
      rcases h4 with ⟨h5, h6⟩ | ⟨h5, I, z, D, h6, h7, h8, h9, h10, h11⟩
      · rw [h5, cond_false] at hm ⊢
        have := fnd_fair p n q (by omega) h6 m Y (by omega) (by omega) Z k (by omega)
        rw [this, fnd_more p k (k + 1) Z (by omega) (by omega)]
        omega
      · have hl := congrArg List.length h6
        simp only [List.length_append, List.length_cons] at hl
        have e : ∀ X : List Tk, q ++ X = I ++ z :: (D ++ X) := by intro X; rw [h6]; simp
        have e2 : ∀ X : List Tk, (I ++ z :: (D ++ X)).drop (I.length + 1) = D ++ X := by
          intro X
          rw [show I ++ z :: (D ++ X) = (I ++ [z]) ++ (D ++ X) by simp, List.drop_left' (by simp)]
        rw [h5, cond_true, e, blk_at h10 h8 h9, e2] at hm
        rw [h5, cond_true, e, blk_at h10 h8 h9, e2]
        have := fnd_fair p n D (by omega) h11 m Y (by omega) (by omega) Z k (by omega)
        rw [this, fnd_more p k (k + 1) Z (by omega) (by omega)]
        omega

/-- A value has no semicolon outside of blocks, and all that is open is closed. -/
theorem ok_of : ∀ (n : Nat) (v : List Tk), v.length ≤ n → fairP v = true → ∀ (m : Nat) (Y : List Tk), v.length ≤ fnd semT m (v ++ Y) → v.length + Y.length < m → ok [] v = true
  | 0, v, h, _, m, Y, _, _ => by
    have : v = [] := List.length_eq_zero_iff.1 (by omega)
    subst this; rfl
  | n + 1, [], h, _, m, Y, _, _ => rfl
  | n + 1, t :: q, h, hf, 0, Y, hm, hm2 => by omega
  | n + 1, t :: q, h, hf, m + 1, Y, hm, hm2 => by
    obtain ⟨h1, h2, h3, h4⟩ := fair_split hf
    simp only [List.length_cons] at h hm hm2
    rw [List.cons_append, fnd] at hm
    rw [ok, h1, h2, h3]
    simp only [Bool.or_false, cond_false, List.isEmpty_nil, Bool.true_and]
    cases hpt : semT t with
    | true => rw [hpt] at hm; simp at hm
    | false =>
      rw [hpt, cond_false] at hm
      rcases h4 with ⟨h5, h6⟩ | ⟨h5, I, z, D, h6, h7, h8, h9, h10, h11⟩
      · rw [h5, cond_false] at hm ⊢
        exact ok_of n q (by omega) h6 m Y (by omega) (by omega)
      · have hl := congrArg List.length h6
        simp only [List.length_append, List.length_cons] at hl
        have e : ∀ X : List Tk, q ++ X = I ++ z :: (D ++ X) := by intro X; rw [h6]; simp
        have e2 : ∀ X : List Tk, (I ++ z :: (D ++ X)).drop (I.length + 1) = D ++ X := by
          intro X
          rw [show I ++ z :: (D ++ X) = (I ++ [z]) ++ (D ++ X) by simp, List.drop_left' (by simp)]
        rw [h5, cond_true, e, blk_at h10 h8 h9, e2] at hm
        obtain ⟨c1, c2, c3, c4, c5⟩ := cl_kind h8
        rw [h5, cond_true, h6, ok_fair _ I (Nat.le_refl _) h10 _ _ (by simp), ok, c2, c5, c1, h8]
        simp only [Bool.or_false, cond_false, cond_true, List.isEmpty_cons, Bool.not_false, List.headD_cons, List.tail_cons, h9, beq_self_eq_true, Bool.true_and]
        exact ok_of n D (by omega) h11 m Y (by omega) (by omega)

/-- What the one walk lets through is fair, in pieces. -/
theorem of_ok : ∀ (n : Nat) (l : List Tk), l.length ≤ n → (∀ c w, ok (c :: w) l = true → ∃ i z r, l = i ++ z :: r ∧ fairP i = true ∧ clT z = true ∧ z.2.1 = c ∧ ok w r = true) ∧
    (ok [] l = true → fairP l = true ∧ ∀ (m : Nat) (Y : List Tk), l.length + Y.length < m → fnd semT m (l ++ Y) = l.length + fnd semT m Y)
  | 0, l, h => by
    have : l = [] := List.length_eq_zero_iff.1 (by omega)
    subst this
    refine ⟨fun c w h => by simp [ok] at h, fun _ => ⟨rfl, fun m Y hm => by simp⟩⟩
  | n + 1, [], h => ⟨fun c w h => by simp [ok] at h, fun _ => ⟨rfl, fun m Y hm => by simp⟩⟩
  | n + 1, t :: q, h => by
    simp only [List.length_cons] at h
    have ih := of_ok n
    have pre : ∀ w, ok w (t :: q) = true → badT t = false ∧ brcT t = false := by
      intro w ho
      rw [ok] at ho
      cases hb : badT t with
      | true => rw [hb] at ho; simp at ho
      | false =>
        cases hc : brcT t with
        | true => rw [hb, hc] at ho; simp at ho
        | false => exact ⟨rfl, rfl⟩
    constructor
    · intro c w ho
      obtain ⟨h1, h2⟩ := pre _ ho
      rw [ok, h1, h2] at ho
      simp only [Bool.or_false, cond_false, List.isEmpty_cons, Bool.not_false, Bool.true_and, List.headD_cons, List.tail_cons, Bool.false_and] at ho
      cases h5 : opT t with
      | true =>
        rw [h5, cond_true] at ho
        obtain ⟨I, z, r, e1, e2, e3, e4, e5⟩ := (ih q (by omega)).1 _ _ ho
        have hl := congrArg List.length e1
        simp only [List.length_append, List.length_cons] at hl
        obtain ⟨I2, z2, r2, f1, f2, f3, f4, f5⟩ := (ih r (by omega)).1 _ _ e5
        exact ⟨t :: (I ++ z :: I2), z2, r2, by rw [e1, f1]; simp, fair_blk h1 h2 h5 e3 e4 e2 f2, f3, f4, f5⟩
      | false =>
        rw [h5, cond_false] at ho
        cases h3 : clT t with
        | true =>
          rw [h3, cond_true, Bool.and_eq_true, beq_iff_eq] at ho
          exact ⟨[], t, q, rfl, rfl, h3, ho.1, ho.2⟩
        | false =>
          rw [h3] at ho
          simp only [cond_false] at ho
          obtain ⟨I, z, r, e1, e2, e3, e4, e5⟩ := (ih q (by omega)).1 _ _ ho
          refine ⟨t :: I, z, r, by rw [e1]; rfl, ?_, e3, e4, e5⟩
          rw [fairP_cons, h1, h2, h3, h5]
          exact e2
    · intro ho
      obtain ⟨h1, h2⟩ := pre _ ho
      rw [ok, h1, h2] at ho
      simp only [Bool.or_false, cond_false, List.isEmpty_nil, Bool.not_true, Bool.false_and, Bool.true_and] at ho
      cases h5 : opT t with
      | true =>
        rw [h5, cond_true] at ho
        obtain ⟨I, z, r, e1, e2, e3, e4, e5⟩ := (ih q (by omega)).1 _ _ ho
        have hl := congrArg List.length e1
        simp only [List.length_append, List.length_cons] at hl
        obtain ⟨f1, f2⟩ := (ih r (by omega)).2 e5
        refine ⟨by rw [e1]; exact fair_blk h1 h2 h5 e3 e4 e2 f1, ?_⟩
        intro m Y hm
        match m with
        | 0 => omega
        | m + 1 =>
          simp only [List.length_cons] at hm ⊢
          have e : q ++ Y = I ++ z :: (r ++ Y) := by rw [e1]; simp
          have e' : (I ++ z :: (r ++ Y)).drop (I.length + 1) = r ++ Y := by
            rw [show I ++ z :: (r ++ Y) = (I ++ [z]) ++ (r ++ Y) by simp, List.drop_left' (by simp)]
          rw [List.cons_append, fnd, (op_kind h5).2.2.2, h5, e, blk_at e2 e3 e4, e', f2 m Y (by omega), fnd_more semT m (m + 1) Y (by omega) (by omega)]
          simp only [cond_true, cond_false]
          omega
      | false =>
        rw [h5, cond_false] at ho
        cases h3 : clT t with
        | true => rw [h3] at ho; simp at ho
        | false =>
          rw [h3] at ho
          simp only [cond_false] at ho
          cases h6 : semT t with
          | true => rw [h6] at ho; simp at ho
          | false =>
            rw [h6] at ho
            simp only [cond_false] at ho
            obtain ⟨f1, f2⟩ := (ih q (by omega)).2 ho
            refine ⟨by rw [fairP_cons, h1, h2, h3, h5]; exact f1, ?_⟩
            intro m Y hm
            match m with
            | 0 => omega
            | m + 1 =>
              simp only [List.length_cons] at hm ⊢
              rw [List.cons_append, fnd, h6, h5, f2 m Y (by omega), fnd_more semT m (m + 1) Y (by omega) (by omega)]
              simp only [cond_false]
              omega

/-- Blanks and remarks change nothing. -/
theorem ok_filter : ∀ (l : List Tk) (w : List (List UInt8)), ok w (l.filter fun t => !silT t) = ok w l
  | [], w => rfl
  | t :: r, w => by
    rw [List.filter_cons]
    cases hs : silT t with
    | true =>
      obtain ⟨h1, h2, h3, h4, h5, _⟩ := sil_kind hs
      simp only [Bool.not_true, Bool.false_eq_true, if_false]
      rw [ok_filter r w, ok, h1, h2, h3, h4, h5]
      simp
    | false =>
      simp only [Bool.not_false, if_true]
      rw [ok, ok, ok_filter r (clo t :: w), ok_filter r w.tail, ok_filter r w]

end Go.Ev.Tok

-- from EvTkH
set_option linter.unusedVariables false
set_option linter.unusedSimpArgs false
namespace Go.Ev.Tok

def nsl (l : List Tk) : List Tk := l.filter fun t => !silT t

theorem nsl_app (a b : List Tk) : nsl (a ++ b) = nsl a ++ nsl b := List.filter_append a b
theorem nsl_sil (S : List Tk) (h : ∀ t ∈ S, silT t = true) : nsl S = [] := by
  unfold nsl
  rw [List.filter_eq_nil_iff]
  intro t ht
  rw [h t ht]; simp
theorem nsl_run (R : List Tk) (h : ∀ t ∈ R, silT t = false) : nsl R = R := by
  unfold nsl
  rw [List.filter_eq_self]
  intro t ht
  rw [h t ht]; rfl
theorem silSP : silT SP = true := rfl

theorem dw_all (S r : List Tk) (h : ∀ t ∈ S, silT t = true) : (S ++ r).dropWhile silT = r.dropWhile silT := by
  induction S with
  | nil => rfl
  | cons t S ih =>
    rw [List.cons_append, List.dropWhile_cons, h t (by simp), if_pos rfl]
    exact ih fun u hu => h u (List.mem_cons_of_mem _ hu)

theorem dw_run (R r : List Tk) (hn : R ≠ []) (h : ∀ t ∈ R, silT t = false) : (R ++ r).dropWhile silT = R ++ r := by
  cases R with
  | nil => exact absurd rfl hn
  | cons t R => rw [List.cons_append, List.dropWhile_cons, h t (by simp)]; simp

theorem all_sil (l : List Tk) (h : l.dropWhile silT = []) : ∀ t ∈ l, silT t = true := by
  have := List.takeWhile_append_dropWhile (p := silT) (l := l)
  rw [h, List.append_nil] at this
  intro t ht
  rw [← this] at ht
  exact mem_tw ht

theorem sil_dw (l : List Tk) (h : ∀ t ∈ l, silT t = true) : l.dropWhile silT = [] := by
  have := dw_all l [] h
  rwa [List.append_nil] at this

/-- In the normal form as in the list: what is neither blank nor remark. -/
theorem nsl_nrm : ∀ (n : Nat) (l : List Tk), l.length ≤ n → nsl (nrm l) = nsl l
  | n, l, hn => by
    rcases parts l with h | ⟨S, R, r, h1, h2, h3, h4, h5, h6⟩
    · rw [nrm_sil l h, nsl_sil l (all_sil l h)]; rfl
    · have hl := congrArg List.length h1
      simp only [List.length_append] at hl
      have hR : 0 < R.length := List.length_pos_iff.2 h3
      match n with
      | 0 => omega
      | n + 1 =>
        have ih := nsl_nrm n r (by omega)
        rw [h6, h1, nsl_app, nsl_app, nsl_app, nsl_sil S h2, ← ih]
        cases nrm r with
        | nil => simp
        | cons u q =>
          have : nsl (SP :: u :: q) = nsl (u :: q) := rfl
          rw [this]; simp

theorem ok_nrm (w : List (List UInt8)) (l : List Tk) : ok w (nrm l) = ok w l := by
  rw [← ok_filter (nrm l) w, ← ok_filter l w]
  have := nsl_nrm _ l (Nat.le_refl _)
  unfold nsl at this
  rw [this]

theorem nrm_hd (l : List Tk) : ∀ u q, nrm l = u :: q → silT u = false := by
  intro u q h
  rcases parts l with h0 | ⟨S, R, r, h1, h2, h3, h4, h5, h6⟩
  · rw [nrm_sil l h0] at h; cases h
  · rw [h6] at h
    cases R with
    | nil => exact absurd rfl h3
    | cons t R =>
      rw [List.cons_append] at h
      simp only [List.cons.injEq] at h
      rw [← h.1]
      exact h4 t (by simp)

theorem nrm_mem : ∀ (n : Nat) (l : List Tk), l.length ≤ n → ∀ t ∈ nrm l, t = SP ∨ t ∈ l
  | n, l, hn, t, ht => by
    rcases parts l with h | ⟨S, R, r, h1, h2, h3, h4, h5, h6⟩
    · rw [nrm_sil l h] at ht; cases ht
    · have hl := congrArg List.length h1
      simp only [List.length_append] at hl
      have hR : 0 < R.length := List.length_pos_iff.2 h3
      match n with
      | 0 => omega
      | n + 1 =>
        rw [h6] at ht
        rcases List.mem_append.1 ht with e | e
        · right; rw [h1]; simp [e]
        · have ih := nrm_mem n r (by omega) t
          cases hr : nrm r with
          | nil => rw [hr] at e; cases e
          | cons u q =>
            rw [hr] at e ih
            simp only at e
            rcases List.mem_cons.1 e with e | e
            · left; exact e
            · rcases ih e with e | e
              · left; exact e
              · right; rw [h1]; simp [e]

/-- The text of the head is that of the normal form. -/
theorem hdP_sil (S : List Tk) (h : ∀ t ∈ S, silT t = true) : ∀ (a : Bool) (r : List Tk), hdP a a (S ++ r) = hdP a a r := by
  induction S with
  | nil => intro a r; rfl
  | cons t S ih =>
    intro a r
    rw [List.cons_append, hdP, h t (by simp)]
    exact ih (fun u hu => h u (List.mem_cons_of_mem _ hu)) a r

theorem hdP_run : ∀ (R : List Tk) (r : List Tk), (∀ t ∈ R, silT t = false) → hdP true false (R ++ r) = rw R ++ hdP true false r
  | [], r, h => rfl
  | t :: R, r, h => by
    rw [List.cons_append, hdP, h t (by simp)]
    simp only [cond_false, List.nil_append]
    rw [hdP_run R r fun u hu => h u (List.mem_cons_of_mem _ hu), rw_cons, List.append_assoc]

theorem hdP_nrm : ∀ (n : Nat) (l : List Tk), l.length ≤ n → hdP false false l = rw (nrm l) ∧ hdP true true l = (match nrm l with
    | [] => []
    | m => 32 :: rw m)
  | n, l, hn => by
    rcases parts l with h | ⟨S, R, r, h1, h2, h3, h4, h5, h6⟩
    · have hs := all_sil l h
      have e := hdP_sil l hs
      rw [nrm_sil l h]
      refine ⟨?_, ?_⟩
      · have := e false []; rw [List.append_nil] at this; rw [this]; rfl
      · have := e true []; rw [List.append_nil] at this; rw [this]; rfl
    · have hl := congrArg List.length h1
      simp only [List.length_append] at hl
      have hR : 0 < R.length := List.length_pos_iff.2 h3
      match n with
      | 0 => omega
      | n + 1 =>
        obtain ⟨i1, i2⟩ := hdP_nrm n r (by omega)
        have hr : hdP true false r = (match nrm r with
            | [] => []
            | m => 32 :: rw m) := by
          rcases h5 with e | ⟨u, r', e, hu⟩
          · subst e; rfl
          · rw [← i2, e, hdP, hdP, hu]; rfl
        have hR2 : hdP true false (R ++ r) = rw (nrm l) := by
          rw [hdP_run R r h4, hr, h6, rw_app]
          cases nrm r with
          | nil => rfl
          | cons u q => rfl
        cases R with
        | nil => exact absurd rfl h3
        | cons t R =>
          have ht := h4 t (by simp)
          have hne : ∃ u q, nrm l = u :: q := ⟨_, _, by rw [h6]; rfl⟩
          obtain ⟨u, q, hq⟩ := hne
          have e : ∀ a b, hdP a b ((t :: R) ++ r) = (bif b then [32] else []) ++ rw (nrm l) := by
            intro a b
            rw [← hR2, List.cons_append, hdP, hdP, ht]
            simp only [cond_false]
            rw [List.append_assoc]
            rfl
          have h1' : l = S ++ (t :: R ++ r) := by rw [h1, List.append_assoc]
          have x1 : hdP false false l = hdP false false (S ++ (t :: R ++ r)) := by rw [← h1']
          have x2 : hdP true true l = hdP true true (S ++ (t :: R ++ r)) := by rw [← h1']
          refine ⟨?_, ?_⟩
          · rw [x1, hdP_sil S h2, e]; rfl
          · rw [x2, hdP_sil S h2, e, hq]; rfl

theorem head_nrm (l : List Tk) : hdP false false l = rw (nrm l) := (hdP_nrm _ l (Nat.le_refl _)).1

/-- Its text is cut into the normal form again. -/
theorem cut_nrm : ∀ (n : Nat) (l : List Tk), l.length ≤ n → Cut l → (∀ t ∈ l, badT t = false) → Cut (nrm l)
  | n, l, hn, hc, hb => by
    rcases parts l with h | ⟨S, R, r, h1, h2, h3, h4, h5, h6⟩
    · rw [nrm_sil l h]; exact cutP_nil
    · have hl := congrArg List.length h1
      simp only [List.length_append] at hl
      have hR : 0 < R.length := List.length_pos_iff.2 h3
      match n with
      | 0 => omega
      | n + 1 =>
        have hcl : Cut (S ++ R ++ r) := h1 ▸ hc
        have hcr : Cut r := hcl.right
        have hcR : Cut R := hcl.left.right
        have ih := cut_nrm n r (by omega) hcr (fun t ht => hb t (by rw [h1]; simp [ht]))
        cases hr : nrm r with
        | nil => rw [h6, hr]; simpa using hcR
        | cons u q =>
          rw [h6, hr]
          simp only
          unfold Cut
          have e : rw (R ++ SP :: u :: q) = rw R ++ 32 :: rw (u :: q) := by rw [rw_app, rw_cons]; rfl
          have ho : ¬ Unshut (rw R) := by
            rintro ⟨v, hv, hk⟩
            have hcR' : cutP (rw R) = R := hcR
            rw [hcR'] at hv
            have hm := List.mem_of_getLast? hv
            have q1 := h4 v hm
            have q2 := hb v (by rw [h1]; simp [hm])
            unfold silT at q1
            unfold badT at q2
            rcases hk with e | e | e <;> rw [e] at q1 q2 <;> simp at q1 q2
          have hcR' : cutP (rw R) = R := hcR
          have ihr : cutP (rw (u :: q)) = u :: q := by rw [hr] at ih; exact ih
          have hu := nrm_hd r u q hr
          have hne : rw (u :: q) ≠ [] := by intro e; rw [e, cutP_nil] at ihr; cases ihr
          have hk : (tok1 (rw (u :: q))).1 ≠ 8 := by
            have := ihr
            rw [cutP_cons _ hne] at this
            simp only [List.cons.injEq] at this
            have e : (tok1 (rw (u :: q))).1 = u.1 := by
              have := congrArg (fun x : Tk => x.1) this.1
              exact this
            rw [e]
            intro e8
            unfold silT at hu
            rw [e8] at hu
            simp at hu
          rw [e, cut_apart _ _ _ (Nat.le_refl _) ho, cut_blank _ (blank_of _ hne hk), hcR', ihr]
          rfl

end Go.Ev.Tok

-- from EvVaT
-- from EvVpT
set_option linter.unusedVariables false
set_option linter.unusedSimpArgs false
set_option linter.constructorNameAsVariable false
set_option maxRecDepth 100000
namespace Go.Ev.Va
open Go.Ev Go.Ev.Tok

theorem starts_eq (k : Nat) (c : UInt8) : csstok_starts k (c.toNat : Int) = some (isSt c) := by
  have h : ∀ n : Fin 256, csstok_starts 0 ((n.val : Nat) : Int) = some (isSt (UInt8.ofNat n.val)) := by decide +kernel
  have := h ⟨c.toNat, c.toNat_lt⟩
  show csstok_starts 0 _ = _
  simpa using this

theorem digit_eq (k : Nat) (c : UInt8) : csstok_digit k (c.toNat : Int) = some (isDig c) := by
  have h : ∀ n : Fin 256, csstok_digit 0 ((n.val : Nat) : Int) = some (isDig (UInt8.ofNat n.val)) := by decide +kernel
  have := h ⟨c.toNat, c.toNat_lt⟩
  show csstok_digit 0 _ = _
  simpa using this

theorem byte_eq (c d : UInt8) : (((c.toNat : Nat) : Int) == ((d.toNat : Nat) : Int)) = (c == d) := by
  by_cases h : c = d
  · subst h; simp
  · have h2 : c.toNat ≠ d.toNat := fun e => h (UInt8.toNat_inj.1 e)
    have e1 : (((c.toNat : Nat) : Int) == ((d.toNat : Nat) : Int)) = false := by simp; omega
    have e2 : (c == d) = false := by simpa using h
    rw [e1, e2]

theorem sign_eq (k : Nat) (c : UInt8) : csstok_sign k (c.toNat : Int) = some (isSg c) := by
  unfold csstok_sign isSg
  simp only [starts_eq, digit_eq, Option.bind_some]
  have e : (((c.toNat : Nat) : Int) == (45 : Int)) = (c == 45) := byte_eq c 45
  rw [e]
  cases isSt c <;> simp

theorem get_at (s : List UInt8) (i : Nat) (c : UInt8) (r : List UInt8) (h : s.drop i = c :: r) : i < s.length ∧ s.getD i 0 = c ∧ s.drop (i + 1) = r := by
  have hi : i < s.length := by
    rcases Nat.lt_or_ge i s.length with h1 | h1
    · exact h1
    · rw [List.drop_eq_nil_of_le h1] at h; cases h
  rw [List.drop_eq_getElem_cons hi] at h
  simp only [List.cons.injEq] at h
  exact ⟨hi, by rw [List.getD_eq_getElem?_getD, List.getElem?_eq_getElem hi]; simpa using h.1, h.2⟩

theorem escape_eq (k : Nat) (s : List UInt8) : csstok_escape k s = some (esc s) := by
  unfold csstok_escape
  match s with
  | [] => rfl
  | [a] => simp [esc]
  | a :: b :: r =>
    have e1 : (((a.toNat : Nat) : Int) == (92 : Int)) = (a == 92) := byte_eq a 92
    have e2 : (((b.toNat : Nat) : Int) != (10 : Int)) = (b != 10) := by
      show (!(((b.toNat : Nat) : Int) == (10 : Int))) = !(b == 10)
      rw [show (((b.toNat : Nat) : Int) == (10 : Int)) = (b == 10) from byte_eq b 10]
    have h1 : decide (((a :: b :: r).length : Int) > 1) = true := by simp; omega
    have h2 : decide (0 ≤ (0 : Int) ∧ (0 : Int) < ((a :: b :: r).length : Int)) = true := by simp; omega
    have h3 : decide (0 ≤ (1 : Int) ∧ (1 : Int) < ((a :: b :: r).length : Int)) = true := by simp; omega
    simp only [h1, h2, h3, Bool.true_or, cond_true]
    show some (cond (((a.toNat : Nat) : Int) == (92 : Int)) (((b.toNat : Nat) : Int) != (10 : Int)) false) = _
    rw [e1, e2]
    simp only [esc]
    cases (a == 92) <;> rfl

theorem wByte_at (s : List UInt8) (c : UInt8) (h : s.length < 100000000) : wByte s ((c.toNat : Nat) : Int) = some (s ++ [c]) := wByte_ok s c (by unfold blMax; omega)

theorem name_loop (k : Nat) (s : List UInt8) (hs : s.length ≤ 10000000) : ∀ (n i : Nat) (acc : List UInt8), i ≤ s.length → s.length - i < n → acc.length ≤ i →
    csstok_name.c7 k n s (i : Int) acc (fun (y17 : Int) (y18 : List UInt8) => (f__strings_Builder__String k y18).bind fun r19 => some (r19.1, y17)) = some (acc ++ (nm (s.drop i)).1, ((i + (nm (s.drop i)).2 : Nat) : Int))
  | 0, i, acc, _, h, _ => by omega
  | n + 1, i, acc, h1, h2, h3 => by
    rw [csstok_name.c7]
    match hd : s.drop i with
    | [] =>
      have : ¬ (i : Int) < (s.length : Int) := by
        intro hlt
        have : s.drop i ≠ [] := by simp; omega
        exact this hd
      simp only []
      rw [cond_ndec this]
      simp [f__strings_Builder__String, nm]
    | c :: r =>
      obtain ⟨g1, g2, g3⟩ := get_at s i c r hd
      have l1 : (i : Int) < (s.length : Int) := by omega
      have l2 : 0 ≤ (i : Int) ∧ (i : Int) ≤ (s.length : Int) := by omega
      have l3 : 0 ≤ (i : Int) ∧ (i : Int) < (s.length : Int) := by omega
      have w1 : IntKind.wrap .i64 ((i : Int) + 1) = ((i + 1 : Nat) : Int) := wrap_i64 (by omega) (by omega)
      have w2 : IntKind.wrap .i64 ((i : Int) + 2) = ((i + 2 : Nat) : Int) := wrap_i64 (by omega) (by omega)
      simp only [w1, w2, Int.toNat_natCast, g2]
      rw [cond_dec l1, cond_dec l2, escape_eq]
      simp only [Option.bind_some]
      match r, g3 with
      | [], g3 =>
        simp only [esc, cond_false, sign_eq, Option.bind_some, f__strings_Builder__WriteByte, wByte_at acc c (by omega)]
        rw [cond_dec l3]
        cases hsg : isSg c with
        | true =>
          simp only [cond_true]
          rw [cond_dec l3, name_loop k s hs n (i + 1) (acc ++ [c]) (by omega) (by omega) (by simp; omega), g3]
          simp [nm, hsg]
        | false => simp [nm, hsg, f__strings_Builder__String]
      | d :: r', g3 =>
        obtain ⟨g4, g5, g6⟩ := get_at s (i + 1) d r' g3
        simp only [esc]
        cases he : (c == 92 && d != 10) with
        | true =>
          simp only [cond_true, g5, f__strings_Builder__WriteByte, wByte_at acc d (by omega), Option.bind_some]
          rw [cond_dec (by omega), name_loop k s hs n (i + 2) (acc ++ [d]) (by omega) (by omega) (by simp; omega), g6]
          simp [nm, he]
          omega
        | false =>
          simp only [cond_false, sign_eq, Option.bind_some, f__strings_Builder__WriteByte, wByte_at acc c (by omega)]
          rw [cond_dec l3]
          cases hsg : isSg c with
          | true =>
            simp only [cond_true]
            rw [cond_dec l3, name_loop k s hs n (i + 1) (acc ++ [c]) (by omega) (by omega) (by simp; omega), g3]
            simp [nm, he, hsg]
            omega
          | false => simp [nm, he, hsg, f__strings_Builder__String]

theorem name_eq (k : Nat) (s : List UInt8) (hs : s.length ≤ 10000000) (hk : s.length < k) : csstok_name k s = some ((nm s).1, ((nm s).2 : Int)) := by
  unfold csstok_name
  have := name_loop k s hs k 0 [] (by omega) (by omega) (by simp)
  simpa using this

theorem bne_eq (c d : UInt8) : (((c.toNat : Nat) : Int) != ((d.toNat : Nat) : Int)) = (c != d) := by
  show (!(((c.toNat : Nat) : Int) == ((d.toNat : Nat) : Int))) = !(c == d)
  rw [byte_eq]

theorem begins_eq (k : Nat) (s : List UInt8) : csstok_begins k s = some (bg s) := by
  unfold csstok_begins
  match s with
  | [] => rfl
  | [a] =>
    have h1 : (([a] : List UInt8) == []) = false := rfl
    have e1 : (((a.toNat : Nat) : Int) == (45 : Int)) = (a == 45) := byte_eq a 45
    have e2 : decide ((([a] : List UInt8).length : Int) > 1) = false := by simp
    have e3 : (cond (a == 45) false false) = false := by cases (a == 45) <;> rfl
    have d0 : decide (0 ≤ (0 : Int) ∧ (0 : Int) < (([a] : List UInt8).length : Int)) = true := by simp
    have g0 : ([a] : List UInt8).getD (0 : Int).toNat 0 = a := rfl
    simp only [h1, cond_false, d0, g0, e1, e2, e3, cond_true, starts_eq, escape_eq, Option.bind_some, esc, bg]
    cases isSt a <;> rfl
  | a :: b :: r =>
    have h1 : ((a :: b :: r) == ([] : List UInt8)) = false := rfl
    have e1 : (((a.toNat : Nat) : Int) == (45 : Int)) = (a == 45) := byte_eq a 45
    have e4 : (((b.toNat : Nat) : Int) == (45 : Int)) = (b == 45) := byte_eq b 45
    have d0 : decide (0 ≤ (0 : Int) ∧ (0 : Int) < ((a :: b :: r).length : Int)) = true := by simp; omega
    have d1 : decide (0 ≤ (1 : Int) ∧ (1 : Int) < ((a :: b :: r).length : Int)) = true := by simp; omega
    have d2 : decide (0 ≤ (1 : Int) ∧ (1 : Int) ≤ ((a :: b :: r).length : Int)) = true := by simp; omega
    have d3 : decide (((a :: b :: r).length : Int) > 1) = true := by simp; omega
    have g0 : (a :: b :: r).getD (0 : Int).toNat 0 = a := rfl
    have g1 : (a :: b :: r).getD (1 : Int).toNat 0 = b := rfl
    have g2 : (a :: b :: r).drop (1 : Int).toNat = b :: r := rfl
    simp only [h1, cond_false, d0, d1, d2, d3, g0, g1, g2, e1, e4, cond_true, Bool.true_or, starts_eq, escape_eq, Option.bind_some, bg]
    cases (a == 45) <;> cases (b == 45) <;> cases (isSt a) <;> cases (isSt b) <;> simp

theorem str_ret (k : Nat) (s : List UInt8) : f__strings_Builder__String k s = some (s, s) := rfl

theorem text_loop (k : Nat) (s : List UInt8) (q : UInt8) (hs : s.length ≤ 10000000) (h0 : 0 < s.length) (hq : s.getD 0 0 = q) : ∀ (n i : Nat) (acc : List UInt8), i ≤ s.length → s.length - i < n → acc.length ≤ i →
    csstok_text.c7 k n s (i : Int) 0 [] [] 0 acc (fun (y23 : List UInt8) (y24 : Int) (y25 : List UInt8) (y26 : List UInt8) (y27 : Int) => some ((6 : Int), y23, [], (0 : Int))) =
      some (bif (tx q (s.drop i)).1 then ((5 : Int), s.take (i + (tx q (s.drop i)).2.1), acc ++ (tx q (s.drop i)).2.2, (0 : Int)) else ((6 : Int), s.take (i + (tx q (s.drop i)).2.1), [], (0 : Int)))
  | 0, i, acc, _, h, _ => by omega
  | n + 1, i, acc, h1, h2, h3 => by
    rw [csstok_text.c7]
    match hd : s.drop i with
    | [] =>
      have hi : i = s.length := by
        have := congrArg List.length hd
        simp at this; omega
      simp only []
      rw [cond_ndec (show ¬ (i : Int) < (s.length : Int) by omega)]
      simp [tx, hi]
    | c :: r =>
      obtain ⟨g1, g2, g3⟩ := get_at s i c r hd
      have l1 : (i : Int) < (s.length : Int) := by omega
      have l3 : 0 ≤ (i : Int) ∧ (i : Int) < (s.length : Int) := by omega
      have l4 : 0 ≤ (0 : Int) ∧ (0 : Int) < (s.length : Int) := by omega
      have w1 : IntKind.wrap .i64 ((i : Int) + 1) = ((i + 1 : Nat) : Int) := wrap_i64 (by omega) (by omega)
      have w2 : IntKind.wrap .i64 (((i + 1 : Nat) : Int) + 1) = ((i + 2 : Nat) : Int) := wrap_i64 (by omega) (by omega)
      have q0 : s.getD (0 : Int).toNat 0 = q := hq
      simp only [w1, w2, Int.toNat_natCast, g2, q0, byte_eq c q]
      rw [cond_dec l1, cond_dec l3, cond_dec l4]
      have e10 : (((c.toNat : Nat) : Int) == (10 : Int)) = (c == 10) := byte_eq c 10
      have e92 : (((c.toNat : Nat) : Int) == (92 : Int)) = (c == 92) := byte_eq c 92
      rw [e10, e92]
      have lA : 0 ≤ ((i + 1 : Nat) : Int) ∧ ((i + 1 : Nat) : Int) ≤ (s.length : Int) := by omega
      have lB : 0 ≤ (i : Int) ∧ (i : Int) ≤ (s.length : Int) := by omega
      match r, g3 with
      | [], g3 =>
        have hl : i + 1 = s.length := by
          have := congrArg List.length g3
          simp at this; omega
        have e15 : decide (((i + 1 : Nat) : Int) < (s.length : Int)) = false := by simp; omega
        have e16 : (cond (c == 92) false false) = false := by cases (c == 92) <;> rfl
        cases hcq : (c == q) with
        | true =>
          simp only [cond_true, str_ret, Option.bind_some, decide_eq_true lA]
          simp [tx, hcq]
        | false =>
          cases h10 : (c == 10) with
          | true =>
            simp only [cond_true, cond_false, decide_eq_true lB]
            simp [tx, hcq, h10]
          | false =>
            simp only [e15, e16, cond_false, f__strings_Builder__WriteByte, wByte_at acc c (by omega), Option.bind_some]
            rw [text_loop k s q hs h0 hq n (i + 1) (acc ++ [c]) (by omega) (by omega) (by simp; omega), g3]
            simp [tx, hcq, h10]
      | d :: r', g3 =>
        obtain ⟨g4, g5, g6⟩ := get_at s (i + 1) d r' g3
        have e15 : decide (((i + 1 : Nat) : Int) < (s.length : Int)) = true := by simp; omega
        have lC : 0 ≤ ((i + 1 : Nat) : Int) ∧ ((i + 1 : Nat) : Int) < (s.length : Int) := by omega
        cases hcq : (c == q) with
        | true =>
          simp only [cond_true, str_ret, Option.bind_some, decide_eq_true lA]
          simp [tx, hcq]
        | false =>
          cases h10 : (c == 10) with
          | true =>
            simp only [cond_true, cond_false, decide_eq_true lB]
            simp [tx, hcq, h10]
          | false =>
            cases h92 : (c == 92) with
            | true =>
              simp only [e15, cond_true, cond_false, decide_eq_true lC, g5, f__strings_Builder__WriteByte, wByte_at acc d (by omega), Option.bind_some]
              rw [text_loop k s q hs h0 hq n (i + 2) (acc ++ [d]) (by omega) (by omega) (by simp; omega), g6]
              simp only [tx, hcq, h10, h92, cond_true, cond_false, List.append_assoc, List.singleton_append]
              rw [show i + 2 + (tx q r').2.1 = i + ((tx q r').2.1 + 2) by omega]
            | false =>
              simp only [e15, cond_false, f__strings_Builder__WriteByte, wByte_at acc c (by omega), Option.bind_some]
              rw [text_loop k s q hs h0 hq n (i + 1) (acc ++ [c]) (by omega) (by omega) (by simp; omega), g3]
              simp only [tx, hcq, h10, h92, cond_true, cond_false, List.append_assoc, List.singleton_append]
              rw [show i + 1 + (tx q (d :: r')).2.1 = i + ((tx q (d :: r')).2.1 + 1) by omega]

theorem dig_set (c : UInt8) : ([48, 49, 50, 51, 52, 53, 54, 55, 56, 57] : List UInt8).contains c = isDig c := by
  have h : ∀ n : Fin 256, ([48, 49, 50, 51, 52, 53, 54, 55, 56, 57] : List UInt8).contains (UInt8.ofNat n.val) = isDig (UInt8.ofNat n.val) := by decide +kernel
  have := h ⟨c.toNat, c.toNat_lt⟩
  simpa using this

theorem bl_set (c : UInt8) : ([32, 9, 10, 12, 13] : List UInt8).contains c = isBlank c := by
  have h : ∀ n : Fin 256, ([32, 9, 10, 12, 13] : List UInt8).contains (UInt8.ofNat n.val) = isBlank (UInt8.ofNat n.val) := by decide +kernel
  have := h ⟨c.toNat, c.toNat_lt⟩
  simpa using this

theorem trim_dig (k : Nat) (s : List UInt8) : strings_TrimLeft k s ([48, 49, 50, 51, 52, 53, 54, 55, 56, 57] : List UInt8) = some (s.dropWhile isDig) := by
  unfold strings_TrimLeft trimL
  have h : (asciiB [48, 49, 50, 51, 52, 53, 54, 55, 56, 57] && (([48, 49, 50, 51, 52, 53, 54, 55, 56, 57] : List UInt8).length).blt findMax) = true := by decide
  rw [h, cond_true]
  congr 2
  funext c
  exact dig_set c

theorem trim_bl (k : Nat) (s : List UInt8) : strings_TrimLeft k s ([32, 9, 10, 12, 13] : List UInt8) = some (s.dropWhile isBlank) := by
  unfold strings_TrimLeft trimL
  have h : (asciiB [32, 9, 10, 12, 13] && (([32, 9, 10, 12, 13] : List UInt8).length).blt findMax) = true := by decide
  rw [h, cond_true]
  congr 2
  funext c
  exact bl_set c

theorem digits_eq (k : Nat) (s : List UInt8) (hs : s.length ≤ 10000000) : csstok_digits k s = some ((cnt isDig s : Nat) : Int) := by
  unfold csstok_digits
  rw [trim_dig]
  simp only [Option.bind_some]
  have h1 := cnt_drop isDig s
  have h2 := cnt_le isDig s
  rw [wrap_i64 (by omega) (by omega)]
  congr 1
  omega

theorem pre_eq (k : Nat) (s : List UInt8) (c : UInt8) : strings_HasPrefix k s [c] = some (match s with | a :: _ => a == c | [] => false) := by
  unfold strings_HasPrefix stringslite_HasPrefix
  match s with
  | [] => rfl
  | a :: r =>
    have h1 : decide (((a :: r).length : Int) ≥ (([c] : List UInt8).length : Int)) = true := by simp; omega
    have h2 : decide (0 ≤ (([c] : List UInt8).length : Int) ∧ (([c] : List UInt8).length : Int) ≤ ((a :: r).length : Int)) = true := by simp; omega
    simp only [h1, h2, Bool.true_or, cond_true, Option.bind_some]
    show some ([a] == [c]) = _
    cases h : a == c
    · have : ([a] == [c]) = false := by simpa using h
      rw [this]
    · have : ([a] == [c]) = true := by simpa using h
      rw [this]

theorem add_eq (k : Nat) (c : UInt8) (n : Int) (h0 : 0 ≤ n) (h1 : n ≤ 1000000000) : csstok_Number_1 k ((c.toNat : Nat) : Int) n = some (addD n c) := by
  unfold csstok_Number_1
  simp only []
  rw [wrap_i64 (n := 10 * n) (by omega) (by omega), wrap_u8, wrap_i64 (n := (((c.toNat : Nat) : Int) - 48) % 256) (by omega) (by omega), wrap_i64 (n := 10 * n + (((c.toNat : Nat) : Int) - 48) % 256) (by omega) (by omega)]
  rfl

theorem get_bytes (l : List UInt8) (i : Nat) (hi : i < l.length) : (bytesI l).getD i 0 = ((l.getD i 0).toNat : Int) := by
  unfold bytesI
  simp [List.getD_eq_getElem?_getD, List.getElem?_eq_getElem hi]

theorem whole_loop (k : Nat) (a b c d : Int) (s l : List UInt8) (hl : l.length ≤ 10000000) (K : List UInt8 → Int → Int → Int → Int → Option (Int × Int)) : ∀ (n i : Nat) (m : Int), i ≤ l.length → l.length - i < n → 0 ≤ m → m ≤ 1000000000 →
    csstok_Number.c29 k n s a b c ((bytesI l).length : Int) (i : Int) m (bytesI l) K = K s a b c ((l.drop i).foldl addD m)
  | 0, i, m, _, h, _, _ => by omega
  | n + 1, i, m, h1, h2, h3, h4 => by
    have hlen : (bytesI l).length = l.length := by simp [bytesI]
    rw [csstok_Number.c29]
    match hd : l.drop i with
    | [] =>
      have hi : i = l.length := by
        have := congrArg List.length hd
        simp at this; omega
      rw [cond_ndec (by omega)]
      rfl
    | x :: r =>
      obtain ⟨g1, g2, g3⟩ := get_at l i x r hd
      rw [cond_dec (by omega), cond_dec (by omega)]
      simp only [Int.toNat_natCast, get_bytes l i g1, g2, add_eq k x m h3 h4, Option.bind_some]
      rw [wrap_i64 (n := (i : Int) + 1) (by omega) (by omega)]
      have hb := addD_bd x h3
      have ih := whole_loop k a b c d s l hl K n (i + 1) (addD m x) (by omega) (by omega) hb.1 hb.2
      rw [g3] at ih
      rw [show (i : Int) + 1 = ((i + 1 : Nat) : Int) by omega, ih]
      rfl

theorem frac_step (k n : Nat) (s f : List UInt8) (a m : Int) (i : Nat) (K : List UInt8 → Int → Int → Option (Int × Int)) (hi : i < 3) (h0 : 0 ≤ m) (h1 : m ≤ 1000000000) :
    csstok_Number.c49 k (n + 1) s a f (i : Int) m K = csstok_Number.c49 k n s a f ((i + 1 : Nat) : Int) (addD m (f.getD i 48)) K := by
  rw [csstok_Number.c49, cond_dec (by omega)]
  have w : IntKind.wrap .i64 ((i : Int) + 1) = ((i + 1 : Nat) : Int) := wrap_i64 (by omega) (by omega)
  simp only [w, Int.toNat_natCast]
  by_cases hl : i < f.length
  · rw [cond_dec (by omega), cond_dec (by omega)]
    have e : f.getD i 0 = f.getD i 48 := by rw [List.getD_eq_getElem?_getD, List.getD_eq_getElem?_getD, List.getElem?_eq_getElem hl]; rfl
    rw [e, add_eq k _ m h0 h1]
    rfl
  · rw [cond_ndec (by omega)]
    have e : f.getD i 48 = 48 := by rw [List.getD_eq_getElem?_getD, List.getElem?_eq_none (by omega)]; rfl
    have := add_eq k 48 m h0 h1
    rw [show (((48 : UInt8).toNat : Nat) : Int) = 48 from rfl] at this
    rw [e, this]
    rfl

theorem frac_loop (k n : Nat) (s f : List UInt8) (a m : Int) (K : List UInt8 → Int → Int → Option (Int × Int)) (h0 : 0 ≤ m) (h1 : m ≤ 1000000000) :
    csstok_Number.c49 k (n + 4) s a f 0 m K = K s a (addD (addD (addD m (f.getD 0 48)) (f.getD 1 48)) (f.getD 2 48)) := by
  have b1 := addD_bd (f.getD 0 48) h0
  have b2 := addD_bd (f.getD 1 48) b1.1
  have s0 := frac_step k (n + 3) s f a m 0 K (by omega) h0 h1
  have s1 := frac_step k (n + 2) s f a _ 1 K (by omega) b1.1 b1.2
  have s2 := frac_step k (n + 1) s f a _ 2 K (by omega) b2.1 b2.2
  rw [show ((0 : Nat) : Int) = 0 from rfl] at s0
  rw [s0, s1, s2, csstok_Number.c49, cond_ndec (by omega)]

/-- Behind both parts' digits. -/
theorem num_end (k : Nat) (s f : List UInt8) (m : Int) (e : Nat) (hk : 4 ≤ k) (hs : s ≠ []) (h0 : 0 ≤ m) (h1 : m ≤ 1000000000) :
    csstok_Number.c46 k s (e : Int) f m = some (if s.getD 0 0 = 45 then - addD (addD (addD m (f.getD 0 48)) (f.getD 1 48)) (f.getD 2 48) else addD (addD (addD m (f.getD 0 48)) (f.getD 1 48)) (f.getD 2 48), (e : Int)) := by
  obtain ⟨k, rfl⟩ : ∃ n, k = n + 4 := ⟨k - 4, by omega⟩
  unfold csstok_Number.c46
  rw [frac_loop (k + 4) k s f (e : Int) m _ h0 h1]
  have b1 := addD_bd (f.getD 0 48) h0
  have b2 := addD_bd (f.getD 1 48) b1.1
  have b3 := addD_bd (f.getD 2 48) b2.1
  have hl : 0 < s.length := List.length_pos_iff.2 hs
  obtain ⟨r, hr⟩ : ∃ r, r = addD (addD (addD m (f.getD 0 48)) (f.getD 1 48)) (f.getD 2 48) := ⟨_, rfl⟩
  rw [← hr] at b3 ⊢
  rw [cond_dec (by omega)]
  show cond ((((s.getD 0 0).toNat : Nat) : Int) == (45 : Int)) _ _ = _
  rw [show ((((s.getD 0 0).toNat : Nat) : Int) == (45 : Int)) = (s.getD 0 0 == 45) from byte_eq (s.getD 0 0) 45]
  by_cases h45 : s.getD 0 0 = 45
  · rw [if_pos h45, h45]
    show some (IntKind.wrap .i64 (0 - r), (e : Int)) = _
    rw [wrap_i64 (by omega) (by omega)]
    congr 2
    omega
  · rw [if_neg h45]
    have : (s.getD 0 0 == 45) = false := by simpa using h45
    rw [this]
    rfl

theorem Number_c18 (k : Nat) (s : List UInt8) (g : Nat) (hg : g = sgn s) (hs : s.length ≤ 10000000) (hk : s.length + 4 < k) (hne : s ≠ []) :
    csstok_Number.c18 k s (g : Int) ((whl s : Nat) : Int) ((bhd s : Nat) : Int) = some (nval s, ((nlen s : Nat) : Int)) := by
  subst hg
  have hw := whl_le s
  have hb := bhd_le s
  have hbl : bhd s ≤ 10000000 := by
    by_cases h : bhd s = 0
    · omega
    · have := hb h; omega
  unfold csstok_Number.c18
  have w1 : IntKind.wrap .i64 (((whl s : Nat) : Int) + ((bhd s : Nat) : Int)) = ((whl s + bhd s : Nat) : Int) := wrap_i64 (by omega) (by omega)
  have w2 : IntKind.wrap .i64 (((sgn s : Nat) : Int) + ((whl s : Nat) : Int)) = ((sgn s + whl s : Nat) : Int) := wrap_i64 (by omega) (by omega)
  simp only [w1, w2]
  by_cases h0 : whl s + bhd s = 0
  · rw [h0]
    unfold nval nlen
    rw [if_pos h0, if_pos h0]
    rfl
  · have hz : (((whl s + bhd s : Nat) : Int) == (0 : Int)) = false := by simp; omega
    rw [hz, cond_false, cond_dec (by omega)]
    have hl : (s.take (((sgn s + whl s : Nat) : Int)).toNat).drop (((sgn s : Nat) : Int)).toNat = (s.drop (sgn s)).take (whl s) := by
      simp only [Int.toNat_natCast]
      rw [List.drop_take]
      congr 1
      omega
    rw [hl]
    have hll : ((s.drop (sgn s)).take (whl s)).length ≤ 10000000 := by simp; omega
    have hlk : ((s.drop (sgn s)).take (whl s)).length < k := by simp; omega
    have hwl := fun K => whole_loop k ((sgn s : Nat) : Int) ((whl s : Nat) : Int) ((bhd s : Nat) : Int) 0 s ((s.drop (sgn s)).take (whl s)) hll K k 0 0 (by omega) (by omega) (by omega) (by omega)
    have hf := fold_bd ((s.drop (sgn s)).take (whl s)) 0 (by omega) (by omega)
    refine (hwl _).trans ?_
    simp only [List.drop_zero, w2]
    have hv : nval s = if s.getD 0 0 = 45 then - nabs s else nabs s := by unfold nval; rw [if_neg h0]
    by_cases hb0 : bhd s = 0
    · rw [hb0, cond_ndec (by omega), num_end k s [] _ _ (by omega) hne hf.1 hf.2]
      have hfp : fpart s = [] := by unfold fpart; rw [if_pos hb0]
      have hn : nlen s = sgn s + whl s := by unfold nlen; rw [if_neg h0, if_pos hb0]; rfl
      rw [hv, hn]
      unfold nabs
      rw [hfp]
    · have hbb := hb hb0
      have w3 : IntKind.wrap .i64 (((sgn s + whl s : Nat) : Int) + 1) = ((sgn s + whl s + 1 : Nat) : Int) := wrap_i64 (by omega) (by omega)
      have w4 : IntKind.wrap .i64 (((sgn s + whl s + 1 : Nat) : Int) + ((bhd s : Nat) : Int)) = ((sgn s + whl s + 1 + bhd s : Nat) : Int) := wrap_i64 (by omega) (by omega)
      have w5 : IntKind.wrap .i64 ((1 : Int) + ((bhd s : Nat) : Int)) = ((1 + bhd s : Nat) : Int) := wrap_i64 (by omega) (by omega)
      have w6 : IntKind.wrap .i64 (((sgn s + whl s : Nat) : Int) + ((1 + bhd s : Nat) : Int)) = ((sgn s + whl s + (1 + bhd s) : Nat) : Int) := wrap_i64 (by omega) (by omega)
      rw [cond_dec (by omega)]
      simp only [w3, w4, w5, w6]
      rw [cond_dec (by omega)]
      have hfp : (s.take (((sgn s + whl s + 1 + bhd s : Nat) : Int)).toNat).drop (((sgn s + whl s + 1 : Nat) : Int)).toNat = fpart s := by
        unfold fpart
        rw [if_neg hb0]
        simp only [Int.toNat_natCast]
        rw [List.drop_take]
        congr 1
        omega
      rw [hfp, num_end k s (fpart s) _ _ (by omega) hne hf.1 hf.2]
      have hn : nlen s = sgn s + whl s + (1 + bhd s) := by unfold nlen; rw [if_neg h0, if_neg hb0]
      rw [hv, hn]
      rfl

theorem Number_c8 (k : Nat) (s : List UInt8) (g : Nat) (hg : g = sgn s) (hs : s.length ≤ 10000000) (hk : s.length + 4 < k) (hne : s ≠ []) :
    csstok_Number.c8 k s (g : Int) = some (nval s, ((nlen s : Nat) : Int)) := by
  have hw := whl_le s
  unfold csstok_Number.c8
  rw [cond_dec (by have := (sgn_le s).1; omega)]
  simp only [Int.toNat_natCast]
  rw [digits_eq k _ (by simp; omega)]
  simp only [Option.bind_some]
  have e1 : cnt isDig (s.drop g) = whl s := by rw [hg]; rfl
  rw [e1]
  have w2 : IntKind.wrap .i64 ((g : Int) + ((whl s : Nat) : Int)) = ((g + whl s : Nat) : Int) := wrap_i64 (by omega) (by omega)
  simp only [w2, Int.toNat_natCast]
  rw [cond_dec (by omega), pre_eq]
  simp only [Option.bind_some]
  have hbd : bhd s = frc (s.drop (g + whl s)) := by rw [hg]; rfl
  cases hd : s.drop (g + whl s) with
  | nil =>
    have hb : bhd s = 0 := by rw [hbd, hd]; rfl
    have := Number_c18 k s g hg hs hk hne
    rw [hb] at this
    exact this
  | cons a r =>
    have hl := congrArg List.length hd
    simp only [List.length_drop, List.length_cons] at hl
    cases h46 : (a == 46) with
    | false =>
      have hb : bhd s = 0 := by rw [hbd, hd]; simp [frc, h46]
      have := Number_c18 k s g hg hs hk hne
      rw [hb] at this
      show cond (a == 46) _ _ = _
      rw [h46]
      exact this
    | true =>
      have hb : bhd s = cnt isDig r := by rw [hbd, hd]; simp [frc, h46]
      show cond (a == 46) _ _ = _
      rw [h46, cond_true, cond_dec (by simp; omega)]
      show ((csstok_digits k r).bind _) = _
      rw [digits_eq k r (by omega)]
      simp only [Option.bind_some]
      rw [← hb]
      exact Number_c18 k s g hg hs hk hne

theorem Number_eq (k : Nat) (s : List UInt8) (hs : s.length ≤ 10000000) (hk : s.length + 4 < k) (hne : s ≠ []) :
    csstok_Number k s = some (nval s, ((nlen s : Nat) : Int)) := by
  unfold csstok_Number
  match s, hne with
  | a :: r, hne =>
    have h1 : ((a :: r) == ([] : List UInt8)) = false := rfl
    have d0 : decide (0 ≤ (0 : Int) ∧ (0 : Int) < ((a :: r).length : Int)) = true := by simp
    have g0 : (a :: r).getD (0 : Int).toNat 0 = a := rfl
    have e43 : (((a.toNat : Nat) : Int) == (43 : Int)) = (a == 43) := byte_eq a 43
    have e45 : (((a.toNat : Nat) : Int) == (45 : Int)) = (a == 45) := byte_eq a 45
    simp only [h1, d0, g0, e43, e45, Bool.true_or, cond_true, Bool.not_false]
    have hc : (cond (a == 43) true (a == 45)) = (a == 43 || a == 45) := by cases (a == 43) <;> rfl
    rw [hc]
    cases hs' : (a == 43 || a == 45) with
    | true => exact Number_c8 k (a :: r) 1 (by simp [sgn, hs']) hs hk hne
    | false => exact Number_c8 k (a :: r) 0 (by simp [sgn, hs']) hs hk hne

theorem text_eq (k : Nat) (s : List UInt8) (hs : s.length ≤ 10000000) (hk : s.length < k) (h0 : 0 < s.length) :
    csstok_text k s = some (bif (tx (s.getD 0 0) (s.drop 1)).1 then ((5 : Int), s.take (1 + (tx (s.getD 0 0) (s.drop 1)).2.1), (tx (s.getD 0 0) (s.drop 1)).2.2, (0 : Int)) else ((6 : Int), s.take (1 + (tx (s.getD 0 0) (s.drop 1)).2.1), [], (0 : Int))) := by
  unfold csstok_text
  have := text_loop k s (s.getD 0 0) hs h0 rfl k 1 [] (by omega) (by omega) (by simp)
  simpa using this

theorem lowB_eq (c : UInt8) : (bif (cond (decide (((c.toNat : Nat) : Int) ≥ 65)) (decide (((c.toNat : Nat) : Int) ≤ 90)) false) then IntKind.wrap .u8 (((c.toNat : Nat) : Int) + 32) else ((c.toNat : Nat) : Int)) = (((lowB c).toNat : Nat) : Int) := by
  have h : ∀ n : Fin 256, (bif (cond (decide (((n.val : Nat) : Int) ≥ 65)) (decide (((n.val : Nat) : Int) ≤ 90)) false) then IntKind.wrap .u8 (((n.val : Nat) : Int) + 32) else ((n.val : Nat) : Int)) = (((lowB (UInt8.ofNat n.val)).toNat : Nat) : Int) := by decide +kernel
  have := h ⟨c.toNat, c.toNat_lt⟩
  simpa using this

theorem bytesU_I (l : List UInt8) : bytesU (bytesI l) = l := by
  unfold bytesU bytesI
  rw [List.map_map]
  conv => rhs; rw [← List.map_id l]
  congr 1
  funext c
  simp

theorem lower_loop (k : Nat) (l : List UInt8) (hl : l.length ≤ 10000000) : ∀ (n i : Nat), i ≤ l.length → l.length - i < n →
    csstok_lower.c7 k n ((bytesI l).length : Int) (i : Int) (bytesI ((l.take i).map lowB ++ l.drop i)) (fun y10 => some (bytesU y10)) = some (l.map lowB)
  | 0, i, _, h => by omega
  | n + 1, i, h1, h2 => by
    have hlen : (bytesI l).length = l.length := by simp [bytesI]
    rw [csstok_lower.c7]
    match hd : l.drop i with
    | [] =>
      have hi : i = l.length := by
        have := congrArg List.length hd
        simp at this; omega
      rw [cond_ndec (by omega)]
      subst hi
      simp [bytesU_I]
    | c :: r =>
      obtain ⟨g1, g2, g3⟩ := get_at l i c r hd
      have hll : (bytesI ((l.take i).map lowB ++ c :: r)).length = l.length := by
        have := congrArg List.length hd
        simp at this
        simp [bytesI]; omega
      have htl : ((l.take i).map lowB).length = i := by simp; omega
      have hg : (bytesI ((l.take i).map lowB ++ c :: r)).getD i 0 = ((c.toNat : Nat) : Int) := by
        rw [get_bytes _ i (by simp; omega), List.getD_eq_getElem?_getD, List.getElem?_append_right (by omega), htl]
        simp
      rw [cond_dec (by omega), cond_dec (by omega)]
      simp only [Int.toNat_natCast, hg]
      rw [wrap_i64 (n := (i : Int) + 1) (by omega) (by omega)]
      have hset : (bytesI ((l.take i).map lowB ++ c :: r)).set i (((lowB c).toNat : Nat) : Int) = bytesI ((l.take (i + 1)).map lowB ++ l.drop (i + 1)) := by
        rw [g3]
        unfold bytesI
        rw [List.map_append, List.set_append_right _ _ (by simp; omega)]
        have : i - (((l.take i).map lowB).map fun b => ((b.toNat : Nat) : Int)).length = 0 := by simp; omega
        rw [this]
        have ht : l.take (i + 1) = l.take i ++ [c] := by
          rw [List.take_add_one, List.getElem?_eq_getElem g1]
          rw [List.getD_eq_getElem?_getD, List.getElem?_eq_getElem g1] at g2
          simp at g2
          simp [g2]
        rw [ht]
        simp
      have hlow := lowB_eq c
      have ih := lower_loop k l hl n (i + 1) (by omega) (by omega)
      rw [show ((i + 1 : Nat) : Int) = (i : Int) + 1 by omega] at ih
      cases hb : (cond (decide (((c.toNat : Nat) : Int) ≥ 65)) (decide (((c.toNat : Nat) : Int) ≤ 90)) false) with
      | true =>
        rw [hb, cond_true] at hlow
        rw [cond_true, cond_dec (by omega), hlow, hset]
        exact ih
      | false =>
        rw [hb, cond_false] at hlow
        rw [cond_false]
        have hc : c = lowB c := UInt8.toNat_inj.1 (by omega)
        have e : bytesI ((l.take i).map lowB ++ c :: r) = bytesI ((l.take (i + 1)).map lowB ++ l.drop (i + 1)) := by
          rw [← hset, ← hlow, ← hg]
          apply List.ext_getElem
          · simp
          · intro j hj hj'
            rw [List.getElem_set]
            split
            · rename_i hij; subst hij
              rw [List.getD_eq_getElem?_getD, List.getElem?_eq_getElem hj]; rfl
            · rfl
        rw [e]
        exact ih

theorem lower_eq (k : Nat) (l : List UInt8) (hl : l.length ≤ 10000000) (hk : l.length < k) : csstok_lower k l = some (l.map lowB) := by
  unfold csstok_lower
  have := lower_loop k l hl k 0 (by omega) (by omega)
  simpa using this

theorem pre_hd (k : Nat) (s : List UInt8) (c : UInt8) : strings_HasPrefix k s [c] = some (hd1 s c) := pre_eq k s c

theorem hd1_len {s : List UInt8} {c : UInt8} (h : hd1 s c = true) : 0 < s.length := by
  cases s with
  | nil => simp [hd1] at h
  | cons a r => simp

theorem number_eq (k : Nat) (s : List UInt8) (hs : s.length ≤ 10000000) (hk : s.length < k) :
    csstok_number k s (nval s) ((nlen s : Nat) : Int) = some ((numT s).1, s.take (numT s).2.1, (numT s).2.2.1, (numT s).2.2.2) := by
  have hn := nlen_le s
  unfold csstok_number
  rw [cond_dec (by omega), cond_dec (by omega)]
  simp only [Int.toNat_natCast]
  rw [pre_hd]
  simp only [Option.bind_some]
  unfold numT
  cases h37 : hd1 (s.drop (nlen s)) 37 with
  | true =>
    have := hd1_len h37
    simp only [List.length_drop] at this
    have w : IntKind.wrap .i64 (((nlen s : Nat) : Int) + 1) = ((nlen s + 1 : Nat) : Int) := wrap_i64 (by omega) (by omega)
    simp only [cond_true, w]
    rw [cond_dec (by omega)]
    rfl
  | false =>
    simp only [cond_false, begins_eq, Option.bind_some]
    cases hb : bg (s.drop (nlen s)) with
    | true =>
      have h1 := nm_le (s.drop (nlen s))
      have h2 := nm_len (s.drop (nlen s))
      simp only [List.length_drop] at h1
      have w : IntKind.wrap .i64 (((nlen s : Nat) : Int) + (((nm (s.drop (nlen s))).2 : Nat) : Int)) = ((nlen s + (nm (s.drop (nlen s))).2 : Nat) : Int) := wrap_i64 (by omega) (by omega)
      simp only [cond_true]
      rw [name_eq k _ (by simp; omega) (by simp; omega)]
      simp only [Option.bind_some, w]
      rw [cond_dec (by omega), lower_eq k _ (by omega) (by omega)]
      rfl
    | false => rfl

theorem named_eq (k : Nat) (s : List UInt8) (kind : Int) (a : Nat) (ha : a ≤ s.length) (hs : s.length ≤ 10000000) (hk : s.length < k) :
    csstok_named k kind s (a : Int) = some (kind, s.take (a + (nm (s.drop a)).2), (nm (s.drop a)).1, 0) := by
  unfold csstok_named
  have h1 := nm_le (s.drop a)
  simp only [List.length_drop] at h1
  rw [cond_dec (by omega)]
  simp only [Int.toNat_natCast]
  rw [name_eq k _ (by simp; omega) (by simp; omega)]
  have w : IntKind.wrap .i64 ((a : Int) + (((nm (s.drop a)).2 : Nat) : Int)) = ((a + (nm (s.drop a)).2 : Nat) : Int) := wrap_i64 (by omega) (by omega)
  simp only [Option.bind_some, w]
  rw [cond_dec (by omega)]
  rfl

theorem nameT_eq (k : Nat) (s : List UInt8) (hs : s.length ≤ 10000000) (hk : s.length < k) :
    ((csstok_named k (1 : Int) s (0 : Int)).bind fun r28 =>
      cond (decide (0 ≤ (r28.2.1.length : Int) ∧ (r28.2.1.length : Int) ≤ (s.length : Int))) (
      let v29 : List UInt8 := (s.drop (r28.2.1.length : Int).toNat)
      (strings_HasPrefix k v29 ([40] : List UInt8)).bind fun r30 =>
      cond r30 (
      let v31 : Int := (IntKind.wrap .i64 ((r28.2.1.length : Int) + (1 : Int)))
      cond (decide (0 ≤ v31 ∧ v31 ≤ (s.length : Int))) (
      csstok_first.c52 k (0 : Int) ([]) ([]) (0 : Int) (2 : Int) (s.take v31.toNat) r28.2.2.1 r28.2.2.2) none) (
      csstok_first.c52 k (0 : Int) ([]) ([]) (0 : Int) r28.1 r28.2.1 r28.2.2.1 r28.2.2.2)) none) = some ((nameT s).1, s.take (nameT s).2.1, (nameT s).2.2.1, (nameT s).2.2.2) := by
  have h1 := nm_le s
  have hn := named_eq k s 1 0 (Nat.zero_le _) hs hk
  rw [show ((0 : Nat) : Int) = 0 from rfl] at hn
  rw [hn]
  have hl : (s.take (0 + (nm (s.drop 0)).2)).length = (nm s).2 := by simp; omega
  simp only [Option.bind_some, hl, Int.toNat_natCast]
  rw [cond_dec (by omega), pre_hd]
  simp only [Option.bind_some]
  unfold nameT
  cases h40 : hd1 (s.drop (nm s).2) 40 with
  | true =>
    have := hd1_len h40
    simp only [List.length_drop] at this
    have w : IntKind.wrap .i64 (((nm s).2 : Int) + 1) = (((nm s).2 + 1 : Nat) : Int) := wrap_i64 (by omega) (by omega)
    simp only [cond_true, w]
    rw [cond_dec (by omega)]
    simp [csstok_first.c52]
  | false => simp [csstok_first.c52]

/-- A token, as the cutter gives it. -/
theorem one_eq (k : Nat) (kind : Int) (s : List UInt8) (h : 0 < s.length) : csstok_first_1 k kind s = some (kind, s.take 1, [], 0, s) := by
  unfold csstok_first_1
  rw [cond_dec (by omega)]
  rfl

theorem c76_eq (k : Nat) (a b : Int) (x y : List UInt8) (s : List UInt8) (h : 0 < s.length) : csstok_first.c76 k a x y b s = some (12, s.take 1, [], 0) := by
  unfold csstok_first.c76
  rw [one_eq k 12 s h]
  rfl

theorem cut_eq2 (k : Nat) (s : List UInt8) (c d : UInt8) : strings_CutPrefix k s [c, d] = some (bif hd1 s c && hd1 (s.drop 1) d then (s.drop 2, true) else (s, false)) := by
  unfold strings_CutPrefix stringslite_CutPrefix stringslite_HasPrefix
  match s with
  | [] => rfl
  | [a] => 
    have h1 : decide ((([a] : List UInt8).length : Int) ≥ (([c, d] : List UInt8).length : Int)) = false := by simp
    have h2 : decide (0 ≤ (([c, d] : List UInt8).length : Int) ∧ (([c, d] : List UInt8).length : Int) ≤ (([a] : List UInt8).length : Int)) = false := by simp
    simp only [h1, h2, Bool.not_false, Bool.or_true, cond_true, Option.bind_some, cond_false]
    show some (([a] : List UInt8), false) = _
    have : hd1 ([a].drop 1) d = false := rfl
    rw [this, Bool.and_false, cond_false]
  | a :: b :: r =>
    have h1 : decide (((a :: b :: r).length : Int) ≥ (([c, d] : List UInt8).length : Int)) = true := by simp; omega
    have h2 : decide (0 ≤ (([c, d] : List UInt8).length : Int) ∧ (([c, d] : List UInt8).length : Int) ≤ ((a :: b :: r).length : Int)) = true := by simp; omega
    simp only [h1, h2, Bool.true_or, cond_true, Option.bind_some]
    have e : ((a :: b :: r).take ((([c, d] : List UInt8).length : Int)).toNat == [c, d]) = (a == c && b == d) := by
      show ([a, b] == [c, d]) = _
      cases h : (a == c) <;> cases h' : (b == d) <;> simp_all
    have hR : (hd1 (a :: b :: r) c && hd1 ((a :: b :: r).drop 1) d) = (a == c && b == d) := rfl
    rw [e, hR]
    cases (a == c && b == d) <;> rfl

def numB (k : Nat) (a1 : List UInt8) : Option (Int × (List UInt8) × (List UInt8) × Int) :=
(csstok_Number k a1).bind fun r25 =>
cond (decide (r25.2 > (0 : Int))) (
(csstok_number k a1 r25.1 r25.2).bind fun r26 =>
some (r26.1, r26.2.1, r26.2.2.1, r26.2.2.2)) (
(csstok_begins k a1).bind fun r27 =>
cond r27 (
(csstok_named k (1 : Int) a1 (0 : Int)).bind fun r28 =>
cond (decide (0 ≤ (r28.2.1.length : Int) ∧ (r28.2.1.length : Int) ≤ (a1.length : Int))) (
let v29 : List UInt8 := (a1.drop (r28.2.1.length : Int).toNat)
(strings_HasPrefix k v29 ([40] : List UInt8)).bind fun r30 =>
cond r30 (
let v31 : Int := (IntKind.wrap .i64 ((r28.2.1.length : Int) + (1 : Int)))
cond (decide (0 ≤ v31 ∧ v31 ≤ (a1.length : Int))) (
csstok_first.c52 k (0 : Int) ([]) ([]) (0 : Int) (2 : Int) (a1.take v31.toNat) r28.2.2.1 r28.2.2.2) none) (
csstok_first.c52 k (0 : Int) ([]) ([]) (0 : Int) r28.1 r28.2.1 r28.2.2.1 r28.2.2.2)) none) (
cond (decide (0 ≤ (0 : Int) ∧ (0 : Int) < (a1.length : Int))) (
let v40 : Int := ((a1.getD (0 : Int).toNat 0).toNat : Int)
cond (v40 == (40 : Int)) (
cond (v40 == (40 : Int)) (
(csstok_first_1 k (10 : Int) a1).bind fun r41 =>
some (r41.1, r41.2.1, r41.2.2.1, r41.2.2.2.1)) (
cond (v40 == (41 : Int)) (
cond (v40 == (41 : Int)) (
(csstok_first_1 k (11 : Int) a1).bind fun r42 =>
some (r42.1, r42.2.1, r42.2.2.1, r42.2.2.2.1)) (
cond (v40 == (92 : Int)) (
(csstok_first_1 k (6 : Int) a1).bind fun r43 =>
some (r43.1, r43.2.1, r43.2.2.1, r43.2.2.2.1)) (
csstok_first.c76 k (0 : Int) ([]) ([]) (0 : Int) a1))) (
cond (v40 == (93 : Int)) (
cond (v40 == (93 : Int)) (
(csstok_first_1 k (11 : Int) a1).bind fun r50 =>
some (r50.1, r50.2.1, r50.2.2.1, r50.2.2.2.1)) (
cond (v40 == (92 : Int)) (
(csstok_first_1 k (6 : Int) a1).bind fun r51 =>
some (r51.1, r51.2.1, r51.2.2.1, r51.2.2.2.1)) (
csstok_first.c76 k (0 : Int) ([]) ([]) (0 : Int) a1))) (
cond (v40 == (125 : Int)) (
(csstok_first_1 k (11 : Int) a1).bind fun r52 =>
some (r52.1, r52.2.1, r52.2.2.1, r52.2.2.2.1)) (
cond (v40 == (92 : Int)) (
(csstok_first_1 k (6 : Int) a1).bind fun r53 =>
some (r53.1, r53.2.1, r53.2.2.1, r53.2.2.2.1)) (
csstok_first.c76 k (0 : Int) ([]) ([]) (0 : Int) a1)))))) (
cond (v40 == (91 : Int)) (
cond (v40 == (91 : Int)) (
(csstok_first_1 k (10 : Int) a1).bind fun r54 =>
some (r54.1, r54.2.1, r54.2.2.1, r54.2.2.2.1)) (
cond (v40 == (41 : Int)) (
cond (v40 == (41 : Int)) (
(csstok_first_1 k (11 : Int) a1).bind fun r55 =>
some (r55.1, r55.2.1, r55.2.2.1, r55.2.2.2.1)) (
cond (v40 == (92 : Int)) (
(csstok_first_1 k (6 : Int) a1).bind fun r56 =>
some (r56.1, r56.2.1, r56.2.2.1, r56.2.2.2.1)) (
csstok_first.c76 k (0 : Int) ([]) ([]) (0 : Int) a1))) (
cond (v40 == (93 : Int)) (
cond (v40 == (93 : Int)) (
(csstok_first_1 k (11 : Int) a1).bind fun r57 =>
some (r57.1, r57.2.1, r57.2.2.1, r57.2.2.2.1)) (
cond (v40 == (92 : Int)) (
(csstok_first_1 k (6 : Int) a1).bind fun r58 =>
some (r58.1, r58.2.1, r58.2.2.1, r58.2.2.2.1)) (
csstok_first.c76 k (0 : Int) ([]) ([]) (0 : Int) a1))) (
cond (v40 == (125 : Int)) (
(csstok_first_1 k (11 : Int) a1).bind fun r59 =>
some (r59.1, r59.2.1, r59.2.2.1, r59.2.2.2.1)) (
cond (v40 == (92 : Int)) (
(csstok_first_1 k (6 : Int) a1).bind fun r60 =>
some (r60.1, r60.2.1, r60.2.2.1, r60.2.2.2.1)) (
csstok_first.c76 k (0 : Int) ([]) ([]) (0 : Int) a1)))))) (
cond (v40 == (123 : Int)) (
(csstok_first_1 k (10 : Int) a1).bind fun r61 =>
some (r61.1, r61.2.1, r61.2.2.1, r61.2.2.2.1)) (
cond (v40 == (41 : Int)) (
cond (v40 == (41 : Int)) (
(csstok_first_1 k (11 : Int) a1).bind fun r62 =>
some (r62.1, r62.2.1, r62.2.2.1, r62.2.2.2.1)) (
cond (v40 == (92 : Int)) (
(csstok_first_1 k (6 : Int) a1).bind fun r63 =>
some (r63.1, r63.2.1, r63.2.2.1, r63.2.2.2.1)) (
csstok_first.c76 k (0 : Int) ([]) ([]) (0 : Int) a1))) (
cond (v40 == (93 : Int)) (
cond (v40 == (93 : Int)) (
(csstok_first_1 k (11 : Int) a1).bind fun r64 =>
some (r64.1, r64.2.1, r64.2.2.1, r64.2.2.2.1)) (
cond (v40 == (92 : Int)) (
(csstok_first_1 k (6 : Int) a1).bind fun r65 =>
some (r65.1, r65.2.1, r65.2.2.1, r65.2.2.2.1)) (
csstok_first.c76 k (0 : Int) ([]) ([]) (0 : Int) a1))) (
cond (v40 == (125 : Int)) (
(csstok_first_1 k (11 : Int) a1).bind fun r66 =>
some (r66.1, r66.2.1, r66.2.2.1, r66.2.2.2.1)) (
cond (v40 == (92 : Int)) (
(csstok_first_1 k (6 : Int) a1).bind fun r67 =>
some (r67.1, r67.2.1, r67.2.2.1, r67.2.2.2.1)) (
csstok_first.c76 k (0 : Int) ([]) ([]) (0 : Int) a1)))))))) none))

def tailB (k : Nat) (a1 : List UInt8) (v12 : Int) : Option (Int × (List UInt8) × (List UInt8) × Int) :=
cond ((decide (0 ≤ (1 : Int) ∧ (1 : Int) ≤ (a1.length : Int))) || !(v12 == (64 : Int))) (
(cond (v12 == (64 : Int)) (csstok_begins k (a1.drop (1 : Int).toNat)) (some false)).bind fun r22 =>
let v23 : Bool := (cond (v12 == (64 : Int)) r22 false)
cond v23 (
(csstok_named k (3 : Int) a1 (1 : Int)).bind fun r24 =>
some (r24.1, r24.2.1, r24.2.2.1, r24.2.2.2)) (
numB k a1)) none

def hashB (k : Nat) (a1 : List UInt8) (v12 : Int) : Option (Int × (List UInt8) × (List UInt8) × Int) :=
let v15 : Bool := (decide ((a1.length : Int) > (1 : Int)))
let v16 : Bool := (cond (v12 == (35 : Int)) v15 false)
cond ((decide (0 ≤ (1 : Int) ∧ (1 : Int) < (a1.length : Int))) || !v16) (
let v17 : Int := ((a1.getD (1 : Int).toNat 0).toNat : Int)
(cond v16 (csstok_sign k v17) (some false)).bind fun r18 =>
cond ((decide (0 ≤ (1 : Int) ∧ (1 : Int) ≤ (a1.length : Int))) || !(v16 && (!r18))) (
(cond (v16 && (!r18)) (csstok_escape k (a1.drop (1 : Int).toNat)) (some false)).bind fun r19 =>
let v20 : Bool := (cond v16 (cond r18 true r19) false)
cond v20 (
(csstok_named k (4 : Int) a1 (1 : Int)).bind fun r21 =>
some (r21.1, r21.2.1, r21.2.2.1, r21.2.2.2)) (
tailB k a1 v12)) none) none

theorem numB_eq (k : Nat) (s : List UInt8) (hs : s.length ≤ 10000000) (hk : s.length + 4 < k) (hne : s ≠ []) :
    numB k s = some (tokO s (if nlen s > 0 then numT s else bif bg s then nameT s else (oneK (s.getD 0 0), 1, [], 0))) := by
  have hl : 0 < s.length := List.length_pos_iff.2 hne
  unfold numB
  rw [Number_eq k s hs hk hne]
  simp only [Option.bind_some]
  by_cases hn : nlen s > 0
  · rw [if_pos hn, cond_dec (by omega), number_eq k s hs (by omega)]
    rfl
  · rw [if_neg hn, cond_ndec (by omega), begins_eq]
    simp only [Option.bind_some]
    cases hb : bg s with
    | true =>
      simp only [cond_true]
      exact nameT_eq k s hs (by omega)
    | false =>
      simp only [cond_false]
      rw [cond_dec (by omega)]
      obtain ⟨c, hc⟩ : ∃ c, c = s.getD 0 0 := ⟨_, rfl⟩
      have e40 : (((c.toNat : Nat) : Int) == (40 : Int)) = (c == 40) := byte_eq c 40
      have e41 : (((c.toNat : Nat) : Int) == (41 : Int)) = (c == 41) := byte_eq c 41
      have e92 : (((c.toNat : Nat) : Int) == (92 : Int)) = (c == 92) := byte_eq c 92
      have e91 : (((c.toNat : Nat) : Int) == (91 : Int)) = (c == 91) := byte_eq c 91
      have e93 : (((c.toNat : Nat) : Int) == (93 : Int)) = (c == 93) := byte_eq c 93
      have e123 : (((c.toNat : Nat) : Int) == (123 : Int)) = (c == 123) := byte_eq c 123
      have e125 : (((c.toNat : Nat) : Int) == (125 : Int)) = (c == 125) := byte_eq c 125
      have g0 : s.getD (0 : Int).toNat 0 = c := hc.symm
      simp only [g0, ← hc, e40, e41, e92, e91, e93, e123, e125, one_eq k _ s hl, c76_eq k _ _ _ _ s hl, Option.bind_some]
      unfold oneK tokO
      by_cases h1 : c = 40
      · subst h1; rfl
      by_cases h2 : c = 41
      · subst h2; rfl
      by_cases h3 : c = 92
      · subst h3; rfl
      by_cases h4 : c = 91
      · subst h4; rfl
      by_cases h5 : c = 93
      · subst h5; rfl
      by_cases h6 : c = 123
      · subst h6; rfl
      by_cases h7 : c = 125
      · subst h7; rfl
      have n1 : (c == 40) = false := by simpa using h1
      have n2 : (c == 41) = false := by simpa using h2
      have n3 : (c == 92) = false := by simpa using h3
      have n4 : (c == 91) = false := by simpa using h4
      have n5 : (c == 93) = false := by simpa using h5
      have n6 : (c == 123) = false := by simpa using h6
      have n7 : (c == 125) = false := by simpa using h7
      rw [n1, n2, n3, n4, n5, n6, n7]
      rfl

theorem tailB_eq (k : Nat) (a : UInt8) (r : List UInt8) (hs : (a :: r).length ≤ 10000000) (hk : (a :: r).length + 4 < k) :
    tailB k (a :: r) ((a.toNat : Nat) : Int) = some (tokO (a :: r) (bif hd1 (a :: r) 64 && bg ((a :: r).drop 1) then (3, 1 + (nm ((a :: r).drop 1)).2, (nm ((a :: r).drop 1)).1, 0)
      else if nlen (a :: r) > 0 then numT (a :: r) else bif bg (a :: r) then nameT (a :: r) else (oneK ((a :: r).getD 0 0), 1, [], 0))) := by
  unfold tailB
  have e64 : (((a.toNat : Nat) : Int) == (64 : Int)) = (a == 64) := byte_eq a 64
  have d2 : decide (0 ≤ (1 : Int) ∧ (1 : Int) ≤ ((a :: r).length : Int)) = true := by simp; omega
  have hh : hd1 (a :: r) 64 = (a == 64) := rfl
  simp only [e64, d2, Bool.true_or, cond_true, hh, numB_eq k (a :: r) hs hk (by simp)]
  have hn := named_eq k (a :: r) 3 1 (by simp) hs (by omega)
  rw [show ((1 : Nat) : Int) = 1 from rfl] at hn
  cases h : (a == 64) with
  | false => rfl
  | true =>
    simp only [cond_true, begins_eq, Option.bind_some, Bool.true_and]
    show cond (bg ((a :: r).drop 1)) _ _ = _
    cases hb : bg ((a :: r).drop 1) with
    | true =>
      simp only [cond_true, hn, Option.bind_some]
      rfl
    | false => rfl

theorem hashB_eq (k : Nat) (a : UInt8) (r : List UInt8) (hs : (a :: r).length ≤ 10000000) (hk : (a :: r).length + 4 < k) :
    hashB k (a :: r) ((a.toNat : Nat) : Int) = some (tokO (a :: r) (bif hd1 (a :: r) 35 && decide (1 < (a :: r).length) && (isSg ((a :: r).getD 1 0) || esc ((a :: r).drop 1)) then (4, 1 + (nm ((a :: r).drop 1)).2, (nm ((a :: r).drop 1)).1, 0)
      else bif hd1 (a :: r) 64 && bg ((a :: r).drop 1) then (3, 1 + (nm ((a :: r).drop 1)).2, (nm ((a :: r).drop 1)).1, 0)
      else if nlen (a :: r) > 0 then numT (a :: r) else bif bg (a :: r) then nameT (a :: r) else (oneK ((a :: r).getD 0 0), 1, [], 0))) := by
  unfold hashB
  have e35 : (((a.toNat : Nat) : Int) == (35 : Int)) = (a == 35) := byte_eq a 35
  have hh : hd1 (a :: r) 35 = (a == 35) := rfl
  have hn := named_eq k (a :: r) 4 1 (by simp) hs (by omega)
  rw [show ((1 : Nat) : Int) = 1 from rfl] at hn
  simp only [e35, hh, tailB_eq k a r hs hk, hn]
  match r with
  | [] =>
    have hd : decide ((([a] : List UInt8).length : Int) > 1) = false := by simp
    have hd' : decide (1 < ([a] : List UInt8).length) = false := by simp
    have hc : (cond (a == 35) false false) = false := by cases (a == 35) <;> rfl
    simp only [hd, hd', hc, Bool.not_false, Bool.or_true, cond_true, cond_false, Bool.false_and, Option.bind_some, Bool.and_false]
  | b :: r =>
    have hd : decide (((a :: b :: r).length : Int) > 1) = true := by simp; omega
    have hd' : decide (1 < (a :: b :: r).length) = true := by simp
    have d1 : decide (0 ≤ (1 : Int) ∧ (1 : Int) < ((a :: b :: r).length : Int)) = true := by simp; omega
    have d2 : decide (0 ≤ (1 : Int) ∧ (1 : Int) ≤ ((a :: b :: r).length : Int)) = true := by simp; omega
    have g1 : (a :: b :: r).getD (1 : Int).toNat 0 = b := rfl
    have g1' : (a :: b :: r).getD 1 0 = b := rfl
    have g2 : (a :: b :: r).drop (1 : Int).toNat = b :: r := rfl
    have g2' : (a :: b :: r).drop 1 = b :: r := rfl
    simp only [hd, hd', d1, d2, g1, g1', g2, g2', Bool.true_or, cond_true, sign_eq, escape_eq, Bool.and_true]
    cases (a == 35) with
    | false => rfl
    | true =>
      cases hsg : isSg b with
      | true => rfl
      | false =>
        cases he : esc (b :: r) with
        | true => rfl
        | false => rfl

theorem first_eq (k : Nat) (s : List UInt8) (hs : s.length ≤ 10000000) (hk : s.length + 4 < k) (hne : s ≠ []) : csstok_first k s = some (tokO s (tok1 s)) := by
  have hl : 0 < s.length := List.length_pos_iff.2 hne
  unfold csstok_first
  rw [trim_bl]
  have hc1 := cnt_drop isBlank s
  have hc2 := cnt_le isBlank s
  have w : IntKind.wrap .i64 ((s.length : Int) - ((s.dropWhile isBlank).length : Int)) = ((cnt isBlank s : Nat) : Int) := by
    rw [wrap_i64 (by omega) (by omega)]; omega
  simp only [Option.bind_some, w]
  unfold tok1
  by_cases hb : cnt isBlank s > 0
  · rw [if_pos hb, cond_dec (by omega), cond_dec (by omega)]
    rfl
  · rw [if_neg hb, cond_ndec (by omega), cut_eq2]
    simp only [Option.bind_some]
    cases hn : (hd1 s 47 && hd1 (s.drop 1) 42) with
    | true =>
      simp only [cond_true]
      have hlen : 2 ≤ s.length := by
        rw [Bool.and_eq_true] at hn
        have := hd1_len hn.2
        simp at this; omega
      have hi : strings_Index k (s.drop 2) [42, 47] = some (Go.Lib.index (s.drop 2) [42, 47]) := by
        unfold strings_Index findS
        have : (s.drop 2).length.blt findMax = true := by simp [Nat.blt_eq, findMax]; omega
        rw [this]; rfl
      rw [hi]
      simp only [Option.bind_some]
      by_cases hx : Go.Lib.index (s.drop 2) [42, 47] ≥ 0
      · have hle := idx_le _ hx
        simp only [List.length_drop] at hle
        have w2 : IntKind.wrap .i64 (Go.Lib.index (s.drop 2) [42, 47] + 4) = Go.Lib.index (s.drop 2) [42, 47] + 4 := wrap_i64 (by omega) (by omega)
        rw [cond_dec hx]
        simp only [w2]
        rw [cond_dec (by omega)]
        have e : (Go.Lib.index (s.drop 2) [42, 47] + 4).toNat = noteN s := by
          unfold noteN; rw [if_pos hx]; omega
        rw [e]
        rfl
      · rw [cond_ndec hx]
        have e : noteN s = s.length := by unfold noteN; rw [if_neg hx]
        unfold csstok_first.c20 tokO
        simp [e]
    | false =>
      simp only [cond_false]
      rw [cond_dec (by omega)]
      match s, hne with
      | a :: r, hne =>
        have g0 : (a :: r).getD (0 : Int).toNat 0 = a := rfl
        have g0' : (a :: r).getD 0 0 = a := rfl
        have e39 : (((a.toNat : Nat) : Int) == (39 : Int)) = (a == 39) := byte_eq a 39
        have e34 : (((a.toNat : Nat) : Int) == (34 : Int)) = (a == 34) := byte_eq a 34
        simp only [g0, e39, e34]
        have hq : (cond (a == 39) true (a == 34)) = (hd1 (a :: r) 39 || hd1 (a :: r) 34) := by
          show _ = ((a == 39) || (a == 34))
          cases (a == 39) <;> rfl
        rw [hq]
        cases hqq : (hd1 (a :: r) 39 || hd1 (a :: r) 34) with
        | true =>
          simp only [cond_true]
          rw [text_eq k _ hs (by omega) hl]
          simp only [Option.bind_some, g0']
          cases (tx a ((a :: r).drop 1)).1 <;> rfl
        | false =>
          simp only [cond_false]
          exact hashB_eq k a r hs hk

end Go.Ev.Va

-- from EvVpU
set_option linter.unusedVariables false
namespace Go.Ev.Va
open Go Go.Ev.Tok

def mk (t : Int × List UInt8 × List UInt8 × Int) : S51 := ⟨t.1, t.2.1, t.2.2.1, t.2.2.2⟩
def toks (s : List UInt8) : List S51 := (cutP s).map mk

theorem toks_len (s : List UInt8) : (toks s).length ≤ s.length := by
  unfold toks; rw [List.length_map]; exact cutP_len _ s (Nat.le_refl _)

theorem cut_loop (k : Nat) (K : List S51 → Option (List S51)) : ∀ (n : Nat) (s : List UInt8) (acc : List S51), s.length ≤ 10000000 → s.length + 4 < k → s.length < n → acc.length + s.length ≤ 10000000 →
    csstok_Cut.c5 k n s acc K = K (acc ++ toks s)
  | 0, s, acc, _, _, h, _ => by omega
  | n + 1, [], acc, _, _, _, _ => by
    unfold csstok_Cut.c5
    show K acc = K (acc ++ [])
    rw [List.append_nil]
  | n + 1, a :: r, acc, hs, hk, hn, ha => by
    have h1 := tok1_ok (a :: r) (by simp)
    generalize hsr : (a :: r) = s at *
    have hne : s ≠ [] := by subst hsr; simp
    unfold csstok_Cut.c5
    have e0 : (!(s == ([] : List UInt8))) = true := by subst hsr; rfl
    rw [e0, cond_true, first_eq k s hs hk hne]
    simp only [Option.bind_some]
    have hl : (tokO s (tok1 s)).2.1.length = (tok1 s).2.1 := by
      show (s.take (tok1 s).2.1).length = _
      rw [List.length_take]; omega
    rw [hl, cond_dec (by rw [List.length_append]; simp only [List.length_cons, List.length_nil, most]; omega), cond_dec (by omega)]
    have e3 : ((tok1 s).2.1 : Int).toNat = (tok1 s).2.1 := rfl
    rw [e3, cut_loop k K n _ _ (by rw [List.length_drop]; omega) (by rw [List.length_drop]; omega) (by rw [List.length_drop]; omega)
      (by rw [List.length_drop, List.length_append]; simp only [List.length_cons, List.length_nil]; omega)]
    have e4 : toks s = mk (tokO s (tok1 s)) :: toks (s.drop (tok1 s).2.1) := by
      unfold toks; rw [cutP_cons s hne]; rfl
    rw [e4, List.append_assoc]
    rfl

theorem Cut_eq (k : Nat) (s : List UInt8) (hs : s.length ≤ 10000000) (hk : s.length + 4 < k) : csstok_Cut k s = some (toks s) := by
  unfold csstok_Cut
  rw [cut_loop k _ k s [] hs hk (by omega) (by simpa using hs)]
  rfl

end Go.Ev.Va

-- from EvVpC
set_option linter.unusedVariables false
set_option linter.unusedSimpArgs false
namespace Go.Ev.Va
open Go Go.Ev.Tok
theorem at' (L : List Tk) (i : Nat) (t : Tk) (r : List Tk) (h : L.drop i = t :: r) :
    i < L.length ∧ (L.map mk).getD i S51.d = mk t ∧ L.drop (i + 1) = r ∧ t ∈ L := by
  have hi : i < L.length := by
    rcases Nat.lt_or_ge i L.length with h1 | h1
    · exact h1
    · rw [List.drop_eq_nil_of_le h1] at h; cases h
  rw [List.drop_eq_getElem_cons hi] at h
  simp only [List.cons.injEq] at h
  refine ⟨hi, ?_, h.2, ?_⟩
  · rw [List.getD_eq_getElem?_getD, List.getElem?_map, List.getElem?_eq_getElem hi, h.1]; rfl
  · rw [← h.1]; exact List.getElem_mem hi

theorem silent_eq (k : Nat) (t : Tk) : cssrule_silent k t.1 t.2.1 t.2.2.1 t.2.2.2 = some (silT t) := by
  unfold cssrule_silent silT
  cases t.1 == 8 <;> rfl

/-- Tokens that can be read: none is without bytes, none is too long, and there are not too many. -/
structure Fit (L : List Tk) : Prop where
  ne : ∀ t ∈ L, t.2.1 ≠ []
  sz : ∀ t ∈ L, t.2.1.length ≤ 10000000
  va : ∀ t ∈ L, t.2.2.1.length ≤ 10000000
  len : L.length ≤ 10000000

theorem Fit.sub {L M : List Tk} (h : Fit L) (hs : M.Sublist L) : Fit M :=
  ⟨fun t ht => h.ne t (hs.subset ht), fun t ht => h.sz t (hs.subset ht), fun t ht => h.va t (hs.subset ht), Nat.le_trans hs.length_le h.len⟩

theorem Fit.drop {L : List Tk} (h : Fit L) (n : Nat) : Fit (L.drop n) := h.sub (List.drop_sublist n L)
theorem Fit.take {L : List Tk} (h : Fit L) (n : Nat) : Fit (L.take n) := h.sub (List.take_sublist n L)

theorem Fit.cut (s : List UInt8) (h : s.length ≤ 10000000) : Fit (cutP s) := by
  have hr := cutP_raw _ s (Nat.le_refl _)
  have hz : ∀ t ∈ cutP s, t.2.1.length ≤ s.length := by
    intro t ht
    have : t.2.1.Sublist (rw (cutP s)) := List.sublist_flatten_of_mem (List.mem_map_of_mem (f := fun t : Tk => t.2.1) ht)
    rw [rw_cut] at this
    exact this.length_le
  refine ⟨hr.2, fun t ht => by have := hz t ht; omega, fun t ht => by have := hz t ht; have := cut_val _ s (Nat.le_refl _) t ht; omega, by have := cutP_len _ s (Nat.le_refl _); omega⟩

theorem rw_sub {L M : List Tk} (h : M.Sublist L) : (rw M).length ≤ (rw L).length := by
  induction h with
  | slnil => simp
  | cons a h ih => rw [rw_cons, List.length_append]; omega
  | cons_cons a h ih => rw [rw_cons, rw_cons, List.length_append, List.length_append]; omega
theorem Head_loop (k : Nat) (L : List Tk) (h : Fit L) (hr : (rw L).length + L.length ≤ 100000000) (K : List UInt8 → Option (List UInt8)) : ∀ (n i : Nat) (gap : Bool) (acc : List UInt8), i ≤ L.length → L.length - i < n →
    (gap = true → acc ≠ []) → acc.length + (rw (L.drop i)).length + (L.length - i) ≤ 100000000 →
    cssrule_Head.c9 k n gap (L.map mk) (L.length : Int) (i : Int) acc K = K (acc ++ hdP (!acc.isEmpty) gap (L.drop i))
  | 0, i, _, _, _, h, _, _ => by omega
  | n + 1, i, gap, acc, hi, hn, hg, hm => by
    have hl := h.len
    unfold cssrule_Head.c9
    simp only [List.length_map, Int.toNat_natCast]
    match hd : L.drop i with
    | [] =>
      have hi2 : i = L.length := by
        have := congrArg List.length hd
        simp at this; omega
      rw [cond_ndec (by omega)]
      show K acc = K (acc ++ [])
      rw [List.append_nil]
    | t :: r =>
      obtain ⟨h1, h2, h3, h4⟩ := at' L i t r hd
      have w1 : IntKind.wrap .i64 ((i : Int) + 1) = ((i + 1 : Nat) : Int) := by rw [wrap_i64 (by omega) (by omega)]; omega
      rw [hd, rw_cons, List.length_append] at hm
      have hmr : (rw (L.drop (i + 1))).length = (rw r).length := by rw [h3]
      rw [cond_dec (by omega), cond_dec (by omega), h2, show cssrule_silent k (mk t).Kind (mk t).Raw (mk t).Value (mk t).Num = some (silT t) from silent_eq k t]
      simp only [Option.bind_some, w1]
      rw [hdP]
      cases hs : silT t with
      | true =>
        simp only [cond_true]
        show cssrule_Head.c9 k n (decide ((acc.length : Int) > 0)) (L.map mk) (L.length : Int) ((i + 1 : Nat) : Int) acc K = _
        have hg2 : (decide ((acc.length : Int) > 0)) = !acc.isEmpty := by
          cases acc with
          | nil => rfl
          | cons a b => simp
        rw [hg2, Head_loop k L h hr K n (i + 1) (!acc.isEmpty) acc (by omega) (by omega) (by intro e; cases acc <;> simp at e ⊢) (by omega), h3]
      | false =>
        simp only [cond_false]
        have hne : t.2.1 ≠ [] := h.ne t h4
        have hws : ∀ (x : List UInt8), x.length + t.2.1.length ≤ 100000000 → f__strings_Builder__WriteString k t.2.1 x = some ((t.2.1.length : Int), x ++ t.2.1) := by
          intro x hx
          unfold f__strings_Builder__WriteString
          rw [wStr_ok x t.2.1 (by unfold blMax; omega)]
          rfl
        have hnn : ∀ x : List UInt8, x ++ t.2.1 ≠ [] := by intro x e; exact hne (List.append_eq_nil_iff.1 e).2
        have hem : ∀ x : List UInt8, (!(x ++ t.2.1).isEmpty) = true := by
          intro x
          cases hx : x ++ t.2.1 with
          | nil => exact absurd hx (hnn x)
          | cons a b => rfl
        unfold cssrule_Head.c20
        cases gap with
        | false =>
          simp only [cond_false]
          rw [show f__strings_Builder__WriteString k (mk t).Raw acc = _ from hws acc (by omega)]
          simp only [Option.bind_some, w1]
          rw [Head_loop k L h hr K n (i + 1) false (acc ++ t.2.1) (by omega) (by omega) (by intro e; cases e) (by rw [List.length_append]; omega), h3, hem]
          simp
        | true =>
          simp only [cond_true]
          have hb : f__strings_Builder__WriteByte k 32 acc = some (acc ++ [32]) := wByte_at acc 32 (by omega)
          rw [hb]
          simp only [Option.bind_some]
          rw [show f__strings_Builder__WriteString k (mk t).Raw (acc ++ [32]) = _ from hws (acc ++ [32]) (by rw [List.length_append]; simp only [List.length_cons, List.length_nil]; omega)]
          simp only [Option.bind_some, w1]
          rw [Head_loop k L h hr K n (i + 1) false (acc ++ [32] ++ t.2.1) (by omega) (by omega) (by intro e; cases e)
            (by rw [List.length_append, List.length_append]; simp only [List.length_cons, List.length_nil]; omega), h3, hem]
          simp [List.append_assoc]

theorem Head_eq (k : Nat) (hk : 10000001 < k) (L : List Tk) (h : Fit L) (hr : (rw L).length ≤ 10000000) : cssrule_Head k (L.map mk) = some (hdP false false L) := by
  have hl := h.len
  unfold cssrule_Head
  rw [List.length_map]
  have := Head_loop k L h (by omega) (fun y32 => (f__strings_Builder__String k y32).bind fun r33 => some r33.1) k 0 false [] (by omega) (by omega) (by intro e; cases e) (by simp; omega)
  rw [List.drop_zero] at this
  rw [show (0 : Int) = ((0 : Nat) : Int) from rfl, this]
  rfl
theorem fold_eq (k : Nat) (t : Tk) (s : List UInt8) (h : t.2.2.1.length ≤ 10000000) (hs : (s.all foldC && s.length.blt 4294967281) = true) : strings_EqualFold k t.2.2.1 s = some (fldT t s) := by
  rw [Bool.and_eq_true] at hs
  unfold strings_EqualFold foldS
  rw [hs.1, hs.2]
  have : t.2.2.1.length.blt 4294967281 = true := by simp [Nat.blt_eq]; omega
  rw [this]
  rfl


end Go.Ev.Va

-- from EvVpA
set_option linter.unusedVariables false
set_option linter.unusedSimpArgs false
set_option maxRecDepth 100000
namespace Go.Ev.Va
open Go Go.Ev.Tok

def varT (t : Tk) : Bool := t.1 == 2 && fldT t [118, 97, 114]

theorem isVar_eq (k : Nat) (t : Tk) (h : t.2.2.1.length ≤ 10000000) : vars_isVar k t.1 t.2.1 t.2.2.1 t.2.2.2 = some (varT t) := by
  unfold vars_isVar varT
  rw [fold_eq k t [118, 97, 114] h (by decide)]
  cases t.1 == 2 <;> rfl

theorem closer_some (k : Nat) (t : Tk) (h : t.2.1 ≠ []) (hl : t.2.1.length ≤ 10000000) : ∃ c, vars_closer k t.1 t.2.1 t.2.2.1 t.2.2.2 = some c := by
  unfold vars_closer
  have hp : 0 < t.2.1.length := List.length_pos_iff.2 h
  have w : IntKind.wrap .i64 ((t.2.1.length : Int) - 1) = ((t.2.1.length - 1 : Nat) : Int) := by rw [wrap_i64 (by omega) (by omega)]; omega
  simp only [w]
  rw [cond_dec (by omega)]
  generalize (((t.2.1.getD (((t.2.1.length - 1 : Nat) : Int)).toNat 0).toNat : Int) == (91 : Int)) = p
  generalize (((t.2.1.getD (((t.2.1.length - 1 : Nat) : Int)).toNat 0).toNat : Int) == (123 : Int)) = q
  cases p <;> cases q <;> exact ⟨_, rfl⟩

def Res (L : List Tk) (x : Option Int) : Prop := ∃ r : Nat, x = some (r : Int) ∧ (r = 0 ∨ (2 ≤ r ∧ r ≤ L.length))

theorem closed_loop (k : Nat) (L : List Tk) (h : Fit L) : ∀ (n i : Nat) (w : List (List UInt8)), w ≠ [] → 1 ≤ i → i ≤ L.length → L.length - i < n → w.length ≤ i →
    Res L (vars_closed.c7 k n (L.map mk) (L.length : Int) (i : Int) w (some (0 : Int)))
  | 0, i, w, _, _, _, h, _ => by omega
  | n + 1, i, w, hw, hi1, hi, hn, hwl => by
    have hl := h.len
    unfold vars_closed.c7
    simp only [List.length_map, Int.toNat_natCast]
    match hd : L.drop i with
    | [] =>
      have hi2 : i = L.length := by
        have := congrArg List.length hd
        simp at this; omega
      rw [cond_ndec (by omega)]
      exact ⟨0, rfl, .inl rfl⟩
    | t :: r =>
      obtain ⟨h1, h2, h3, h4⟩ := at' L i t r hd
      have w1 : IntKind.wrap .i64 ((i : Int) + 1) = ((i + 1 : Nat) : Int) := by rw [wrap_i64 (by omega) (by omega)]; omega
      have hc24 : ∀ w' : List (List UInt8), w'.length ≤ i + 1 → Res L (vars_closed.c24 k (i : Int) (L.map mk) (L.length : Int) (i : Int) w' (fun (y15 : List S51) (y16 : Int) (y17 : Int) (y18 : List (List UInt8)) =>
          vars_closed.c7 k n y15 y16 (IntKind.wrap .i64 (y17 + (1 : Int))) y18 (some (0 : Int)))) := by
        intro w' hw'
        unfold vars_closed.c24
        simp only [w1]
        cases hz : ((w'.length : Int) == (0 : Int)) with
        | true => exact ⟨i + 1, rfl, .inr ⟨by omega, by omega⟩⟩
        | false =>
          simp only [cond_false]
          have hne : w' ≠ [] := by intro e; subst e; simp at hz
          exact closed_loop k L h n (i + 1) w' hne (by omega) (by omega) (by omega) hw'
      rw [cond_dec (by omega), cond_dec (by omega), h2]
      obtain ⟨c, hcl⟩ := closer_some k t (h.ne t h4) (h.sz t h4)
      rw [show vars_closer k (mk t).Kind (mk t).Raw (mk t).Value (mk t).Num = some c from hcl]
      simp only [Option.bind_some]
      have hwp : 0 < w.length := List.length_pos_iff.2 hw
      have wl : IntKind.wrap .i64 ((w.length : Int) - 1) = ((w.length - 1 : Nat) : Int) := by rw [wrap_i64 (by omega) (by omega)]; omega
      have hpush : Res L (cond (decide ((w ++ [c]).length < most)) (vars_closed.c24 k (i : Int) (L.map mk) (L.length : Int) (i : Int) (w ++ [c]) (fun (y15 : List S51) (y16 : Int) (y17 : Int) (y18 : List (List UInt8)) =>
          vars_closed.c7 k n y15 y16 (IntKind.wrap .i64 (y17 + (1 : Int))) y18 (some (0 : Int)))) none) := by
        rw [cond_dec (by rw [List.length_append]; simp only [List.length_cons, List.length_nil]; unfold most; omega)]
        exact hc24 _ (by rw [List.length_append]; simp only [List.length_cons, List.length_nil]; omega)
      have hpop : Res L (cond (decide (0 ≤ ((w.length - 1 : Nat) : Int) ∧ ((w.length - 1 : Nat) : Int) < (w.length : Int))) (cond ((mk t).Raw == w.getD ((w.length - 1 : Nat) : Int).toNat [])
          (cond (decide (0 ≤ ((w.length - 1 : Nat) : Int) ∧ ((w.length - 1 : Nat) : Int) ≤ (w.length : Int))) (vars_closed.c24 k (i : Int) (L.map mk) (L.length : Int) (i : Int) ((w.drop 0).take ((w.length - 1 : Nat) : Int).toNat) (fun (y15 : List S51) (y16 : Int) (y17 : Int) (y18 : List (List UInt8)) =>
          vars_closed.c7 k n y15 y16 (IntKind.wrap .i64 (y17 + (1 : Int))) y18 (some (0 : Int)))) none)
          (vars_closed.c24 k (i : Int) (L.map mk) (L.length : Int) (i : Int) w (fun (y15 : List S51) (y16 : Int) (y17 : Int) (y18 : List (List UInt8)) =>
          vars_closed.c7 k n y15 y16 (IntKind.wrap .i64 (y17 + (1 : Int))) y18 (some (0 : Int))))) none) := by
        rw [cond_dec (by omega), cond_dec (by omega)]
        cases (mk t).Raw == w.getD ((w.length - 1 : Nat) : Int).toNat [] with
        | true => exact hc24 _ (by simp only [List.drop_zero, List.length_take]; omega)
        | false => exact hc24 _ (by omega)
      simp only [wl]
      cases (mk t).Kind == (10 : Int) with
      | true => exact hpush
      | false =>
        cases (mk t).Kind == (2 : Int) with
        | true => exact hpush
        | false =>
          cases (mk t).Kind == (11 : Int) with
          | true => exact hpop
          | false => exact hc24 w (by omega)

theorem closed_ok (k : Nat) (hk : 10000001 < k) (t : Tk) (r : List Tk) (h : Fit (t :: r)) (ht : (t.1 == 2) = true) : Res (t :: r) (vars_closed k ((t :: r).map mk)) := by
  obtain ⟨k, rfl⟩ : ∃ m, k = m + 1 := ⟨k - 1, by omega⟩
  have hl := h.len
  have h10 : (t.1 == 10) = false := by rw [eq_of_beq ht]; rfl
  unfold vars_closed vars_closed.c7
  have e1 : (decide ((0 : Int) < ((((t :: r).map mk).length : Nat) : Int))) = true := decide_eq_true (by simp only [List.length_map, List.length_cons]; omega)
  have e2 : (decide (0 ≤ (0 : Int) ∧ (0 : Int) < ((((t :: r).map mk).length : Nat) : Int))) = true := decide_eq_true (by simp only [List.length_map, List.length_cons]; omega)
  have e3 : ((t :: r).map mk).getD (0 : Int).toNat S51.d = mk t := rfl
  simp only [e1, e2, e3, cond_true]
  rw [show ((mk t).Kind == (10 : Int)) = false from h10, show ((mk t).Kind == (2 : Int)) = true from ht]
  obtain ⟨c, hcl⟩ := closer_some (k + 1) t (h.ne t (by simp)) (h.sz t (by simp))
  simp only [cond_true, cond_false]
  rw [show vars_closer (k + 1) (mk t).Kind (mk t).Raw (mk t).Value (mk t).Num = some c from hcl]
  simp only [Option.bind_some, List.nil_append]
  rw [cond_dec (by simp only [List.length_cons, List.length_nil]; unfold most; omega)]
  unfold vars_closed.c24
  rw [show ((([c] : List (List UInt8)).length : Int) == (0 : Int)) = false from rfl]
  simp only [cond_false]
  have := closed_loop (k + 1) (t :: r) h k 1 [c] (by simp) (Nat.le_refl _) (by simp) (by omega) (by simp)
  rw [List.length_map]
  exact this

theorem silent_eq' (k : Nat) (t : Tk) : vars_silent k t.1 t.2.1 t.2.2.1 t.2.2.2 = some (silT t) := by
  unfold vars_silent silT
  cases t.1 == 8 <;> rfl

theorem asked3 (k : Nat) (K : List S51 → Option (List UInt8 × List S51 × Bool × Bool)) : ∀ (n : Nat) (L : List Tk), L.length ≤ 10000000 → L.length < n → vars_asked.c3 k n (L.map mk) K = K ((L.dropWhile silT).map mk)
  | 0, L, _, h => by omega
  | n + 1, [], _, _ => by
    unfold vars_asked.c3
    rfl
  | n + 1, t :: r, hl, h => by
    unfold vars_asked.c3
    simp only [List.length_cons] at hl h
    have e1 : (decide (((((t :: r).map mk).length : Nat) : Int) > 0)) = true := decide_eq_true (by simp only [List.length_map, List.length_cons]; omega)
    have e2 : (decide (0 ≤ (0 : Int) ∧ (0 : Int) < ((((t :: r).map mk).length : Nat) : Int))) = true := decide_eq_true (by simp only [List.length_map, List.length_cons]; omega)
    have e3 : ((t :: r).map mk).getD (0 : Int).toNat S51.d = mk t := rfl
    simp only [e1, e2, e3, Bool.true_or, cond_true]
    rw [show vars_silent k (mk t).Kind (mk t).Raw (mk t).Value (mk t).Num = some (silT t) from silent_eq' k t]
    simp only [Option.bind_some, List.dropWhile_cons]
    cases hs : silT t with
    | false => rfl
    | true =>
      simp only [cond_true, if_true]
      rw [cond_dec (by simp only [List.length_map, List.length_cons]; omega)]
      exact asked3 k K n r (by omega) (by omega)

theorem asked15 (k : Nat) (nm : List UInt8) (K : List S51 → List UInt8 → Option (List UInt8 × List S51 × Bool × Bool)) : ∀ (n : Nat) (L : List Tk), L.length ≤ 10000000 → L.length < n → vars_asked.c15 k n (L.map mk) nm K = K ((L.dropWhile silT).map mk) nm
  | 0, L, _, h => by omega
  | n + 1, [], _, _ => by
    unfold vars_asked.c15
    rfl
  | n + 1, t :: r, hl, h => by
    unfold vars_asked.c15
    simp only [List.length_cons] at hl h
    have e1 : (decide (((((t :: r).map mk).length : Nat) : Int) > 0)) = true := decide_eq_true (by simp only [List.length_map, List.length_cons]; omega)
    have e2 : (decide (0 ≤ (0 : Int) ∧ (0 : Int) < ((((t :: r).map mk).length : Nat) : Int))) = true := decide_eq_true (by simp only [List.length_map, List.length_cons]; omega)
    have e3 : ((t :: r).map mk).getD (0 : Int).toNat S51.d = mk t := rfl
    simp only [e1, e2, e3, Bool.true_or, cond_true]
    rw [show vars_silent k (mk t).Kind (mk t).Raw (mk t).Value (mk t).Num = some (silT t) from silent_eq' k t]
    simp only [Option.bind_some, List.dropWhile_cons]
    cases hs : silT t with
    | false => rfl
    | true =>
      simp only [cond_true, if_true]
      rw [cond_dec (by simp only [List.length_map, List.length_cons]; omega)]
      exact asked15 k nm K n r (by omega) (by omega)

theorem asked_ok (k : Nat) (hk : 10000001 < k) (L : List Tk) (h : L.length ≤ 10000000) : ∃ (nm : List UInt8) (M : List Tk) (b c : Bool), vars_asked k (L.map mk) = some (nm, M.map mk, b, c) ∧ M.Sublist L := by
  unfold vars_asked
  rw [asked3 k _ k L h (by omega)]
  have hs := List.dropWhile_sublist silT (l := L)
  generalize L.dropWhile silT = M at hs
  match M, hs with
  | [], _ => exact ⟨[], [], false, false, rfl, List.nil_sublist _⟩
  | t :: r, hs =>
    have hl : (t :: r).length ≤ L.length := hs.length_le
    have e0 : ((((((t :: r).map mk).length : Nat) : Int)) == 0) = false := by simp only [List.length_map, List.length_cons]; rw [beq_eq_false_iff_ne]; omega
    have e2 : (decide (0 ≤ (0 : Int) ∧ (0 : Int) < ((((t :: r).map mk).length : Nat) : Int))) = true := decide_eq_true (by simp only [List.length_map, List.length_cons]; omega)
    have e5 : (decide (0 ≤ (1 : Int) ∧ (1 : Int) ≤ ((((t :: r).map mk).length : Nat) : Int))) = true := decide_eq_true (by simp only [List.length_map, List.length_cons]; omega)
    have e3 : ((t :: r).map mk).getD (0 : Int).toNat S51.d = mk t := rfl
    have e4 : ((t :: r).map mk).drop (1 : Int).toNat = r.map mk := rfl
    simp only [e0, e2, e3, e4, e5, Bool.true_or, cond_true, cond_false]
    cases hn : ((mk t).Kind != (1 : Int)) with
    | true => exact ⟨[], [], false, false, rfl, List.nil_sublist _⟩
    | false =>
      simp only [cond_false]
      have hr : r.length ≤ 10000000 := by simp only [List.length_cons] at hl; omega
      rw [asked15 k _ _ k r hr (by omega)]
      have hs2 := (List.dropWhile_sublist silT (l := r)).trans ((List.sublist_cons_self t r).trans hs)
      generalize r.dropWhile silT = N at hs2
      match N, hs2 with
      | [], _ => exact ⟨_, [], false, true, rfl, List.nil_sublist _⟩
      | u :: q, hs2 =>
        have e0 : ((((((u :: q).map mk).length : Nat) : Int)) == 0) = false := by simp only [List.length_map, List.length_cons]; rw [beq_eq_false_iff_ne]; omega
        have e2 : (decide (0 ≤ (0 : Int) ∧ (0 : Int) < ((((u :: q).map mk).length : Nat) : Int))) = true := decide_eq_true (by simp only [List.length_map, List.length_cons]; omega)
        have e5 : (decide (0 ≤ (1 : Int) ∧ (1 : Int) ≤ ((((u :: q).map mk).length : Nat) : Int))) = true := decide_eq_true (by simp only [List.length_map, List.length_cons]; omega)
        have e3 : ((u :: q).map mk).getD (0 : Int).toNat S51.d = mk u := rfl
        have e4 : ((u :: q).map mk).drop (1 : Int).toNat = q.map mk := rfl
        simp only [e0, e2, e3, e4, e5, Bool.true_or, cond_true, cond_false]
        generalize (cond ((mk u).Kind != (12 : Int)) true (!((mk u).Raw == ([44] : List UInt8)))) = z
        cases z with
        | true => exact ⟨[], [], false, false, rfl, List.nil_sublist _⟩
        | false => exact ⟨_, q, true, true, rfl, (List.sublist_cons_self u q).trans hs2⟩

end Go.Ev.Va

-- from EvVaB

set_option linter.unusedVariables false
set_option linter.unusedSimpArgs false
set_option maxRecDepth 100000
namespace Go.Ev.Va
open Go Go.Ev.Tok

/-- Memory's reach, and a text's bound. -/
def R0 : Nat := 140737488351232

theorem hdP_len : ∀ (l : List Tk) (a b : Bool), (∀ t ∈ l, t.2.1 ≠ []) → (hdP a b l).length ≤ (rw l).length + (bif b then 1 else 0)
  | [], a, b, _ => by simp [hdP]
  | t :: r, a, b, h => by
    have hp : 0 < t.2.1.length := List.length_pos_iff.2 (h t (by simp))
    have hr : ∀ u ∈ r, u.2.1 ≠ [] := fun u hu => h u (by simp [hu])
    rw [hdP, rw_cons, List.length_append]
    cases silT t with
    | true =>
      simp only [cond_true]
      have := hdP_len r a a hr
      cases a <;> cases b <;> simp only [cond_true, cond_false] at this ⊢ <;> omega
    | false =>
      simp only [cond_false]
      have := hdP_len r true false hr
      cases b <;> simp only [cond_true, cond_false, List.length_append, List.length_cons, List.length_nil] at this ⊢ <;> omega

theorem lastF_len {f1 f2 : S27 → List UInt8} {B : Nat} (name : List UInt8) : ∀ l : List S27, (∀ x ∈ l, (f2 x).length ≤ B) → (Bw.lastF f1 f2 name l).1.length ≤ B
  | [], _ => Nat.zero_le _
  | x :: r, h => by
    rw [Bw.lastF]
    cases f1 x == name with
    | true => exact h x (by simp)
    | false => exact lastF_len name r fun y hy => h y (by simp [hy])

/-- What is asked of the values by names. -/
structure Vs (vs : List S27) : Prop where
  len : vs.length ≤ 1000
  val : ∀ x ∈ vs, x.2.length ≤ R0

theorem last_ok (k : Nat) {vs : List S27} (h : Vs vs) (nm : List UInt8) : ∃ o, vars_last k vs nm = some o ∧ o.1.length ≤ R0 := by
  refine ⟨Bw.lastF (fun x : S27 => x.1) (fun x : S27 => x.2) nm vs.reverse, ?_, ?_⟩
  · unfold vars_last Bw.lastS
    rw [show Nat.ble vs.length 281474976710656 = true from Nat.ble_eq_true_of_le (by have := h.len; omega)]
    rfl
  · exact lastF_len nm _ fun x hx => h.val x (by simpa using hx)

theorem put_ok (k : Nat) (hk : 10000001 < k) (r : vars_Fill.G.R) {vs : List S27} (hv : Vs vs) (L : List Tk) (h : Fit L) (m : Nat) (hm : (rw L).length ≤ m) (hm2 : m ≤ 10000000)
    (hr : ∀ s : List UInt8, s.length ≤ m → ∃ o, r.vars_Fill s vs = some o ∧ o.1.length ≤ R0) : ∃ o, vars_put.nat k r (L.map mk) vs = some o ∧ o.1.length ≤ R0 := by
  obtain ⟨nm, M, b, c, ha, hs⟩ := asked_ok k hk L h.len
  unfold vars_put.nat
  rw [ha]
  simp only [Option.bind_some]
  cases c with
  | false => exact ⟨_, rfl, Nat.zero_le _⟩
  | true =>
    simp only [Bool.not_true, cond_false]
    obtain ⟨o, ho, hl⟩ := last_ok k hv nm
    rw [ho]
    simp only [Option.bind_some]
    cases o.2 with
    | true => exact ⟨_, rfl, hl⟩
    | false =>
      simp only [cond_false]
      cases b with
      | false => exact ⟨_, rfl, Nat.zero_le _⟩
      | true =>
        have hM := rw_sub hs
        have hf := h.sub hs
        simp only [Bool.not_true, cond_false]
        rw [Head_eq k hk M hf (by omega)]
        simp only [Option.bind_some]
        have := hdP_len M false false hf.ne
        simp only [cond_false] at this
        obtain ⟨o', h1, h2⟩ := hr (hdP false false M) (by omega)
        rw [h1]
        exact ⟨_, rfl, h2⟩

theorem wStr_some (k : Nat) (s a : List UInt8) (h : a.length + s.length ≤ 140737488355328) : f__strings_Builder__WriteString k s a = some ((s.length : Int), a ++ s) := by
  unfold f__strings_Builder__WriteString
  rw [wStr_ok a s (by unfold blMax; omega)]
  rfl

/-- One value's tokens, from one on. -/
theorem fill_loop (k : Nat) (hk : 10000001 < k) (r : vars_Fill.G.R) {vs : List S27} (hv : Vs vs) (L : List Tk) (h : Fit L) (hm : (rw L).length ≤ 1000)
    (hr : ∀ M : List Tk, M.Sublist L → (rw M).length < (rw L).length → ∃ o, r.vars_put (M.map mk) vs = some o ∧ o.1.length ≤ R0)
    (K : List UInt8 → Option (List UInt8 × Bool)) (hK : ∀ a : List UInt8, a.length ≤ 3000 → ∃ o, K a = some o ∧ o.1.length ≤ R0 ∧ (o.2 = true → o.1.length ≤ 400)) : ∀ (n i : Nat) (acc : List UInt8), i ≤ L.length → L.length - i < n → acc.length + (rw (L.drop i)).length ≤ 3000 →
    ∃ o, vars_Fill.c13 k r n vs (L.map mk) (i : Int) acc K = some o ∧ o.1.length ≤ R0 ∧ (o.2 = true → o.1.length ≤ 400)
  | 0, i, acc, _, h, _ => by omega
  | n + 1, i, acc, hi, hn, hac => by
    have hl := h.len
    unfold vars_Fill.c13
    simp only [List.length_map, Int.toNat_natCast]
    match hd : L.drop i with
    | [] =>
      have hi2 : i = L.length := by
        have := congrArg List.length hd
        simp at this; omega
      rw [cond_ndec (by omega)]
      exact hK acc (by omega)
    | t :: q =>
      obtain ⟨h1, h2, h3, h4⟩ := at' L i t q hd
      have hne : 0 < t.2.1.length := List.length_pos_iff.2 (h.ne t h4)
      have w1 : IntKind.wrap .i64 ((i : Int) + 1) = ((i + 1 : Nat) : Int) := by rw [wrap_i64 (by omega) (by omega)]; omega
      have hd2 := rw_sub (List.drop_sublist i L)
      rw [hd, rw_cons, List.length_append] at hac hd2
      rw [cond_dec (by omega), cond_dec (by omega), h2, show vars_isVar k (mk t).Kind (mk t).Raw (mk t).Value (mk t).Num = some (varT t) from isVar_eq k t (h.va t h4)]
      simp only [Option.bind_some]
      cases hvt : varT t with
      | false =>
        simp only [Bool.not_false, cond_true]
        rw [cond_dec (by omega), show f__strings_Builder__WriteString k (mk t).Raw acc = _ from wStr_some k t.2.1 acc (by omega)]
        simp only [Option.bind_some, w1]
        exact fill_loop k hk r hv L h hm hr K hK n (i + 1) (acc ++ t.2.1) (by omega) (by omega) (by rw [List.length_append, h3]; omega)
      | true =>
        simp only [Bool.not_true, cond_false]
        rw [cond_dec (by omega)]
        have hdr : (L.map mk).drop i = (t :: q).map mk := by rw [← List.map_drop, hd]
        rw [hdr]
        have hfq : Fit (t :: q) := by rw [← hd]; exact h.drop i
        have hlq : (t :: q).length = L.length - i := by rw [← hd, List.length_drop]
        have ht2 : (t.1 == 2) = true := by unfold varT at hvt; rw [Bool.and_eq_true] at hvt; exact hvt.1
        obtain ⟨z, hz, hz2⟩ := closed_ok k hk t q hfq ht2
        rw [hz]
        simp only [Option.bind_some]
        rcases hz2 with rfl | ⟨hz2, hz3⟩
        · exact ⟨_, rfl, Nat.zero_le _, fun h => by cases h⟩
        · have hz0 : ((z : Int) == (0 : Int)) = false := by rw [beq_eq_false_iff_ne]; omega
          have w2 : IntKind.wrap .i64 ((i : Int) + (z : Int)) = ((i + z : Nat) : Int) := by rw [wrap_i64 (by omega) (by omega)]; omega
          have w3 : IntKind.wrap .i64 (((i + z : Nat) : Int) - 1) = ((i + z - 1 : Nat) : Int) := by rw [wrap_i64 (by omega) (by omega)]; omega
          rw [hz0]
          simp only [cond_false, w1, w2, w3, Int.toNat_natCast]
          rw [cond_dec (by omega)]
          have hsl : ((L.map mk).take (i + z - 1)).drop (i + 1) = ((q.take (z - 2)).map mk) := by
            rw [List.drop_take, ← List.map_drop, h3, ← List.map_take]
            congr 2; omega
          rw [hsl]
          have hsq : (q.take (z - 2)).Sublist L := (List.take_sublist _ _).trans ((List.sublist_cons_self t q).trans (by rw [← hd]; exact List.drop_sublist i L))
          have hlen1 := rw_sub (List.take_sublist (z - 2) q)
          obtain ⟨o, ho, hol⟩ := hr (q.take (z - 2)) hsq (by omega)
          rw [ho]
          simp only [Option.bind_some]
          cases o.2 with
          | false => exact ⟨_, rfl, Nat.zero_le _, fun h => by cases h⟩
          | true =>
            simp only [Bool.not_true, cond_false]
            unfold R0 at hol
            rw [wStr_some k o.1 acc (by omega)]
            simp only [Option.bind_some]
            unfold f__strings_Builder__Len
            simp only [Option.bind_some]
            by_cases hbig : (((acc ++ o.1).length : Int) > 400)
            · rw [cond_dec hbig]; exact ⟨_, rfl, Nat.zero_le _, fun h => by cases h⟩
            · rw [cond_ndec hbig]
              have hd3 := rw_sub (List.drop_sublist (i + z) L)
              exact fill_loop k hk r hv L h hm hr K hK n (i + z) (acc ++ o.1) (by omega) (by omega) (by omega)

theorem end_ok (k : Nat) (a : List UInt8) : ((f__strings_Builder__String k a).bind fun r10 => (f__strings_Builder__Len k r10.2).bind fun r11 => some (r10.1, (decide (r11.1 ≤ (400 : Int))))) = some (a, decide ((a.length : Int) ≤ 400)) := rfl

theorem rec_ok (k : Nat) (hk : 10000001 < k) {vs : List S27} (hv : Vs vs) : ∀ (j m : Nat) (s : List UInt8), s.length ≤ j → j ≤ 400 → 2 * j + 1 ≤ m → ∃ o, (vars_Fill.G.rec k m).vars_Fill s vs = some o ∧ o.1.length ≤ R0 ∧ (o.2 = true → o.1.length ≤ 400)
  | j, 0, s, _, _, h => by omega
  | j, n + 1, s, hs, hj, hm => by
    show ∃ o, vars_Fill.nat k (vars_Fill.G.rec k n) s vs = some o ∧ o.1.length ≤ R0 ∧ (o.2 = true → o.1.length ≤ 400)
    unfold vars_Fill.nat
    rw [show (decide ((s.length : Int) > 400)) = false from decide_eq_false (by omega)]
    simp only [cond_false]
    rw [Cut_eq k s (by omega) (by omega)]
    simp only [Option.bind_some]
    have hf := Fit.cut s (by omega)
    have hrw := rw_cut s
    refine fill_loop k hk _ hv (cutP s) hf (by rw [hrw]; omega) (fun M hM hlt => ?_) _ (fun a ha => ⟨_, end_ok k a, by show a.length ≤ 140737488351232; omega, fun h => by have := of_decide_eq_true h; show a.length ≤ 400; omega⟩) k 0 [] (Nat.zero_le _) (by have := hf.len; omega) (by rw [List.drop_zero, hrw]; simp; omega)
    rw [hrw] at hlt
    obtain ⟨n', rfl⟩ : ∃ n', n = n' + 1 := ⟨n - 1, by omega⟩
    show ∃ o, vars_put.nat k (vars_Fill.G.rec k n') (M.map mk) vs = some o ∧ o.1.length ≤ R0
    exact put_ok k hk _ hv M (hf.sub hM) (j - 1) (by omega) (by omega) fun s' hs' => by obtain ⟨o, h1, h2, _⟩ := rec_ok k hk hv (j - 1) n' s' hs' (by omega) (by omega); exact ⟨o, h1, h2⟩
termination_by j m => m

theorem Fill_ok (k : Nat) (hk : 10000001 < k) {vs : List S27} (hv : Vs vs) (s : List UInt8) : ∃ o, vars_Fill k s vs = some o ∧ (o.2 = true → o.1.length ≤ 400) := by
  by_cases hs : s.length ≤ 400
  · obtain ⟨o, h, _, h2⟩ := rec_ok k hk hv 400 k s hs (Nat.le_refl _) (by omega)
    exact ⟨o, h, h2⟩
  · obtain ⟨n, rfl⟩ : ∃ n, k = n + 1 := ⟨k - 1, by omega⟩
    refine ⟨([], false), ?_, fun h => by cases h⟩
    show vars_Fill.nat (n + 1) (vars_Fill.G.rec (n + 1) n) s vs = _
    unfold vars_Fill.nat
    rw [show (decide ((s.length : Int) > 400)) = true from decide_eq_true (by omega)]
    rfl

/-- Tokens that ask for nothing. -/
theorem plain_loop (k : Nat) (r : vars_Fill.G.R) (vs : List S27) (L : List Tk) (h : Fit L) (hp : ∀ t ∈ L, varT t = false) (K : List UInt8 → Option (List UInt8 × Bool)) : ∀ (n i : Nat) (acc : List UInt8), i ≤ L.length → L.length - i < n → acc.length + (rw (L.drop i)).length ≤ 3000 →
    vars_Fill.c13 k r n vs (L.map mk) (i : Int) acc K = K (acc ++ rw (L.drop i))
  | 0, i, acc, _, h, _ => by omega
  | n + 1, i, acc, hi, hn, hac => by
    have hl := h.len
    unfold vars_Fill.c13
    simp only [List.length_map, Int.toNat_natCast]
    match hd : L.drop i with
    | [] =>
      have hi2 : i = L.length := by
        have := congrArg List.length hd
        simp at this; omega
      rw [cond_ndec (by omega), rw_nil, List.append_nil]
    | t :: q =>
      obtain ⟨h1, h2, h3, h4⟩ := at' L i t q hd
      have w1 : IntKind.wrap .i64 ((i : Int) + 1) = ((i + 1 : Nat) : Int) := by rw [wrap_i64 (by omega) (by omega)]; omega
      rw [hd, rw_cons, List.length_append] at hac
      rw [cond_dec (by omega), cond_dec (by omega), h2, show vars_isVar k (mk t).Kind (mk t).Raw (mk t).Value (mk t).Num = some (varT t) from isVar_eq k t (h.va t h4), hp t h4]
      simp only [Option.bind_some, Bool.not_false, cond_true]
      rw [cond_dec (by omega), show f__strings_Builder__WriteString k (mk t).Raw acc = _ from wStr_some k t.2.1 acc (by omega)]
      simp only [Option.bind_some, w1]
      rw [plain_loop k r vs L h hp K n (i + 1) (acc ++ t.2.1) (by omega) (by omega) (by rw [List.length_append, h3]; omega), h3, rw_cons, List.append_assoc]

theorem Fill_plain (k : Nat) (hk : 10000001 < k) (vs : List S27) (s : List UInt8) (hp : ∀ t ∈ cutP s, varT t = false) : vars_Fill k s vs = some (bif decide (s.length ≤ 400) then (s, true) else ([], false)) := by
  obtain ⟨n, rfl⟩ : ∃ n, k = n + 1 := ⟨k - 1, by omega⟩
  show vars_Fill.nat (n + 1) (vars_Fill.G.rec (n + 1) n) s vs = _
  unfold vars_Fill.nat
  by_cases hs : s.length ≤ 400
  · rw [show (decide ((s.length : Int) > 400)) = false from decide_eq_false (by omega)]
    simp only [cond_false]
    rw [Cut_eq (n + 1) s (by omega) (by omega)]
    simp only [Option.bind_some]
    have hf := Fit.cut s (by omega)
    have := plain_loop (n + 1) (vars_Fill.G.rec (n + 1) n) vs (cutP s) hf hp (fun a => (f__strings_Builder__String (n + 1) a).bind fun r10 => (f__strings_Builder__Len (n + 1) r10.2).bind fun r11 => some (r10.1, (decide (r11.1 ≤ (400 : Int))))) (n + 1) 0 [] (Nat.zero_le _) (by have := hf.len; omega) (by rw [List.drop_zero, rw_cut]; simp; omega)
    rw [List.drop_zero, rw_cut, List.nil_append] at this
    rw [decide_eq_true hs]
    refine this.trans ?_
    show some (s, decide ((s.length : Int) ≤ 400)) = _
    rw [decide_eq_true (by omega : (s.length : Int) ≤ 400)]
    rfl
  · rw [show (decide ((s.length : Int) > 400)) = true from decide_eq_true (by omega), decide_eq_false hs]
    rfl

theorem tok1_fun (s : List UInt8) (h : (tok1 s).1 = 2) : ∃ j, (tok1 s).2.1 = j + 1 ∧ hd1 (s.drop j) 40 = true := by
  unfold tok1 at h ⊢
  by_cases c1 : cnt isBlank s > 0
  · rw [if_pos c1] at h; cases h
  rw [if_neg c1] at h ⊢
  cases c2 : hd1 s 47 && hd1 (s.drop 1) 42 with
  | true => rw [c2] at h; cases h
  | false =>
  rw [c2] at h
  simp only [cond_false] at h ⊢
  cases c3 : hd1 s 39 || hd1 s 34 with
  | true =>
    rw [c3] at h
    cases c4 : (tx (s.getD 0 0) (s.drop 1)).1 <;> rw [c4] at h <;> cases h
  | false =>
  rw [c3] at h
  simp only [cond_false] at h ⊢
  cases c5 : hd1 s 35 && decide (1 < s.length) && (isSg (s.getD 1 0) || esc (s.drop 1)) with
  | true => rw [c5] at h; cases h
  | false =>
  rw [c5] at h
  simp only [cond_false] at h ⊢
  cases c6 : hd1 s 64 && bg (s.drop 1) with
  | true => rw [c6] at h; cases h
  | false =>
  rw [c6] at h
  simp only [cond_false] at h ⊢
  by_cases c7 : nlen s > 0
  · rw [if_pos c7] at h
    unfold numT at h
    cases c9 : hd1 (s.drop (nlen s)) 37 with
    | true => rw [c9] at h; cases h
    | false =>
      rw [c9] at h
      cases c10 : bg (s.drop (nlen s)) <;> rw [c10] at h <;> cases h
  rw [if_neg c7] at h ⊢
  cases c8 : bg s with
  | true =>
    rw [c8] at h
    simp only [cond_true] at h ⊢
    unfold nameT at h ⊢
    cases c9 : hd1 (s.drop (nm s).2) 40 with
    | true => exact ⟨_, rfl, c9⟩
    | false => rw [c9] at h; cases h
  | false =>
    rw [c8] at h
    simp only [cond_false] at h
    unfold oneK at h
    generalize (s.getD 0 0 == 40 || s.getD 0 0 == 91 || s.getD 0 0 == 123) = p at h
    generalize (s.getD 0 0 == 41 || s.getD 0 0 == 93 || s.getD 0 0 == 125) = q at h
    generalize (s.getD 0 0 == 92) = r at h
    cases p <;> cases q <;> cases r <;> cases h

/-- A token that opens has a bracket. -/
theorem fun_has : ∀ (n : Nat) (s : List UInt8), s.length ≤ n → ∀ t ∈ cutP s, (t.1 == 2) = true → (40 : UInt8) ∈ t.2.1
  | 0, s, h, t, ht, _ => by
    have : s = [] := List.length_eq_zero_iff.1 (by omega)
    subst this
    simp [cutP_nil] at ht
  | n + 1, s, h, t, ht, h2 => by
    by_cases hs : s = []
    · subst hs; simp [cutP_nil] at ht
    · rw [cutP_cons s hs] at ht
      have hp := (tok1_ok s hs).1
      rcases List.mem_cons.1 ht with rfl | ht
      · have h2 := eq_of_beq h2
        unfold tokO at h2 ⊢
        simp only at h2 ⊢
        obtain ⟨j, hj, hd⟩ := tok1_fun s h2
        rw [hj]
        have hl := hd1_pos hd
        rw [List.length_drop] at hl
        have : s[j]'(by omega) = 40 := by
          rw [List.drop_eq_getElem_cons (by omega)] at hd
          exact eq_of_beq hd
        exact List.mem_of_getElem? (i := j) (by rw [List.getElem?_take_of_lt (by omega), List.getElem?_eq_getElem (by omega), this])
      · exact fun_has n _ (by rw [List.length_drop]; have : 0 < s.length := List.length_pos_iff.2 hs; omega) t ht h2

end Go.Ev.Va

-- from EvVaC
set_option linter.unusedVariables false
set_option linter.unusedSimpArgs false
set_option maxRecDepth 100000
namespace Go.Ev.Va
open Go Go.Ev.Tok

/-- The bound of what comes in. -/
def NB : Nat := 1048576

/-- The name behind a bracket. -/
def ask1 (r : List Tk) : List (List UInt8) :=
  match r.dropWhile silT with
  | [] => []
  | x :: _ => bif x.1 == 1 then [x.2.2.1] else []

def onL : List Tk → List (List UInt8)
  | [] => []
  | t :: r => (bif varT t then ask1 r else []) ++ onL r

theorem ask1_cons (t : Tk) (r : List Tk) : ask1 (t :: r) = bif silT t then ask1 r else bif t.1 == 1 then [t.2.2.1] else [] := by
  unfold ask1
  rw [List.dropWhile_cons]
  cases silT t <;> rfl

theorem ask1_len (r : List Tk) : (ask1 r).length ≤ 1 := by
  unfold ask1
  split
  · simp
  · rename_i x q _
    cases x.1 == 1 <;> simp

theorem onL_len : ∀ l : List Tk, (onL l).length ≤ l.length
  | [] => Nat.le_refl _
  | t :: r => by
    rw [onL, List.length_append, List.length_cons]
    have := onL_len r
    cases varT t with
    | true => have := ask1_len r; simp only [cond_true]; omega
    | false => simp only [cond_false, List.length_nil]; omega

theorem most_ok {n : Nat} (h : n ≤ 4000000000) : decide (n < most) = true := decide_eq_true (by unfold most; omega)

theorem on_in (k : Nat) (A B : List S51) (x y : Int) (M : List Tk) (hM : M.length ≤ 100000000) (K : List S51 → List S51 → Int → Int → List (List UInt8) → Option (List (List UInt8))) : ∀ (n i : Nat) (out : List (List UInt8)), i ≤ M.length → M.length - i < n → out.length ≤ 1000000000 →
    vars_on.c17 k n A B x y (M.map mk) (M.length : Int) (i : Int) out K = K A B x y (out ++ ask1 (M.drop i))
  | 0, i, out, _, h, _ => by omega
  | n + 1, i, out, hi, hn, ho => by
    unfold vars_on.c17
    simp only [List.length_map, Int.toNat_natCast]
    match hd : M.drop i with
    | [] =>
      have hi2 : i = M.length := by
        have := congrArg List.length hd
        simp at this; omega
      rw [cond_ndec (by omega)]
      unfold ask1
      simp
    | t :: q =>
      obtain ⟨h1, h2, h3, h4⟩ := at' M i t q hd
      have w1 : IntKind.wrap .i64 ((i : Int) + 1) = ((i + 1 : Nat) : Int) := by rw [wrap_i64 (by omega) (by omega)]; omega
      rw [cond_dec (by omega), cond_dec (by omega)]
      simp only [h2, show vars_silent k (mk t).Kind (mk t).Raw (mk t).Value (mk t).Num = some (silT t) from silent_eq' k t, Option.bind_some]
      rw [ask1_cons]
      cases silT t with
      | true =>
        simp only [cond_true, w1]
        rw [on_in k A B x y M hM K n (i + 1) out (by omega) (by omega) ho, h3]
      | false =>
        simp only [cond_false]
        show (cond (t.1 == 1) _ _) = _
        cases t.1 == 1 with
        | true =>
          simp only [cond_true]
          rw [show (decide ((out ++ [(mk t).Value]).length < most)) = true from most_ok (by rw [List.length_append]; simp; omega)]
          rfl
        | false =>
          simp only [cond_false, List.append_nil]

theorem on_out (k : Nat) (hk : 10000001 < k) (L : List Tk) (h : Fit L) (K : List (List UInt8) → Option (List (List UInt8))) : ∀ (n i : Nat) (out : List (List UInt8)), i ≤ L.length → L.length - i < n → out.length ≤ i →
    vars_on.c9 k n (L.map mk) (L.map mk) (L.length : Int) (i : Int) out K = K (out ++ onL (L.drop i))
  | 0, i, out, _, h, _ => by omega
  | n + 1, i, out, hi, hn, ho => by
    have hl := h.len
    unfold vars_on.c9
    simp only [List.length_map, Int.toNat_natCast]
    match hd : L.drop i with
    | [] =>
      have hi2 : i = L.length := by
        have := congrArg List.length hd
        simp at this; omega
      rw [cond_ndec (by omega)]
      rw [show onL [] = [] from rfl, List.append_nil]
    | t :: q =>
      obtain ⟨h1, h2, h3, h4⟩ := at' L i t q hd
      have w1 : IntKind.wrap .i64 ((i : Int) + 1) = ((i + 1 : Nat) : Int) := by rw [wrap_i64 (by omega) (by omega)]; omega
      rw [cond_dec (by omega), cond_dec (by omega)]
      simp only [h2, show vars_isVar k (mk t).Kind (mk t).Raw (mk t).Value (mk t).Num = some (varT t) from isVar_eq k t (h.va t h4), Option.bind_some, w1, Int.toNat_natCast]
      rw [onL]
      cases hv : varT t with
      | false =>
        simp only [Bool.not_false, cond_true, cond_false, List.nil_append]
        rw [on_out k hk L h K n (i + 1) out (by omega) (by omega) (by omega), h3]
      | true =>
        simp only [Bool.not_true, cond_false, cond_true]
        rw [cond_dec (by omega)]
        have e1 : (L.map mk).drop (i + 1) = q.map mk := by rw [← List.map_drop, h3]
        have hq : q.length ≤ L.length := by rw [← h3, List.length_drop]; omega
        rw [e1, List.length_map, show ((0 : Int)) = ((0 : Nat) : Int) from rfl, on_in k (L.map mk) (L.map mk) (L.length : Int) (i : Int) q (by omega) _ k 0 out (Nat.zero_le _) (by omega) (by omega)]
        simp only [w1, List.drop_zero]
        have := ask1_len q
        rw [on_out k hk L h K n (i + 1) (out ++ ask1 q) (by omega) (by omega) (by rw [List.length_append]; omega), h3, List.append_assoc]

/-- A value's names. -/
def onV (s : List UInt8) : List (List UInt8) := onL (cutP s)

theorem on_eq (k : Nat) (hk : 10000004 < k) (s : List UInt8) (hs : s.length ≤ 10000000) : vars_on k s = some (onV s) := by
  unfold vars_on
  rw [Cut_eq k s (by omega) (by omega)]
  simp only [Option.bind_some]
  have hf := Fit.cut s (by omega)
  have hl := hf.len
  unfold toks
  rw [List.length_map]
  have := on_out k (by omega) (cutP s) hf (fun y => some y) k 0 [] (Nat.zero_le _) (by omega) (Nat.zero_le _)
  rw [List.drop_zero, List.nil_append] at this
  exact this

theorem onV_len (s : List UInt8) : (onV s).length ≤ s.length := by
  have := onL_len (cutP s)
  have h2 := toks_len s
  unfold toks at h2
  rw [List.length_map] at h2
  unfold onV; omega

theorem onV_nil : onV [] = [] := by
  unfold onV
  rw [show cutP [] = [] from rfl]
  rfl

/-- The last value of a name. -/
def lastP (vs : List S27) (nm : List UInt8) : List UInt8 × Bool := Bw.lastF (fun x : S27 => x.1) (fun x : S27 => x.2) nm vs.reverse

theorem last_eq (k : Nat) (vs : List S27) (nm : List UInt8) (h : vs.length ≤ 1000) : vars_last k vs nm = some (lastP vs nm) := by
  unfold vars_last Bw.lastS
  rw [show Nat.ble vs.length 281474976710656 = true from Nat.ble_eq_true_of_le (by omega)]
  rfl

theorem lastP_nil (nm : List UInt8) : lastP [] nm = ([], false) := rfl

theorem lastP_snoc (vs : List S27) (v : S27) (nm : List UInt8) : lastP (vs ++ [v]) nm = bif v.1 == nm then (v.2, true) else lastP vs nm := by
  unfold lastP
  rw [List.reverse_append]
  rfl

theorem lastF_none {f1 f2 : S27 → List UInt8} {nm : List UInt8} : ∀ l : List S27, (∀ x ∈ l, f1 x ≠ nm) → Bw.lastF f1 f2 nm l = ([], false)
  | [], _ => rfl
  | x :: r, h => by
    rw [Bw.lastF, show (f1 x == nm) = false from beq_eq_false_iff_ne.2 (h x (by simp))]
    exact lastF_none r fun y hy => h y (by simp [hy])

theorem lastP_none {vs : List S27} {nm : List UInt8} (h : ∀ x ∈ vs, x.1 ≠ nm) : lastP vs nm = ([], false) := lastF_none _ fun x hx => h x (by simpa using hx)

theorem lastF_some {f1 f2 : S27 → List UInt8} {nm : List UInt8} : ∀ l : List S27, (Bw.lastF f1 f2 nm l).2 = true → ∃ x ∈ l, f1 x = nm ∧ (Bw.lastF f1 f2 nm l).1 = f2 x
  | [], h => by cases h
  | x :: r, h => by
    rw [Bw.lastF] at h ⊢
    cases hx : f1 x == nm with
    | true => exact ⟨x, by simp, eq_of_beq hx, by rw [cond_true]⟩
    | false =>
      rw [hx, cond_false] at h
      obtain ⟨y, h1, h2, h3⟩ := lastF_some r h
      exact ⟨y, by simp [h1], h2, by rw [cond_false]; exact h3⟩

theorem lastP_some {vs : List S27} {nm : List UInt8} (h : (lastP vs nm).2 = true) : ∃ x ∈ vs, x.1 = nm ∧ (lastP vs nm).1 = x.2 := by
  obtain ⟨x, h1, h2⟩ := lastF_some _ h
  exact ⟨x, by simpa using h1, h2⟩

theorem lastF_false {f1 f2 : S27 → List UInt8} {nm : List UInt8} : ∀ l : List S27, (Bw.lastF f1 f2 nm l).2 = false → (Bw.lastF f1 f2 nm l).1 = [] ∧ ∀ x ∈ l, f1 x ≠ nm
  | [], _ => ⟨rfl, fun x hx => by cases hx⟩
  | x :: r, h => by
    rw [Bw.lastF] at h ⊢
    cases hx : f1 x == nm with
    | true => rw [hx, cond_true] at h; cases h
    | false =>
      rw [hx, cond_false] at h
      obtain ⟨h1, h2⟩ := lastF_false r h
      refine ⟨by rw [cond_false]; exact h1, fun y hy => ?_⟩
      rcases List.mem_cons.1 hy with rfl | hy
      · exact beq_eq_false_iff_ne.1 hx
      · exact h2 y hy

theorem lastP_false {vs : List S27} {nm : List UInt8} (h : (lastP vs nm).2 = false) : (lastP vs nm).1 = [] ∧ ∀ x ∈ vs, x.1 ≠ nm := by
  obtain ⟨h1, h2⟩ := lastF_false _ h
  exact ⟨h1, fun x hx => h2 x (by simpa using hx)⟩

theorem inj_map : ∀ {l : List S27}, (l.map (·.1)).Nodup → ∀ {x y : S27}, x ∈ l → y ∈ l → x.1 = y.1 → x = y
  | [], _, x, y, hx, _, _ => by cases hx
  | a :: r, hn, x, y, hx, hy, e => by
    rw [List.map_cons, List.nodup_cons] at hn
    rcases List.mem_cons.1 hx with rfl | hx' <;> rcases List.mem_cons.1 hy with rfl | hy'
    · rfl
    · exact absurd (by rw [e]; exact List.mem_map_of_mem (f := fun x : S27 => x.1) hy') hn.1
    · exact absurd (by rw [← e]; exact List.mem_map_of_mem (f := fun x : S27 => x.1) hx') hn.1
    · exact inj_map hn.2 hx' hy' e

theorem lastP_mem {vs : List S27} (hn : (vs.map (·.1)).Nodup) {v : S27} (hv : v ∈ vs) : lastP vs v.1 = (v.2, true) := by
  cases h : (lastP vs v.1).2 with
  | false => exact absurd rfl ((lastP_false h).2 v hv)
  | true =>
    obtain ⟨x, h1, h2, h3⟩ := lastP_some h
    have : x = v := inj_map hn h1 hv h2
    subst this
    rw [← h3, ← h]

theorem lastP_len {vs : List S27} {B : Nat} (h : ∀ x ∈ vs, x.2.length ≤ B) (nm : List UInt8) : (lastP vs nm).1.length ≤ B := lastF_len nm _ fun x hx => h x (by simpa using hx)

/-- To what a name leads. -/
def edg (all : List S27) (nm : List UInt8) : List (List UInt8) := onV (lastP all nm).1

/-! ### has a text in it -/

def hasT (w : List UInt8) : List UInt8 → Bool
  | [] => w.isPrefixOf []
  | a :: r => w.isPrefixOf (a :: r) || hasT w r

theorem isPrefixOf_take (w x : List UInt8) : (x.take w.length == w) = w.isPrefixOf x := by
  rw [Bool.eq_iff_iff, beq_iff_eq, List.isPrefixOf_iff_prefix, List.prefix_iff_eq_take]
  exact eq_comm

theorem hasT_short (w : List UInt8) : ∀ l : List UInt8, l.length < w.length → hasT w l = false
  | [], h => by
    cases w with
    | nil => simp at h
    | cons a r => rfl
  | a :: r, h => by
    rw [hasT, hasT_short w r (by simp at h ⊢; omega), Bool.or_false]
    rw [Bool.eq_false_iff]
    intro hp
    have := (List.isPrefixOf_iff_prefix.1 hp).length_le
    omega

theorem has_loop (k : Nat) (s w : List UInt8) (hs : s.length ≤ 10000000) (hw : w.length ≤ 100) (h0 : w ≠ []) : ∀ (n i : Nat), i ≤ s.length → s.length - i < n → clerestorykeep2_hasText.c5 k n s w (i : Int) (some false) = some (hasT w (s.drop i))
  | 0, i, _, h => by omega
  | n + 1, i, hi, hn => by
    unfold clerestorykeep2_hasText.c5
    have hw0 : 0 < w.length := List.length_pos_iff.2 h0
    have w1 : IntKind.wrap .i64 ((i : Int) + ((w.length : Nat) : Int)) = ((i + w.length : Nat) : Int) := by
      rw [wrap_i64 (by omega) (by omega)]; omega
    have w2 : IntKind.wrap .i64 ((i : Int) + 1) = ((i + 1 : Nat) : Int) := by rw [wrap_i64 (by omega) (by omega)]; omega
    simp only [w1, w2, Int.toNat_natCast]
    by_cases hlt : i + w.length ≤ s.length
    · rw [cond_dec (by omega), cond_dec (by omega), List.drop_take, Nat.add_sub_cancel_left, isPrefixOf_take, List.drop_eq_getElem_cons (by omega : i < s.length), hasT]
      cases w.isPrefixOf _ with
      | true => rfl
      | false =>
        simp only [cond_false, Bool.false_or]
        exact has_loop k s w hs hw h0 n (i + 1) (by omega) (by omega)
    · rw [cond_ndec (by omega), hasT_short w _ (by rw [List.length_drop]; omega)]

theorem has_eq (k : Nat) (s w : List UInt8) (hs : s.length ≤ 10000000) (hw : w.length ≤ 100) (h0 : w ≠ []) (hk : s.length < k) : clerestorykeep2_hasText k s w = some (hasT w s) := by
  unfold clerestorykeep2_hasText
  have := has_loop k s w hs hw h0 k 0 (Nat.zero_le _) (by omega)
  rw [List.drop_zero] at this
  exact this

theorem hasT_one (c : UInt8) : ∀ s : List UInt8, hasT [c] s = s.any (· == c)
  | [] => rfl
  | a :: r => by
    rw [hasT, hasT_one c r, List.any_cons]
    congr 1
    show ((c == a) && true) = (a == c)
    rw [Bool.and_true, Bool.eq_iff_iff, beq_iff_eq, beq_iff_eq]
    exact eq_comm

theorem no_fun (s : List UInt8) (h : s.any (· == 40) = false) : ∀ t ∈ cutP s, varT t = false := by
  intro t ht
  unfold varT
  cases h2 : t.1 == 2 with
  | false => rfl
  | true =>
    exfalso
    have h3 := fun_has _ s (Nat.le_refl _) t ht h2
    have h4 : (40 : UInt8) ∈ rw (cutP s) := List.mem_flatten.2 ⟨t.2.1, List.mem_map_of_mem (f := fun t : Tk => t.2.1) ht, h3⟩
    rw [rw_cut] at h4
    have : s.any (· == 40) = true := List.any_eq_true.2 ⟨40, h4, rfl⟩
    rw [this] at h; cases h

theorem onL_none : ∀ l : List Tk, (∀ t ∈ l, varT t = false) → onL l = []
  | [], _ => rfl
  | t :: r, h => by
    rw [onL, h t (by simp), onL_none r fun u hu => h u (by simp [hu])]
    rfl

theorem onV_plain (s : List UInt8) (h : s.any (· == 40) = false) : onV s = [] := onL_none _ (no_fun s h)

end Go.Ev.Va

-- from EvVaD
set_option linter.unusedVariables false
set_option linter.unusedSimpArgs false
set_option maxRecDepth 100000
namespace Go.Ev.Va
open Go Go.Ev.Tok

theorem atS {α : Type} (d : α) (L : List α) (i : Nat) (t : α) (r : List α) (h : L.drop i = t :: r) : i < L.length ∧ L.getD i d = t ∧ L.drop (i + 1) = r ∧ t ∈ L := by
  have hi : i < L.length := by
    rcases Nat.lt_or_ge i L.length with h1 | h1
    · exact h1
    · rw [List.drop_eq_nil_of_le h1] at h; cases h
  rw [List.drop_eq_getElem_cons hi] at h
  injection h with h1 h2
  exact ⟨hi, by rw [List.getD_eq_getElem?_getD, List.getElem?_eq_getElem hi]; exact h1, h2, h1 ▸ List.getElem_mem hi⟩

theorem end_of {α : Type} {L : List α} {i : Nat} (hi : i ≤ L.length) (h : L.drop i = []) : i = L.length := by
  have := congrArg List.length h
  simp at this; omega

/-- Where the first of a name stands. -/
def ixN (nm : List UInt8) : List S27 → Option Nat
  | [] => none
  | x :: r => bif x.1 == nm then some 0 else (ixN nm r).map (· + 1)

theorem ixN_some {nm : List UInt8} : ∀ {l : List S27} {j : Nat}, ixN nm l = some j → ∃ h : j < l.length, l[j].1 = nm
  | [], j, h => by cases h
  | x :: r, j, h => by
    rw [ixN] at h
    cases hx : x.1 == nm with
    | true => rw [hx, cond_true] at h; cases h; exact ⟨by simp, eq_of_beq hx⟩
    | false =>
      rw [hx, cond_false] at h
      obtain ⟨i, h1, rfl⟩ := Option.map_eq_some_iff.1 h
      obtain ⟨h2, h3⟩ := ixN_some h1
      exact ⟨by simp; omega, by simpa using h3⟩

theorem ixN_none {nm : List UInt8} : ∀ {l : List S27}, ixN nm l = none → ∀ x ∈ l, x.1 ≠ nm
  | [], _, x, hx => by cases hx
  | y :: r, h, x, hx => by
    rw [ixN] at h
    cases hy : y.1 == nm with
    | true => rw [hy, cond_true] at h; cases h
    | false =>
      rw [hy, cond_false] at h
      rcases List.mem_cons.1 hx with rfl | hx
      · exact beq_eq_false_iff_ne.1 hy
      · exact ixN_none (Option.map_eq_none_iff.1 h) x hx

theorem ixN_of_none {nm : List UInt8} : ∀ {l : List S27}, (∀ x ∈ l, x.1 ≠ nm) → ixN nm l = none
  | [], _ => rfl
  | y :: r, h => by
    rw [ixN, show (y.1 == nm) = false from beq_eq_false_iff_ne.2 (h y (by simp)), cond_false, ixN_of_none fun x hx => h x (by simp [hx])]
    rfl

theorem v2_loop (k : Nat) (L : List S27) (hL : L.length ≤ 1000000) (nm vl : List UInt8) (K : List UInt8 → List UInt8 → Option (Int × List UInt8 × List UInt8)) : ∀ (n i : Nat), i ≤ L.length → L.length - i < n →
    api_SVar__v2.c5 k n L (L.length : Int) (i : Int) nm vl K = match ixN nm (L.drop i) with | some j => some (((i + j : Nat) : Int), nm, vl) | none => K nm vl
  | 0, i, _, h => by omega
  | n + 1, i, hi, hn => by
    unfold api_SVar__v2.c5
    simp only [Int.toNat_natCast]
    match hd : L.drop i with
    | [] =>
      have := end_of hi hd
      rw [cond_ndec (by omega)]
      rfl
    | t :: q =>
      obtain ⟨h1, h2, h3, h4⟩ := atS S27.d L i t q hd
      have w1 : IntKind.wrap .i64 ((i : Int) + 1) = ((i + 1 : Nat) : Int) := by rw [wrap_i64 (by omega) (by omega)]; omega
      rw [cond_dec (by omega), cond_dec (by omega)]
      simp only [h2, vars_counted_1, Option.bind_some, w1]
      rw [ixN]
      show cond (t.1 == nm) _ _ = _
      cases t.1 == nm with
      | true => rfl
      | false =>
        simp only [cond_false]
        rw [v2_loop k L hL nm vl K n (i + 1) (by omega) (by omega), h3]
        cases ixN nm q with
        | none => rfl
        | some j => simp only [Option.map_some]; congr 3; omega

theorem v2_eq (k : Nat) (L : List S27) (hL : L.length ≤ 1000000) (hk : L.length < k) (nm vl : List UInt8) : api_SVar__v2 k L nm vl = some ((match ixN nm L with | some j => ((j : Nat) : Int) | none => -1), nm, vl) := by
  unfold api_SVar__v2
  have := v2_loop k L hL nm vl (fun y11 y12 => some ((-1 : Int), y11, y12)) k 0 (Nat.zero_le _) (by omega)
  rw [List.drop_zero] at this
  refine this.trans ?_
  cases ixN nm L with
  | none => rfl
  | some j => simp only [Nat.zero_add]

def ownN (n : List UInt8) : Bool := [45, 45].isPrefixOf n

theorem own_eq (k : Nat) (s : List UInt8) : strings_HasPrefix k s [45, 45] = some (ownN s) := by
  have h : stringslite_HasPrefix k s [45, 45] = some (ownN s) := by
    unfold stringslite_HasPrefix ownN
    have e : (s.take 2 == [45, 45]) = List.isPrefixOf [45, 45] s := isPrefixOf_take [45, 45] s
    simp only [List.length_cons, List.length_nil, Int.toNat_natCast]
    by_cases hl : 2 ≤ s.length
    · rw [show (decide ((s.length : Int) ≥ ((0 + 1 + 1 : Nat) : Int))) = true from decide_eq_true (by omega), decide_eq_true (by omega : 0 ≤ ((0 + 1 + 1 : Nat) : Int) ∧ ((0 + 1 + 1 : Nat) : Int) ≤ (s.length : Int))]
      simp only [Bool.true_or, cond_true]
      rw [show s.take (0 + 1 + 1) = s.take 2 from rfl, e]
    · rw [show (decide ((s.length : Int) ≥ ((0 + 1 + 1 : Nat) : Int))) = false from decide_eq_false (by omega)]
      simp only [Bool.not_false, Bool.or_true, cond_true, cond_false]
      rw [← e, eq_comm, Option.some.injEq, beq_eq_false_iff_ne]
      intro e2
      have := congrArg List.length e2
      rw [List.length_take] at this
      simp at this; omega
  unfold strings_HasPrefix
  rw [h]
  rfl

/-- The names that count, each once. -/
def cntP (acc : List S27) : List S27 → List S27
  | [] => acc
  | v :: r => bif !ownN v.1 then cntP acc r else
    match ixN v.1 acc with
    | some i => cntP (acc.set i v) r
    | none => bif decide (acc.length < 20) then cntP (acc ++ [v]) r else cntP acc r

theorem counted_loop (k : Nat) (hk : 100 < k) (L : List S27) (hL : L.length ≤ 1000000) (K : List S27 → Option (List S27)) : ∀ (n i : Nat) (acc : List S27), i ≤ L.length → L.length - i < n → acc.length ≤ 20 →
    vars_counted.c7 k n L (L.length : Int) (i : Int) acc K = K (cntP acc (L.drop i))
  | 0, i, acc, _, h, _ => by omega
  | n + 1, i, acc, hi, hn, ha => by
    unfold vars_counted.c7
    simp only [Int.toNat_natCast]
    match hd : L.drop i with
    | [] =>
      have := end_of hi hd
      rw [cond_ndec (by omega)]
      rfl
    | t :: q =>
      obtain ⟨h1, h2, h3, h4⟩ := atS S27.d L i t q hd
      have w1 : IntKind.wrap .i64 ((i : Int) + 1) = ((i + 1 : Nat) : Int) := by rw [wrap_i64 (by omega) (by omega)]; omega
      rw [cond_dec (by omega), cond_dec (by omega)]
      simp only [h2]
      rw [v2_eq k acc (by omega) (by omega)]
      simp only [Option.bind_some, w1]
      rw [show strings_HasPrefix k t.Name [45, 45] = some (ownN t.1) from own_eq k t.1]
      simp only [Option.bind_some]
      rw [cntP]
      cases ownN t.1 with
      | false =>
        simp only [Bool.not_false, cond_true]
        rw [counted_loop k hk L hL K n (i + 1) acc (by omega) (by omega) ha, h3]
      | true =>
        simp only [Bool.not_true, cond_false]
        cases hx : ixN t.1 acc with
        | some j =>
          obtain ⟨hj, _⟩ := ixN_some hx
          simp only [show ixN t.Name acc = some j from hx]
          rw [cond_dec (by omega), cond_dec (by omega), Int.toNat_natCast]
          show vars_counted.c7 k n L _ _ (acc.set j t) K = _
          rw [counted_loop k hk L hL K n (i + 1) (acc.set j t) (by omega) (by omega) (by rw [List.length_set]; exact ha), h3]
        | none =>
          simp only [show ixN t.Name acc = none from hx]
          rw [cond_ndec (by omega)]
          by_cases hl : acc.length < 20
          · rw [cond_dec (by omega), show (decide ((acc ++ [(⟨t.Name, t.Value⟩ : S27)]).length < most)) = true from most_ok (by rw [List.length_append]; simp; omega), decide_eq_true hl]
            simp only [cond_true]
            show vars_counted.c7 k n L _ _ (acc ++ [t]) K = _
            rw [counted_loop k hk L hL K n (i + 1) (acc ++ [t]) (by omega) (by omega) (by rw [List.length_append]; simp; omega), h3]
          · rw [cond_ndec (by omega), decide_eq_false hl]
            simp only [cond_false]
            rw [counted_loop k hk L hL K n (i + 1) acc (by omega) (by omega) ha, h3]

theorem counted_eq (k : Nat) (hk : 100 < k) (L : List S27) (hL : L.length ≤ 1000000) (hk2 : L.length < k) : vars_counted k L = some (cntP [] L) := by
  unfold vars_counted
  have := counted_loop k hk L hL (fun y => some y) k 0 [] (Nat.zero_le _) (by omega) (Nat.zero_le _)
  rw [List.drop_zero] at this
  exact this

/-- What counts: names of one's own, each once, at most twenty. -/
structure Ct (l : List S27) : Prop where
  own : ∀ x ∈ l, ownN x.1 = true
  nd : (l.map (·.1)).Nodup
  len : l.length ≤ 20

theorem set_name {l : List S27} {i : Nat} {v : S27} (h : ∃ h : i < l.length, l[i].1 = v.1) : (l.set i v).map (·.1) = l.map (·.1) := by
  obtain ⟨hi, h⟩ := h
  rw [List.map_set, ← h]
  apply List.ext_getElem
  · simp
  · intro j h1 h2
    rw [List.getElem_set]
    split
    · rename_i e; subst e; simp
    · rfl

theorem cnt_ok : ∀ (l acc : List S27), Ct acc → Ct (cntP acc l) ∧ ∀ x ∈ cntP acc l, x ∈ acc ∨ x ∈ l
  | [], acc, h => ⟨h, fun x hx => .inl hx⟩
  | v :: r, acc, h => by
    rw [cntP]
    cases ho : ownN v.1 with
    | false =>
      simp only [Bool.not_false, cond_true]
      obtain ⟨h1, h2⟩ := cnt_ok r acc h
      exact ⟨h1, fun x hx => (h2 x hx).imp id (by intro h; simp [h])⟩
    | true =>
      simp only [Bool.not_true, cond_false]
      cases hx : ixN v.1 acc with
      | some i =>
        simp only
        have hi := ixN_some hx
        have : Ct (acc.set i v) := ⟨fun x hx => (List.mem_or_eq_of_mem_set hx).elim (h.own x) (fun e => e ▸ ho), by rw [set_name hi]; exact h.nd, by rw [List.length_set]; exact h.len⟩
        obtain ⟨h1, h2⟩ := cnt_ok r _ this
        refine ⟨h1, fun x hx => ?_⟩
        rcases h2 x hx with h3 | h3
        · exact (List.mem_or_eq_of_mem_set h3).imp id (by intro h; simp [h])
        · exact .inr (by simp [h3])
      | none =>
        simp only
        by_cases hl : acc.length < 20
        · rw [decide_eq_true hl, cond_true]
          have hn := ixN_none hx
          have : Ct (acc ++ [v]) := ⟨fun x hx => by
            rcases List.mem_append.1 hx with h1 | h1
            · exact h.own x h1
            · rw [List.mem_singleton.1 h1]; exact ho, by
            rw [List.map_append, List.map_cons, List.map_nil, List.nodup_append]
            refine ⟨h.nd, by simp, fun a ha b hb => ?_⟩
            obtain ⟨y, hy, rfl⟩ := List.mem_map.1 ha
            rw [List.mem_singleton.1 hb]
            exact hn y hy, by rw [List.length_append]; simp; omega⟩
          obtain ⟨h1, h2⟩ := cnt_ok r _ this
          refine ⟨h1, fun x hx => ?_⟩
          rcases h2 x hx with h3 | h3
          · rcases List.mem_append.1 h3 with h4 | h4
            · exact .inl h4
            · exact .inr (by simp [List.mem_singleton.1 h4])
          · exact .inr (by simp [h3])
        · rw [decide_eq_false hl, cond_false]
          obtain ⟨h1, h2⟩ := cnt_ok r acc h
          exact ⟨h1, fun x hx => (h2 x hx).imp id (by intro h; simp [h])⟩

theorem cnt_app : ∀ (a b acc : List S27), cntP acc (a ++ b) = cntP (cntP acc a) b
  | [], b, acc => rfl
  | v :: r, b, acc => by
    rw [List.cons_append, cntP, cntP]
    cases ownN v.1 with
    | false => simp only [Bool.not_false, cond_true]; exact cnt_app r b acc
    | true =>
      simp only [Bool.not_true, cond_false]
      cases ixN v.1 acc with
      | some i => exact cnt_app r b _
      | none =>
        simp only
        cases decide (acc.length < 20) with
        | true => exact cnt_app r b _
        | false => exact cnt_app r b _

theorem cnt_id : ∀ (l acc : List S27), Ct (acc ++ l) → cntP acc l = acc ++ l
  | [], acc, _ => by rw [List.append_nil]; rfl
  | v :: r, acc, h => by
    have hnd := h.nd
    rw [List.map_append, List.map_cons, List.nodup_append] at hnd
    have hl := h.len
    rw [List.length_append, List.length_cons] at hl
    rw [cntP, h.own v (by simp), ixN_of_none (fun x hx => hnd.2.2 _ (List.mem_map_of_mem (f := fun x : S27 => x.1) hx) _ (by simp))]
    simp only [Bool.not_true, cond_false]
    rw [decide_eq_true (by omega), cond_true]
    rw [cnt_id r (acc ++ [v]) (by rw [List.append_assoc]; exact h), List.append_assoc]
    rfl

end Go.Ev.Va

-- from EvVaE
set_option linter.unusedVariables false
set_option linter.unusedSimpArgs false
set_option maxRecDepth 100000
namespace Go.Ev.Va
open Go Go.Ev.Tok

abbrev Nm := List UInt8
abbrev Seen := List (List UInt8 × S62)

def hasS (n : Nm) (m : Seen) : Bool := (mget none n m).isSome

theorem has_put (n x : Nm) (v : S62) : ∀ m : Seen, hasS n (mput none x v m) = (x == n || hasS n m)
  | [] => by
    unfold hasS
    show (bif x == n then some v else none).isSome = (x == n || false)
    cases x == n <;> rfl
  | e :: m => by
    have ih := has_put n x v m
    unfold hasS at ih ⊢
    rw [mput]
    cases h : kbeq none e.1 x with
    | true =>
      have he : e.1 = x := eq_of_beq (show (e.1 == x) = true from h)
      rw [cond_true]
      show (bif x == n then some v else mget none n m).isSome = (x == n || (bif e.1 == n then some e.2 else mget none n m).isSome)
      rw [he]
      cases x == n <;> simp
    | false =>
      rw [cond_false]
      show (bif e.1 == n then some e.2 else mget none n (mput none x v m)).isSome = (x == n || (bif e.1 == n then some e.2 else mget none n m).isSome)
      cases e.1 == n with
      | true => simp
      | false => simp only [cond_false]; exact ih

/-- One value's names, looked at. -/
def rin (name : Nm) : List Nm → Seen → List Nm → Bool × Seen × List Nm
  | [], s, t => (false, s, t)
  | n :: ns, s, t => bif n == name then (true, s, t) else bif hasS n s then rin name ns s t else rin name ns (mput none n ⟨⟩ s) (t ++ [n])

theorem round_in (k : Nat) (all : List S27) (name : Nm) (R : List Nm) (hR : R.length ≤ 100000000) (K : List S27 → Nm → Seen → List Nm → Option Bool) : ∀ (n i : Nat) (s : Seen) (t : List Nm), i ≤ R.length → R.length - i < n → t.length + (R.length - i) ≤ 1000000000 →
    vars_round.c17 k n all name (R.length : Int) (i : Int) s t R K = bif (rin name (R.drop i) s t).1 then some true else K all name (rin name (R.drop i) s t).2.1 (rin name (R.drop i) s t).2.2
  | 0, i, s, t, _, h, _ => by omega
  | n + 1, i, s, t, hi, hn, ht => by
    unfold vars_round.c17
    simp only [Int.toNat_natCast]
    match hd : R.drop i with
    | [] =>
      have := end_of hi hd
      rw [cond_ndec (by omega)]
      rfl
    | x :: q =>
      obtain ⟨h1, h2, h3, h4⟩ := atS ([] : Nm) R i x q hd
      have w1 : IntKind.wrap .i64 ((i : Int) + 1) = ((i + 1 : Nat) : Int) := by rw [wrap_i64 (by omega) (by omega)]; omega
      rw [cond_dec (by omega), cond_dec (by omega)]
      simp only [h2, w1]
      rw [rin]
      cases x == name with
      | true => rfl
      | false =>
        simp only [cond_false]
        rw [show (mget none x s).isSome = hasS x s from rfl]
        cases hasS x s with
        | true =>
          simp only [Bool.not_true, cond_false, cond_true]
          rw [round_in k all name R hR K n (i + 1) s t (by omega) (by omega) (by omega), h3]
        | false =>
          simp only [Bool.not_false, cond_true, cond_false]
          rw [most_ok (by rw [List.length_append]; simp; omega)]
          simp only [cond_true]
          rw [round_in k all name R hR K n (i + 1) _ _ (by omega) (by omega) (by rw [List.length_append]; simp; omega), h3]

def pot (U : List Nm) (s : Seen) : Nat := U.countP fun x => !hasS x s

theorem countP_lt {α : Type} {p q : α → Bool} (h : ∀ x, p x = true → q x = true) {n : α} (hq : q n = true) (hp : p n = false) : ∀ U : List α, n ∈ U → U.countP p + 1 ≤ U.countP q
  | [], h => by cases h
  | x :: U, hn => by
    rw [List.countP_cons, List.countP_cons]
    have hle : U.countP p ≤ U.countP q := List.countP_mono_left fun y _ hy => h y hy
    rcases List.mem_cons.1 hn with rfl | hn
    · simp only [hp, hq]
      simp
      exact hle
    · have := countP_lt h hq hp U hn
      cases hpx : p x with
      | true => rw [h x hpx]; simp; omega
      | false => cases q x <;> simp <;> omega

theorem rin_true {name : Nm} : ∀ {R : List Nm} {s : Seen} {t : List Nm}, (rin name R s t).1 = true → name ∈ R
  | [], s, t, h => by cases h
  | n :: ns, s, t, h => by
    rw [rin] at h
    cases hn : n == name with
    | true => rw [eq_of_beq hn]; simp
    | false =>
      rw [hn, cond_false] at h
      cases hs : hasS n s with
      | true => rw [hs, cond_true] at h; exact List.mem_cons_of_mem _ (rin_true h)
      | false => rw [hs, cond_false] at h; exact List.mem_cons_of_mem _ (rin_true h)

theorem rin_false {name : Nm} {U : List Nm} : ∀ {R : List Nm} {s : Seen} {t : List Nm}, (rin name R s t).1 = false → (∀ x ∈ R, x ∈ U) →
    name ∉ R ∧ (∀ x, hasS x (rin name R s t).2.1 = true ↔ (hasS x s = true ∨ x ∈ R)) ∧ (∀ x, x ∈ (rin name R s t).2.2 → x ∈ t ∨ x ∈ R) ∧ (∀ x, x ∈ t → x ∈ (rin name R s t).2.2) ∧
    (∀ x ∈ R, hasS x s = true ∨ x ∈ (rin name R s t).2.2) ∧ (rin name R s t).2.2.length + pot U (rin name R s t).2.1 ≤ t.length + pot U s
  | [], s, t, _, _ => ⟨by simp, fun x => by simp [rin], fun x hx => .inl hx, fun x hx => hx, (fun x hx => by cases hx), Nat.le_refl _⟩
  | n :: ns, s, t, h, hU => by
    rw [rin] at h ⊢
    cases hn : n == name with
    | true => rw [hn, cond_true] at h; cases h
    | false =>
      rw [hn, cond_false] at h
      have hne := beq_eq_false_iff_ne.1 hn
      have hU' : ∀ x ∈ ns, x ∈ U := fun x hx => hU x (by simp [hx])
      cases hs : hasS n s with
      | true =>
        rw [hs, cond_true] at h
        obtain ⟨a1, a2, a3, a4, a5, a6⟩ := rin_false h hU'
        simp only [cond_true, cond_false]
        refine ⟨by simp [a1]; exact fun e => hne e.symm, fun x => ?_, fun x hx => ?_, a4, fun x hx => ?_, a6⟩
        · rw [a2 x]
          constructor
          · rintro (h1 | h1)
            · exact .inl h1
            · exact .inr (by simp [h1])
          · rintro (h1 | h1)
            · exact .inl h1
            · rcases List.mem_cons.1 h1 with rfl | h1
              · exact .inl hs
              · exact .inr h1
        · rcases a3 x hx with h1 | h1
          · exact .inl h1
          · exact .inr (by simp [h1])
        · rcases List.mem_cons.1 hx with rfl | h1
          · exact .inl hs
          · exact a5 x h1
      | false =>
        rw [hs, cond_false] at h
        obtain ⟨a1, a2, a3, a4, a5, a6⟩ := rin_false h hU'
        simp only [cond_true, cond_false]
        have hp : pot U (mput none n (⟨⟩ : S62) s) + 1 ≤ pot U s := by
          refine countP_lt (n := n) (fun x hx => ?_) (by simp [hs]) (by simp [has_put]) U (hU n (by simp))
          simp only [has_put, Bool.not_or, Bool.and_eq_true, Bool.not_eq_true'] at hx ⊢
          exact hx.2
        refine ⟨by simp [a1]; exact fun e => hne e.symm, fun x => ?_, fun x hx => ?_, fun x hx => a4 x (by simp [hx]), fun x hx => ?_, ?_⟩
        · rw [a2 x, has_put, Bool.or_eq_true, beq_iff_eq]
          constructor
          · rintro ((h1 | h1) | h1)
            · exact .inr (by simp [h1])
            · exact .inl h1
            · exact .inr (by simp [h1])
          · rintro (h1 | h1)
            · exact .inl (.inr h1)
            · rcases List.mem_cons.1 h1 with rfl | h1
              · exact .inl (.inl rfl)
              · exact .inr h1
        · rcases a3 x hx with h1 | h1
          · rcases List.mem_append.1 h1 with h2 | h2
            · exact .inl h2
            · exact .inr (by simp [List.mem_singleton.1 h2])
          · exact .inr (by simp [h1])
        · rcases List.mem_cons.1 hx with rfl | h1
          · exact .inr (a4 x (by simp))
          · rcases a5 x h1 with h2 | h2
            · rw [has_put, Bool.or_eq_true, beq_iff_eq] at h2
              rcases h2 with rfl | h2
              · exact .inr (a4 _ (by simp))
              · exact .inl h2
            · exact .inr h2
        · rw [List.length_append, List.length_singleton] at a6
          omega

/-- From a name to another, by one step or more. -/
inductive Path (E : Nm → List Nm) : Nm → Nm → Prop
  | one {a b : Nm} (h : b ∈ E a) : Path E a b
  | snoc {a b c : Nm} (h : Path E a b) (h2 : c ∈ E b) : Path E a c

theorem Path.trans {E : Nm → List Nm} {a b c : Nm} (h : Path E a b) (h2 : Path E b c) : Path E a c := by
  induction h2 with
  | one h3 => exact .snoc h h3
  | snoc _ h4 ih => exact .snoc ih h4

def unis (all : List S27) : List Nm := all.flatMap fun v => onV v.2

theorem edg_sub {all : List S27} {x y : Nm} (h : y ∈ edg all x) : y ∈ unis all := by
  unfold edg at h
  cases hl : (lastP all x).2 with
  | false => rw [(lastP_false hl).1, onV_nil] at h; cases h
  | true =>
    obtain ⟨v, h1, h2, h3⟩ := lastP_some hl
    rw [h3] at h
    exact List.mem_flatMap.2 ⟨v, h1, h⟩

/-- Values that come in. -/
structure Al (all : List S27) : Prop where
  len : all.length ≤ 30
  val : ∀ x ∈ all, x.2.length ≤ NB

theorem unis_len : ∀ {all : List S27}, (∀ x ∈ all, x.2.length ≤ NB) → (unis all).length ≤ all.length * NB
  | [], _ => Nat.zero_le _
  | v :: r, h => by
    unfold unis
    rw [List.flatMap_cons, List.length_append, List.length_cons]
    have h1 := unis_len (all := r) fun x hx => h x (by simp [hx])
    have h2 := onV_len v.2
    have h3 := h v (by simp)
    unfold unis at h1
    rw [Nat.add_mul, Nat.one_mul]
    omega

theorem edg_len {all : List S27} (h : Al all) (x : Nm) : (edg all x).length ≤ NB := by
  unfold edg
  have := onV_len (lastP all x).1
  have := lastP_len h.val x
  omega

theorem round_loop (k : Nat) (hk : 100000000 < k) (all : List S27) (hA : Al all) (name : Nm) : ∀ (n : Nat) (s : Seen) (t : List Nm), t.length + pot (unis all) s < n → t.length + pot (unis all) s ≤ 100000000 →
    hasS name s = false → (∀ x, (x = name ∨ hasS x s = true) → x ∈ t ∨ ∀ y ∈ edg all x, hasS y s = true) → (∀ x, (x ∈ t ∨ hasS x s = true) → x = name ∨ Path (edg all) name x) →
    ∃ b, vars_round.c7 k n all name s t (some false) = some b ∧ (b = true ↔ Path (edg all) name name)
  | 0, s, t, h, _, _, _, _ => by omega
  | n + 1, s, t, hn, hb, i1, i2, i3 => by
    unfold vars_round.c7
    match t, hn, hb, i2, i3 with
    | [], _, _, i2, _ =>
      refine ⟨false, rfl, fun h => (by cases h), fun h => ?_⟩
      have key : ∀ y, Path (edg all) name y → hasS y s = true := by
        intro y hy
        induction hy with
        | one h3 => exact ((i2 _ (.inl rfl)).resolve_left (by simp)) _ h3
        | snoc _ h4 ih => exact ((i2 _ (.inr ih)).resolve_left (by simp)) _ h4
      rw [key _ h] at i1; cases i1
    | a :: r, hn, hb, i2, i3 =>
      have hl := edg_len hA a
      have hv := lastP_len hA.val a
      unfold NB at hl hv
      rw [List.length_cons] at hn hb
      simp only [List.length_cons]
      rw [cond_dec (by omega), cond_dec (by omega), cond_dec (by omega)]
      simp only [show ((a :: r).getD ((0 : Int).toNat) []) = a from rfl]
      rw [last_eq k all a (by have := hA.len; omega)]
      simp only [Option.bind_some]
      rw [on_eq k (by omega) (lastP all a).1 (by omega)]
      simp only [Option.bind_some]
      have ht : ((a :: r).drop (0 + (1 : Int).toNat)).take (r.length + 1 - (1 : Int).toNat) = r := by
        show r.take (r.length + 1 - 1) = r
        rw [Nat.add_sub_cancel, List.take_length]
      rw [ht, show onV (lastP all a).1 = edg all a from rfl, show (0 : Int) = ((0 : Nat) : Int) from rfl, round_in k all name (edg all a) (by omega) _ k 0 s r (Nat.zero_le _) (by omega) (by omega), List.drop_zero]
      have ha : a = name ∨ Path (edg all) name a := i3 a (.inl (by simp))
      have hstep : ∀ y ∈ edg all a, Path (edg all) name y := by
        intro y hy
        rcases ha with rfl | ha
        · exact .one hy
        · exact .snoc ha hy
      cases hr : (rin name (edg all a) s r).1 with
      | true => exact ⟨true, rfl, fun _ => hstep _ (rin_true hr), fun _ => rfl⟩
      | false =>
        obtain ⟨a1, a2, a3, a4, a5, a6⟩ := rin_false (U := unis all) hr (fun x hx => edg_sub hx)
        simp only [cond_false]
        refine round_loop k hk all hA name n _ _ (by omega) (by omega) ?_ ?_ ?_
        · cases hh : hasS name (rin name (edg all a) s r).2.1 with
          | false => rfl
          | true =>
            rcases (a2 name).1 hh with h1 | h1
            · rw [h1] at i1; cases i1
            · exact absurd h1 a1
        · intro x hx
          have old : (x = name ∨ hasS x s = true) → x ∈ (rin name (edg all a) s r).2.2 ∨ ∀ y ∈ edg all x, hasS y (rin name (edg all a) s r).2.1 = true := by
            intro h1
            rcases i2 x h1 with h2 | h2
            · rcases List.mem_cons.1 h2 with rfl | h2
              · exact .inr fun y hy => (a2 y).2 (.inr hy)
              · exact .inl (a4 x h2)
            · exact .inr fun y hy => (a2 y).2 (.inl (h2 y hy))
          rcases hx with h1 | h1
          · exact old (.inl h1)
          · rcases (a2 x).1 h1 with h2 | h2
            · exact old (.inr h2)
            · rcases a5 x h2 with h3 | h3
              · exact old (.inr h3)
              · exact .inl h3
        · intro x hx
          rcases hx with h1 | h1
          · rcases a3 x h1 with h2 | h2
            · exact i3 x (.inl (by simp [h2]))
            · exact .inr (hstep x h2)
          · rcases (a2 x).1 h1 with h2 | h2
            · exact i3 x (.inr h2)
            · exact .inr (hstep x h2)

/-- Does a name lead back to itself? -/
theorem round_ok (k : Nat) (hk : 100000000 < k) (all : List S27) (hA : Al all) (name : Nm) : ∃ b, vars_round k all name = some b ∧ (b = true ↔ Path (edg all) name name) := by
  unfold vars_round
  have h1 := unis_len hA.val
  have h2 := hA.len
  have h3 : pot (unis all) ([] : Seen) ≤ (unis all).length := List.countP_le_length
  have h4 : all.length * NB ≤ 30 * NB := Nat.mul_le_mul_right _ h2
  unfold NB at h1 h4
  refine round_loop k hk all hA name k [] [name] (by simp; omega) (by simp; omega) rfl (fun x hx => ?_) (fun x hx => ?_)
  · rcases hx with rfl | hx
    · exact .inl (by simp)
    · cases hx
  · rcases hx with hx | hx
    · exact .inl (List.mem_singleton.1 hx)
    · cases hx

open Classical in
/-- .. as a word. -/
noncomputable def ring (all : List S27) (name : Nm) : Bool := decide (Path (edg all) name name)

theorem ring_iff {all : List S27} {name : Nm} : ring all name = true ↔ Path (edg all) name name := by
  unfold ring
  exact @decide_eq_true_iff _ (Classical.propDecidable _)

theorem round_eq (k : Nat) (hk : 100000000 < k) (all : List S27) (hA : Al all) (name : Nm) : vars_round k all name = some (ring all name) := by
  obtain ⟨b, h1, h2⟩ := round_ok k hk all hA name
  rw [h1]
  congr 1
  rw [Bool.eq_iff_iff, ring_iff, h2]

end Go.Ev.Va

-- from EvVaF
set_option linter.unusedVariables false
set_option linter.unusedSimpArgs false
set_option maxRecDepth 100000
namespace Go.Ev.Va
open Go Go.Ev.Tok

/-! ### slices.DeleteFunc -/

def ixQ (p : S27 → Bool) : List S27 → Option Nat
  | [] => none
  | x :: r => bif p x then some 0 else (ixQ p r).map (· + 1)

theorem ixQ_none {p : S27 → Bool} : ∀ {l : List S27}, ixQ p l = none → ∀ x ∈ l, p x = false
  | [], _, x, hx => by cases hx
  | y :: r, h, x, hx => by
    rw [ixQ] at h
    cases hy : p y with
    | true => rw [hy, cond_true] at h; cases h
    | false =>
      rw [hy, cond_false] at h
      rcases List.mem_cons.1 hx with rfl | hx
      · exact hy
      · exact ixQ_none (Option.map_eq_none_iff.1 h) x hx

theorem ixQ_some {p : S27 → Bool} : ∀ {l : List S27} {j : Nat}, ixQ p l = some j → j < l.length ∧ (l.take j).filter (fun x => !p x) = l.take j ∧ (l.take (j + 1)).filter (fun x => !p x) = l.take j
  | [], j, h => by cases h
  | x :: r, j, h => by
    rw [ixQ] at h
    cases hx : p x with
    | true => rw [hx, cond_true] at h; cases h; simp [hx]
    | false =>
      rw [hx, cond_false] at h
      obtain ⟨i, h1, rfl⟩ := Option.map_eq_some_iff.1 h
      obtain ⟨h2, h3, h4⟩ := ixQ_some h1
      refine ⟨by simp; omega, ?_, ?_⟩
      · rw [List.take_succ_cons, List.filter_cons]; simp [hx, h3]
      · rw [List.take_succ_cons, List.filter_cons, List.take_succ_cons]; simp [hx, h4]

theorem v5_loop (k : Nat) (hk : 100000000 < k) (all : List S27) (hA : Al all) (L : List S27) (hL : L.length ≤ 1000000) (K : List S27 → Option (Int × List S27)) : ∀ (n i : Nat), i ≤ L.length → L.length - i < n →
    api_SVar__v5.c5 k n L (L.length : Int) (i : Int) all K = match ixQ (fun x => ring all x.1) (L.drop i) with | some j => some (((i + j : Nat) : Int), all) | none => K all
  | 0, i, _, h => by omega
  | n + 1, i, hi, hn => by
    unfold api_SVar__v5.c5
    simp only [Int.toNat_natCast]
    match hd : L.drop i with
    | [] =>
      have := end_of hi hd
      rw [cond_ndec (by omega)]
      rfl
    | t :: q =>
      obtain ⟨h1, h2, h3, h4⟩ := atS S27.d L i t q hd
      have w1 : IntKind.wrap .i64 ((i : Int) + 1) = ((i + 1 : Nat) : Int) := by rw [wrap_i64 (by omega) (by omega)]; omega
      rw [cond_dec (by omega), cond_dec (by omega)]
      simp only [h2, vars_Resolve_1, w1, show vars_round k all t.Name = _ from round_eq k hk all hA t.1, Option.bind_some]
      rw [ixQ]
      cases ring all t.1 with
      | true => rfl
      | false =>
        simp only [cond_false]
        rw [v5_loop k hk all hA L hL K n (i + 1) (by omega) (by omega), h3]
        cases ixQ (fun x => ring all x.1) q with
        | none => rfl
        | some j => simp only [Option.map_some]; congr 3; omega

theorem v4_loop (k : Nat) (hk : 100000000 < k) (all : List S27) (hA : Al all) (L : List S27) (hL : L.length ≤ 1000000) (K : Int → List S27 → List S27 → Option (List S27 × List S27)) : ∀ (n i j : Nat) (X : List S27), i ≤ j → j ≤ L.length → L.length - j < n → X.length = L.length → X.drop j = L.drop j → X.take i = (L.take j).filter (fun x => !ring all x.1) →
    ∃ (i' : Nat) (X' : List S27), i' ≤ X'.length ∧ X'.length = L.length ∧ X'.take i' = L.filter (fun x => !ring all x.1) ∧ api_SVar__v4.c11 k n (i : Int) (j : Int) X all K = K (i' : Int) X' all
  | 0, i, j, X, _, _, h, _, _, _ => by omega
  | n + 1, i, j, X, hij, hj, hn, hX, hd0, ht => by
    unfold api_SVar__v4.c11
    simp only [Int.toNat_natCast]
    match hd : L.drop j with
    | [] =>
      have := end_of hj hd
      rw [cond_ndec (by omega)]
      refine ⟨i, X, by omega, hX, ?_, rfl⟩
      rw [ht, this, List.take_length]
    | t :: q =>
      rw [hd] at hd0
      obtain ⟨h1, h2, h3, h4⟩ := atS S27.d X j t q hd0
      obtain ⟨g1, g2, g3, g4⟩ := atS S27.d L j t q hd
      have w1 : IntKind.wrap .i64 ((i : Int) + 1) = ((i + 1 : Nat) : Int) := by rw [wrap_i64 (by omega) (by omega)]; omega
      have w2 : IntKind.wrap .i64 ((j : Int) + 1) = ((j + 1 : Nat) : Int) := by rw [wrap_i64 (by omega) (by omega)]; omega
      rw [cond_dec (by omega), cond_dec (by omega)]
      simp only [h2, vars_Resolve_1, w1, w2, show vars_round k all t.Name = _ from round_eq k hk all hA t.1, Option.bind_some]
      have htk : L.take (j + 1) = L.take j ++ [t] := by
        rw [List.take_succ_eq_append_getElem g1]
        congr 2
        rw [List.getD_eq_getElem?_getD, List.getElem?_eq_getElem g1] at g2
        exact g2
      cases hr : ring all t.1 with
      | false =>
        simp only [Bool.not_false, cond_true]
        rw [cond_dec (by omega)]
        show ∃ i' X', _ ∧ _ ∧ _ ∧ api_SVar__v4.c11 k n ((i + 1 : Nat) : Int) ((j + 1 : Nat) : Int) (X.set i t) all K = _
        refine v4_loop k hk all hA L hL K n (i + 1) (j + 1) (X.set i t) (by omega) (by omega) (by omega) (by rw [List.length_set]; exact hX) ?_ ?_
        · rw [List.drop_set_of_lt (by omega), h3, g3]
        · rw [List.take_succ_eq_append_getElem (by rw [List.length_set]; omega), List.take_set_of_le (Nat.le_refl _), ht, htk, List.filter_append, List.getElem_set_self]
          congr 1
          simp [hr]
      | true =>
        simp only [Bool.not_true, cond_false]
        refine v4_loop k hk all hA L hL K n i (j + 1) X (by omega) (by omega) (by omega) hX ?_ ?_
        · rw [h3, g3]
        · rw [ht, htk, List.filter_append]
          simp [hr]

theorem delete_eq (k : Nat) (hk : 100000000 < k) (all : List S27) (hA : Al all) (L : List S27) (hL : L.length ≤ 1000000) : api_SVar__v4 k L all = some (all, L.filter (fun x => !ring all x.1)) := by
  unfold api_SVar__v4
  have h5 : api_SVar__v5 k L all = some ((match ixQ (fun x => ring all x.1) L with | some j => ((j : Nat) : Int) | none => -1), all) := by
    unfold api_SVar__v5
    have := v5_loop k hk all hA L hL (fun y => some ((-1 : Int), y)) k 0 (Nat.zero_le _) (by omega)
    rw [List.drop_zero] at this
    refine this.trans ?_
    cases ixQ (fun x => ring all x.1) L with
    | none => rfl
    | some j => simp only [Nat.zero_add]
  rw [h5]
  simp only [Option.bind_some]
  cases hx : ixQ (fun x => ring all x.1) L with
  | none =>
    have : L.filter (fun x => !ring all x.1) = L := List.filter_eq_self.2 fun x hx' => by simp [ixQ_none hx x hx']
    rw [this]
    rfl
  | some j =>
    obtain ⟨h1, h2, h3⟩ := ixQ_some hx
    have w1 : IntKind.wrap .i64 ((j : Int) + 1) = ((j + 1 : Nat) : Int) := by rw [wrap_i64 (by omega) (by omega)]; omega
    simp only [w1]
    rw [show (((j : Nat) : Int) == (-1 : Int)) = false from beq_eq_false_iff_ne.2 (by omega), cond_false]
    obtain ⟨i', X', a1, a2, a3, a4⟩ := v4_loop k hk all hA L hL (fun (y15 : Int) (y16 : List S27) (y17 : List S27) =>
      cond (decide (0 ≤ y15 ∧ y15 ≤ (y16.length : Int))) (
      let v18 : List S27 := (y16.take (0 + y15.toNat) ++ List.replicate (y16.length - y15.toNat) (⟨[], []⟩ : S27) ++ y16.drop ((0 + y15.toNat) + (y16.length - y15.toNat)))
      cond (decide (0 ≤ y15 ∧ y15 ≤ (v18.length : Int))) (
      some (y17, ((v18.drop 0).take y15.toNat))) none) none) k j (j + 1) L (by omega) (by omega) (by omega) rfl rfl h3.symm
    rw [a4]
    simp only [Int.toNat_natCast, Nat.zero_add, List.drop_zero]
    rw [cond_dec (by omega)]
    have e : (X'.take i' ++ List.replicate (X'.length - i') (⟨[], []⟩ : S27) ++ X'.drop (i' + (X'.length - i'))).take i' = X'.take i' := by
      rw [List.append_assoc, List.take_append_of_le_length (by rw [List.length_take]; omega), List.take_take, Nat.min_self]
    rw [cond_dec (by simp only [List.length_append, List.length_take]; omega), e, a3]

/-! ### what waits -/

theorem v7_loop (k : Nat) (L : List S27) (hL : L.length ≤ 1000000) (nm : Nm) (K : Nm → Option (Int × Nm)) : ∀ (n i : Nat), i ≤ L.length → L.length - i < n →
    api_SVar__v7.c5 k n L (L.length : Int) (i : Int) nm K = match ixN nm (L.drop i) with | some j => some (((i + j : Nat) : Int), nm) | none => K nm
  | 0, i, _, h => by omega
  | n + 1, i, hi, hn => by
    unfold api_SVar__v7.c5
    simp only [Int.toNat_natCast]
    match hd : L.drop i with
    | [] =>
      have := end_of hi hd
      rw [cond_ndec (by omega)]
      rfl
    | t :: q =>
      obtain ⟨h1, h2, h3, h4⟩ := atS S27.d L i t q hd
      have w1 : IntKind.wrap .i64 ((i : Int) + 1) = ((i + 1 : Nat) : Int) := by rw [wrap_i64 (by omega) (by omega)]; omega
      rw [cond_dec (by omega), cond_dec (by omega)]
      simp only [h2, vars_Resolve_2_1_1, Option.bind_some, w1]
      rw [ixN]
      show cond (t.1 == nm) _ _ = _
      cases t.1 == nm with
      | true => rfl
      | false =>
        simp only [cond_false]
        rw [v7_loop k L hL nm K n (i + 1) (by omega) (by omega), h3]
        cases ixN nm q with
        | none => rfl
        | some j => simp only [Option.map_some]; congr 3; omega

def isIn (nm : Nm) (L : List S27) : Bool := (ixN nm L).isSome

theorem isIn_iff {nm : Nm} {L : List S27} : isIn nm L = true ↔ ∃ x ∈ L, x.1 = nm := by
  unfold isIn
  cases h : ixN nm L with
  | none =>
    exact ⟨fun h => (by cases h), fun ⟨x, hx, e⟩ => absurd e (ixN_none h x hx)⟩
  | some j =>
    obtain ⟨h1, h2⟩ := ixN_some h
    exact ⟨fun _ => ⟨_, List.getElem_mem h1, h2⟩, fun _ => rfl⟩

theorem v6_eq (k : Nat) (L : List S27) (hL : L.length ≤ 1000000) (hk : L.length < k) (nm : Nm) : api_SVar__v6 k L nm = some (isIn nm L, nm) := by
  unfold api_SVar__v6 api_SVar__v7
  have := v7_loop k L hL nm (fun y9 => some ((-1 : Int), y9)) k 0 (Nat.zero_le _) (by omega)
  rw [List.drop_zero] at this
  rw [show ((0 : Int)) = ((0 : Nat) : Int) from rfl, this]
  unfold isIn
  cases ixN nm L with
  | none => rfl
  | some j =>
    simp only [Nat.zero_add, Option.bind_some, Option.isSome_some]
    rw [decide_eq_true (by omega)]

def ixA (L : List S27) : List Nm → Option Nat
  | [] => none
  | x :: r => bif isIn x L then some 0 else (ixA L r).map (· + 1)

theorem ixA_any (L : List S27) : ∀ R : List Nm, (ixA L R).isSome = R.any fun n => isIn n L
  | [] => rfl
  | x :: r => by
    rw [ixA, List.any_cons, ← ixA_any L r]
    cases isIn x L with
    | true => rfl
    | false => simp

theorem names_loop (k : Nat) (L : List S27) (hL : L.length ≤ 1000000) (hk : L.length < k) (R : List Nm) (hR : R.length ≤ 100000000) (K : List S27 → Option (Int × List S27)) : ∀ (n i : Nat), i ≤ R.length → R.length - i < n →
    slices_IndexFunc___string_string__v2.c5 k n R (R.length : Int) (i : Int) L K = match ixA L (R.drop i) with | some j => some (((i + j : Nat) : Int), L) | none => K L
  | 0, i, _, h => by omega
  | n + 1, i, hi, hn => by
    unfold slices_IndexFunc___string_string__v2.c5
    simp only [Int.toNat_natCast]
    match hd : R.drop i with
    | [] =>
      have := end_of hi hd
      rw [cond_ndec (by omega)]
      rfl
    | t :: q =>
      obtain ⟨h1, h2, h3, h4⟩ := atS ([] : Nm) R i t q hd
      have w1 : IntKind.wrap .i64 ((i : Int) + 1) = ((i + 1 : Nat) : Int) := by rw [wrap_i64 (by omega) (by omega)]; omega
      rw [cond_dec (by omega), cond_dec (by omega)]
      simp only [h2, vars_Resolve_2_1_v2, w1, v6_eq k L hL hk t, Option.bind_some]
      rw [ixA]
      cases isIn t L with
      | true => rfl
      | false =>
        simp only [cond_false]
        rw [names_loop k L hL hk R hR K n (i + 1) (by omega) (by omega), h3]
        cases ixA L q with
        | none => rfl
        | some j => simp only [Option.map_some]; congr 3; omega

/-- Does a value wait for one that is left? -/
def wts (left : List S27) (v : List UInt8) : Bool := (onV v).any fun n => isIn n left

theorem waits_eq (k : Nat) (hk : 100000000 < k) (L : List S27) (hL : L.length ≤ 1000000) (nm v : Nm) (hv : v.length ≤ NB) : vars_Resolve_2_v2 k nm v L = some (wts L v, L) := by
  unfold vars_Resolve_2_v2
  unfold NB at hv
  rw [on_eq k (by omega) v (by omega)]
  simp only [Option.bind_some]
  unfold slices_ContainsFunc___string_string__v2 slices_IndexFunc___string_string__v2
  have hl := onV_len v
  have := names_loop k L hL (by omega) (onV v) (by omega) (fun y9 => some ((-1 : Int), y9)) k 0 (Nat.zero_le _) (by omega)
  rw [List.drop_zero] at this
  rw [show ((0 : Int)) = ((0 : Nat) : Int) from rfl, this]
  unfold wts
  rw [← ixA_any]
  cases ixA L (onV v) with
  | none => rfl
  | some j =>
    simp only [Nat.zero_add, Option.bind_some, Option.isSome_some]
    rw [decide_eq_true (by omega)]

/-! ### one round -/

def fillV (k : Nat) (s : List UInt8) (kn : List S27) : List UInt8 × Bool := (vars_Fill k s kn).getD ([], false)

theorem fill_eq (k : Nat) (hk : 10000001 < k) {kn : List S27} (hv : Vs kn) (s : List UInt8) : vars_Fill k s kn = some (fillV k s kn) ∧ ((fillV k s kn).2 = true → (fillV k s kn).1.length ≤ 400) := by
  obtain ⟨o, h1, h2⟩ := Fill_ok k hk hv s
  unfold fillV
  rw [h1]
  exact ⟨rfl, h2⟩

def stp (k : Nat) (left : List S27) : List S27 → List S27 → List S27 → List S27 × List S27
  | [], kn, nx => (kn, nx)
  | v :: r, kn, nx => bif wts left v.2 then stp k left r kn (nx ++ [v]) else bif (fillV k v.2 kn).2 then stp k left r (kn ++ [⟨v.1, (fillV k v.2 kn).1⟩]) nx else stp k left r kn nx

structure Kn (kn : List S27) (n : Nat) : Prop where
  len : kn.length ≤ n
  val : ∀ x ∈ kn, x.2.length ≤ 400

theorem Kn.vs {kn : List S27} {n : Nat} (h : Kn kn n) (hn : n ≤ 1000) : Vs kn := ⟨Nat.le_trans h.len hn, fun x hx => by have := h.val x hx; unfold R0; omega⟩

theorem Kn.snoc {kn : List S27} {n : Nat} (h : Kn kn n) {v : S27} (hv : v.2.length ≤ 400) : Kn (kn ++ [v]) (n + 1) :=
  ⟨by have := h.len; rw [List.length_append]; simp; omega, fun x hx => by
    rcases List.mem_append.1 hx with h1 | h1
    · exact h.val x h1
    · rw [List.mem_singleton.1 h1]; exact hv⟩

theorem Kn.mono {kn : List S27} {n m : Nat} (h : Kn kn n) (hm : n ≤ m) : Kn kn m := ⟨Nat.le_trans h.len hm, h.val⟩

theorem step_loop (k : Nat) (hk : 100000000 < k) (all L : List S27) (hL : L.length ≤ 500) (hV : ∀ x ∈ L, x.2.length ≤ NB) (K : List S27 → List S27 → List S27 → List S27 → Option (List S27)) : ∀ (n i : Nat) (kn nx : List S27), i ≤ L.length → L.length - i < n → Kn kn (400 + i) → nx.length ≤ i →
    vars_Resolve.c17 k n L (L.length : Int) (i : Int) all kn L nx K = K all (stp k L (L.drop i) kn nx).1 L (stp k L (L.drop i) kn nx).2
  | 0, i, kn, nx, _, h, _, _ => by omega
  | n + 1, i, kn, nx, hi, hn, hkn, hnx => by
    unfold vars_Resolve.c17
    simp only [Int.toNat_natCast]
    match hd : L.drop i with
    | [] =>
      have := end_of hi hd
      rw [cond_ndec (by omega)]
      rfl
    | t :: q =>
      obtain ⟨h1, h2, h3, h4⟩ := atS S27.d L i t q hd
      have w1 : IntKind.wrap .i64 ((i : Int) + 1) = ((i + 1 : Nat) : Int) := by rw [wrap_i64 (by omega) (by omega)]; omega
      rw [cond_dec (by omega), cond_dec (by omega)]
      simp only [h2, w1, show vars_Resolve_2_v2 k t.Name t.Value L = _ from waits_eq k hk L (by omega) t.1 t.2 (hV t h4), Option.bind_some]
      rw [stp]
      have hkl := hkn.len
      cases wts L t.2 with
      | true =>
        simp only [cond_true]
        rw [most_ok (by rw [List.length_append]; simp; omega), cond_true]
        show vars_Resolve.c17 k n L _ _ all kn L (nx ++ [t]) K = _
        rw [step_loop k hk all L hL hV K n (i + 1) kn (nx ++ [t]) (by omega) (by omega) (hkn.mono (by omega)) (by rw [List.length_append]; simp; omega), h3]
      | false =>
        simp only [cond_false]
        obtain ⟨f1, f2⟩ := fill_eq k (by omega) (hkn.vs (by omega)) t.2
        rw [show vars_Fill k t.Value kn = _ from f1]
        simp only [Option.bind_some]
        cases hf : (fillV k t.2 kn).2 with
        | true =>
          simp only [cond_true]
          rw [most_ok (by rw [List.length_append]; simp; omega), cond_true]
          show vars_Resolve.c17 k n L _ _ all (kn ++ [⟨t.1, (fillV k t.2 kn).1⟩]) L nx K = _
          have := step_loop k hk all L hL hV K n (i + 1) (kn ++ [(⟨t.1, (fillV k t.2 kn).1⟩ : S27)]) nx (by omega) (by omega) ((hkn.snoc (v := (⟨t.1, (fillV k t.2 kn).1⟩ : S27)) (f2 hf)).mono (by omega)) (by omega)
          rw [h3] at this
          exact this
        | false =>
          simp only [cond_false]
          rw [step_loop k hk all L hL hV K n (i + 1) kn nx (by omega) (by omega) (hkn.mono (by omega)) (by omega), h3]

theorem stp_next (k : Nat) (left : List S27) : ∀ (r kn nx : List S27), (stp k left r kn nx).2 = nx ++ r.filter (fun v => wts left v.2)
  | [], kn, nx => by rw [stp]; simp
  | v :: r, kn, nx => by
    rw [stp, List.filter_cons]
    cases wts left v.2 with
    | true => simp only [cond_true, if_true]; rw [stp_next k left r kn, List.append_assoc]; rfl
    | false =>
      simp only [cond_false, Bool.false_eq_true, if_false]
      cases (fillV k v.2 kn).2 with
      | true => exact stp_next k left r _ nx
      | false => exact stp_next k left r kn nx

theorem stp_known (k : Nat) (hk : 10000001 < k) (left : List S27) : ∀ (r kn nx : List S27) (n : Nat), Kn kn n → n + r.length ≤ 1000 →
    Kn (stp k left r kn nx).1 (n + (r.length - (r.filter (fun v => wts left v.2)).length)) ∧ (∀ x ∈ (stp k left r kn nx).1, x ∈ kn ∨ ∃ v ∈ r, x.1 = v.1)
  | [], kn, nx, n, h, _ => ⟨by rw [stp]; exact h.mono (by omega), fun x hx => .inl hx⟩
  | v :: r, kn, nx, n, h, hn => by
    rw [stp, List.filter_cons]
    rw [List.length_cons] at hn
    have hfl : (r.filter (fun v => wts left v.2)).length ≤ r.length := List.length_filter_le _ _
    cases wts left v.2 with
    | true =>
      simp only [cond_true, if_true, List.length_cons]
      obtain ⟨h1, h2⟩ := stp_known k hk left r kn (nx ++ [v]) n h (by omega)
      refine ⟨h1.mono (by omega), fun x hx => ?_⟩
      rcases h2 x hx with h3 | ⟨u, h3, h4⟩
      · exact .inl h3
      · exact .inr ⟨u, by simp [h3], h4⟩
    | false =>
      simp only [cond_false, Bool.false_eq_true, if_false, List.length_cons]
      obtain ⟨f1, f2⟩ := fill_eq k hk (h.vs (by omega)) v.2
      cases hf : (fillV k v.2 kn).2 with
      | true =>
        simp only [cond_true]
        obtain ⟨h1, h2⟩ := stp_known k hk left r (kn ++ [⟨v.1, (fillV k v.2 kn).1⟩]) nx (n + 1) (h.snoc (v := ⟨v.1, (fillV k v.2 kn).1⟩) (f2 hf)) (by omega)
        refine ⟨h1.mono (by omega), fun x hx => ?_⟩
        rcases h2 x hx with h3 | ⟨u, h3, h4⟩
        · rcases List.mem_append.1 h3 with h4 | h4
          · exact .inl h4
          · exact .inr ⟨v, by simp, by rw [List.mem_singleton.1 h4]⟩
        · exact .inr ⟨u, by simp [h3], h4⟩
      | false =>
        simp only [cond_false]
        obtain ⟨h1, h2⟩ := stp_known k hk left r kn nx n h (by omega)
        refine ⟨h1.mono (by omega), fun x hx => ?_⟩
        rcases h2 x hx with h3 | ⟨u, h3, h4⟩
        · exact .inl h3
        · exact .inr ⟨u, by simp [h3], h4⟩

/-! ### it ends -/

open Classical in
theorem cyc {E : Nm → List Nm} : ∀ (m : Nat) (L : List Nm), L.length ≤ m → L ≠ [] → (∀ a ∈ L, ∃ b ∈ L, b ∈ E a) → ∃ a ∈ L, Path E a a
  | 0, L, h, hne, _ => absurd (List.eq_nil_of_length_eq_zero (by omega)) hne
  | m + 1, L, h, hne, hs => by
    obtain ⟨a, ha⟩ := List.exists_mem_of_ne_nil L hne
    by_cases hp : Path E a a
    · exact ⟨a, ha, hp⟩
    · obtain ⟨b, hb, hab⟩ := hs a ha
      have hlt : (L.filter fun x => decide (Path E a x)).length < L.length := List.length_filter_lt_length_iff_exists.2 ⟨a, ha, by simp [hp]⟩
      obtain ⟨c, h1, h2⟩ := cyc (E := E) m (L.filter fun x => decide (Path E a x)) (by omega) (List.ne_nil_of_mem (List.mem_filter.2 ⟨hb, decide_eq_true (.one hab)⟩)) (fun x hx => by
        obtain ⟨h1, h2⟩ := List.mem_filter.1 hx
        obtain ⟨y, h3, h4⟩ := hs x h1
        exact ⟨y, List.mem_filter.2 ⟨h3, decide_eq_true (.snoc (of_decide_eq_true h2) h4)⟩, h4⟩)
      exact ⟨c, (List.mem_filter.1 h1).1, h2⟩

/-- If no name that is left leads back to itself, not all wait. -/
theorem ends {all left : List S27} (hnd : (all.map (·.1)).Nodup) (hs : ∀ v ∈ left, v ∈ all) (hr : ∀ v ∈ left, ring all v.1 = false) (hne : left ≠ []) : (left.filter (fun v => wts left v.2)).length < left.length := by
  rcases Nat.lt_or_ge (left.filter (fun v => wts left v.2)).length left.length with h | h
  · exact h
  · exfalso
    have hall : ∀ v ∈ left, wts left v.2 = true := List.length_filter_eq_length_iff.1 (Nat.le_antisymm (List.length_filter_le _ _) h)
    obtain ⟨a, ha, hp⟩ := cyc (E := edg all) _ (left.map (·.1)) (Nat.le_refl _) (by simpa using hne) (fun a ha => by
      obtain ⟨v, hv, rfl⟩ := List.mem_map.1 ha
      obtain ⟨n, h1, h2⟩ := List.any_eq_true.1 (hall v hv)
      obtain ⟨u, h3, h4⟩ := isIn_iff.1 h2
      refine ⟨n, List.mem_map.2 ⟨u, h3, h4⟩, ?_⟩
      unfold edg
      rw [lastP_mem hnd (hs v hv)]
      exact h1)
    obtain ⟨v, hv, rfl⟩ := List.mem_map.1 ha
    have := hr v hv
    rw [ring_iff.2 hp] at this
    cases this

def rsv (k : Nat) : Nat → List S27 → List S27 → List S27
  | 0, kn, _ => kn
  | n + 1, kn, left => match left with
    | [] => kn
    | v :: r => rsv k n (stp k (v :: r) (v :: r) kn []).1 (stp k (v :: r) (v :: r) kn []).2

theorem rsv_loop (k : Nat) (hk : 100000000 < k) {all : List S27} (hA : Al all) (hnd : (all.map (·.1)).Nodup) (K : List S27 → List S27 → Option (List S27)) : ∀ (m n : Nat) (kn left : List S27), left.length ≤ m → m < n → (∀ v ∈ left, v ∈ all) → (∀ v ∈ left, ring all v.1 = false) → Kn kn (100 - left.length) → left.length ≤ 100 →
    vars_Resolve.c9 k n all kn left K = K all (rsv k m kn left)
  | m, 0, kn, left, _, h, _, _, _, _ => by omega
  | m, n + 1, kn, left, hm, hn, hs, hr, hkn, hl => by
    unfold vars_Resolve.c9
    match left, hm, hs, hr, hkn, hl with
    | [], _, _, _, _, _ =>
      cases m with
      | zero => rfl
      | succ m => rfl
    | v :: r, hm, hs, hr, hkn, hl =>
      rw [List.length_cons] at hm hl
      simp only [List.length_cons]
      rw [cond_dec (by omega)]
      obtain ⟨m', rfl⟩ : ∃ m', m = m' + 1 := ⟨m - 1, by omega⟩
      have hlt := ends hnd hs hr (List.cons_ne_nil v r)
      have e1 := stp_next k (v :: r) (v :: r) kn []
      rw [List.nil_append] at e1
      have := step_loop k hk all (v :: r) (by simp; omega) (fun x hx => hA.val x (hs x hx)) (fun (y24 : List S27) (y25 : List S27) (y26 : List S27) (y27 : List S27) => vars_Resolve.c9 k n y24 y25 y27 K) k 0 kn [] (Nat.zero_le _) (by simp; omega) (hkn.mono (by omega)) (Nat.zero_le _)
      rw [List.drop_zero, List.length_cons] at this
      refine this.trans ?_
      have hk2 := (stp_known k (by omega) (v :: r) (v :: r) kn [] _ hkn (by simp; omega)).1
      rw [rsv]
      have hsub : ∀ u ∈ (stp k (v :: r) (v :: r) kn []).2, u ∈ v :: r := fun u hu => by rw [e1] at hu; exact (List.mem_filter.1 hu).1
      have hln : (stp k (v :: r) (v :: r) kn []).2.length < r.length + 1 := by rw [e1]; exact hlt
      rw [List.length_cons] at hk2
      exact rsv_loop k hk hA hnd K m' n _ _ (by omega) (by omega) (fun u hu => hs u (hsub u hu)) (fun u hu => hr u (hsub u hu)) (hk2.mono (by rw [e1] at hln ⊢; omega)) (by omega)

theorem rsv_known (k : Nat) (hk : 10000001 < k) : ∀ (m : Nat) (kn left : List S27) , Kn kn (100 - left.length) → left.length ≤ 100 → Kn (rsv k m kn left) 100 ∧ (∀ x ∈ rsv k m kn left, x ∈ kn ∨ ∃ v ∈ left, x.1 = v.1)
  | 0, kn, left, h, _ => ⟨h.mono (by omega), fun x hx => .inl hx⟩
  | m + 1, kn, [], h, _ => ⟨h.mono (by simp), fun x hx => .inl hx⟩
  | m + 1, kn, v :: r, h, hl => by
    rw [rsv]
    have e1 := stp_next k (v :: r) (v :: r) kn []
    rw [List.nil_append] at e1
    obtain ⟨h1, h2⟩ := stp_known k hk (v :: r) (v :: r) kn [] _ h (by omega)
    have hfl : ((v :: r).filter (fun u => wts (v :: r) u.2)).length ≤ (v :: r).length := List.length_filter_le _ _
    obtain ⟨h3, h4⟩ := rsv_known k hk m (stp k (v :: r) (v :: r) kn []).1 (stp k (v :: r) (v :: r) kn []).2 (h1.mono (by rw [e1]; omega)) (by rw [e1]; omega)
    refine ⟨h3, fun x hx => ?_⟩
    rcases h4 x hx with h5 | ⟨u, h5, h6⟩
    · rcases h2 x h5 with h7 | h7
      · exact .inl h7
      · exact .inr h7
    · rw [e1] at h5
      exact .inr ⟨u, (List.mem_filter.1 h5).1, h6⟩

/-! ### what is told -/

def fin (kn : List S27) : List S27 → List S27
  | [] => []
  | v :: r => (bif (lastP kn v.1).2 then [⟨v.1, (lastP kn v.1).1⟩] else []) ++ fin kn r

theorem fin_len (kn : List S27) : ∀ l : List S27, (fin kn l).length ≤ l.length
  | [] => Nat.le_refl _
  | v :: r => by
    rw [fin, List.length_append, List.length_cons]
    have := fin_len kn r
    cases (lastP kn v.1).2 <;> simp <;> omega

theorem fin_loop (k : Nat) (kn : List S27) (hkn : kn.length ≤ 1000) (L : List S27) (hL : L.length ≤ 1000) (K : List S27 → Option (List S27)) : ∀ (n i : Nat) (out : List S27), i ≤ L.length → L.length - i < n → out.length ≤ i →
    vars_Resolve.c39 k n L (L.length : Int) (i : Int) kn out K = K (out ++ fin kn (L.drop i))
  | 0, i, out, _, h, _ => by omega
  | n + 1, i, out, hi, hn, ho => by
    unfold vars_Resolve.c39
    simp only [Int.toNat_natCast]
    match hd : L.drop i with
    | [] =>
      have := end_of hi hd
      rw [cond_ndec (by omega), fin, List.append_nil]
    | t :: q =>
      obtain ⟨h1, h2, h3, h4⟩ := atS S27.d L i t q hd
      have w1 : IntKind.wrap .i64 ((i : Int) + 1) = ((i + 1 : Nat) : Int) := by rw [wrap_i64 (by omega) (by omega)]; omega
      rw [cond_dec (by omega), cond_dec (by omega)]
      simp only [h2, w1, show vars_last k kn t.Name = _ from last_eq k kn t.1 hkn, Option.bind_some]
      rw [fin]
      cases (lastP kn t.1).2 with
      | true =>
        simp only [cond_true]
        rw [most_ok (by rw [List.length_append]; simp; omega), cond_true]
        rw [fin_loop k kn hkn L hL K n (i + 1) _ (by omega) (by omega) (by rw [List.length_append]; simp; omega), h3, List.append_assoc]
      | false =>
        simp only [cond_false, List.nil_append]
        rw [fin_loop k kn hkn L hL K n (i + 1) out (by omega) (by omega) (by omega), h3]

noncomputable def lft (all : List S27) : List S27 := all.filter fun x => !ring all x.1
noncomputable def resA (k : Nat) (all : List S27) : List S27 := fin (rsv k 30 [] (lft all)) all
noncomputable def resP (k : Nat) (l : List S27) : List S27 := resA k (cntP [] l)

theorem Ct.al {all : List S27} (h : Ct all) (hv : ∀ x ∈ all, x.2.length ≤ NB) : Al all := ⟨by have := h.len; omega, hv⟩
theorem ct_nil : Ct [] := ⟨(fun x hx => by cases hx), List.nodup_nil, Nat.zero_le _⟩

theorem Resolve_eq (k : Nat) (hk : 100000000 < k) (l : List S27) (hl : l.length ≤ 1000) (hv : ∀ x ∈ l, x.2.length ≤ NB) : vars_Resolve k l = some (resP k l) := by
  unfold vars_Resolve
  obtain ⟨hc, hm⟩ := cnt_ok l [] ct_nil
  have hval : ∀ x ∈ cntP [] l, x.2.length ≤ NB := fun x hx => (hm x hx).elim (fun h => by cases h) (hv x)
  have hA := hc.al hval
  rw [counted_eq k (by omega) l (by omega) (by omega)]
  simp only [Option.bind_some]
  have hcl := hc.len
  rw [show api_SVar__v3 k (cntP [] l) = some (cntP [] l) from by
    unfold api_SVar__v3 cloneS
    rw [show Nat.blt (cntP [] l).length most = true from by rw [Nat.blt_eq]; unfold most; omega]; rfl]
  simp only [Option.bind_some]
  rw [delete_eq k hk _ hA _ (by omega)]
  simp only [Option.bind_some]
  have hll : (lft (cntP [] l)).length ≤ (cntP [] l).length := List.length_filter_le _ _
  have := rsv_loop k hk hA hc.nd (fun y28 y29 => vars_Resolve.c39 k k y28 (y28.length : Int) (0 : Int) y29 ([] : List S27) (fun (y41 : List S27) => some y41)) 30 k [] (lft (cntP [] l)) (by omega) (by omega) (fun v hv => (List.mem_filter.1 hv).1) (fun v hv => by
    have := (List.mem_filter.1 hv).2
    simpa using this) ⟨by simp, fun x hx => by cases hx⟩ (by omega)
  refine this.trans ?_
  have hkn := (rsv_known k (by omega) 30 [] (lft (cntP [] l)) ⟨by simp, fun x hx => by cases hx⟩ (by omega)).1.len
  have h2 := fin_loop k (rsv k 30 [] (lft (cntP [] l))) (by omega) (cntP [] l) (by omega) (fun y => some y) k 0 [] (Nat.zero_le _) (by omega) (Nat.zero_le _)
  rw [List.drop_zero, List.nil_append] at h2
  exact h2

end Go.Ev.Va
