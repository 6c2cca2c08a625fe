/- Reading declarations and rules from tokens, in plain words: no Go in sight; no condition beyond those that each theorem names. -/
import Derived.Test.YtdnnaneifaoooaaDoorEvTkR
set_option linter.unusedVariables false
set_option linter.unusedSimpArgs false
namespace Go.Ev.Tok

def opT (t : Tk) : Bool := t.1 == 10 || t.1 == 2
def clT (t : Tk) : Bool := t.1 == 11
def badT (t : Tk) : Bool := t.1 == 6
def atT (t : Tk) : Bool := t.1 == 3
def rawT (t : Tk) (k : Int) (s : List UInt8) : Bool := t.1 == k && t.2.1 == s
def semT (t : Tk) : Bool := rawT t 12 [59]
def colT (t : Tk) : Bool := rawT t 12 [58]
def mrkT (t : Tk) : Bool := rawT t 12 [33]
def brcT (t : Tk) : Bool := rawT t 10 [123]
def fldT (t : Tk) (s : List UInt8) : Bool := t.2.2.1.map lowB == s.map lowB

/-- What closes what a token opens. -/
def clo (t : Tk) : List UInt8 := bif t.2.1.getLastD 0 == 91 then [93] else bif t.2.1.getLastD 0 == 123 then [125] else [41]

/-- Behind what opens: how many tokens up to where all is closed, and if it is. -/
def blk : List (List UInt8) → List Tk → Nat × Bool
  | _, [] => (0, false)
  | w, t :: r =>
    bif opT t then ((blk (clo t :: w) r).1 + 1, (blk (clo t :: w) r).2)
    else bif clT t && t.2.1 == w.headD [] then
      bif w.tail.isEmpty then (1, true) else ((blk w.tail r).1 + 1, (blk w.tail r).2)
    else ((blk w r).1 + 1, (blk w r).2)

/-- How many tokens are ahead of the first one outside of blocks for which it is so. -/
def fnd (p : Tk → Bool) : Nat → List Tk → Nat
  | 0, _ => 0
  | _ + 1, [] => 0
  | n + 1, t :: r => bif p t then 0 else bif opT t then (blk [clo t] r).1 + 1 + fnd p n (r.drop (blk [clo t] r).1) else fnd p n r + 1

/-- May a value be so? -/
def fair : Nat → List Tk → Bool
  | 0, _ => false
  | _ + 1, [] => true
  | n + 1, t :: r =>
    bif badT t || brcT t || clT t then false
    else bif opT t then (blk [clo t] r).2 && (fair n (r.take ((blk [clo t] r).1 - 1)) && fair n (r.drop (blk [clo t] r).1))
    else fair n r

def trimE (l : List Tk) : List Tk := (l.reverse.dropWhile silT).reverse
def sol (l : List Tk) : List Tk := trimE (l.dropWhile silT)

def word : List UInt8 := [105, 109, 112, 111, 114, 116, 97, 110, 116]

def imp (l : List Tk) : List Tk × Bool :=
  match (sol l).getLast? with
  | none => (sol l, false)
  | some t => bif t.1 != 1 || !fldT t word then (sol l, false) else
    match (sol (sol l).dropLast).getLast? with
    | none => (sol l, false)
    | some m => bif mrkT m then (sol (sol (sol l).dropLast).dropLast, true) else (sol l, false)

def plainP (s : List UInt8) : Bool := match cutP s with
  | [t] => t.1 == 1 && t.2.2.1 == s && t.2.1 == s
  | _ => false

def ownP (s : List UInt8) : Bool := [45, 45].isPrefixOf s
def nmP (s : List UInt8) : List UInt8 := bif ownP s then s else s.map lowB

/-- The text of tokens, one blank for all blanks and remarks in a row. -/
def hdP : Bool → Bool → List Tk → List UInt8
  | _, _, [] => []
  | any, gap, t :: r => bif silT t then hdP any any r else (bif gap then [32] else []) ++ t.2.1 ++ hdP true false r

abbrev Dc := List UInt8 × List UInt8 × Bool

theorem tx_val (q : UInt8) : ∀ s : List UInt8, (tx q s).2.2.length ≤ (tx q s).2.1
  | [] => by simp [tx]
  | [c] => by unfold tx; cases (c == q) <;> cases (c == 10) <;> simp
  | c :: d :: r => by
    have h1 := tx_val q r
    have h2 := tx_val q (d :: r)
    unfold tx
    cases (c == q) <;> cases (c == 10) <;> cases (c == 92) <;> simp at h2 ⊢ <;> omega

theorem tok1_val (s : List UInt8) : (tok1 s).2.2.1.length ≤ (tok1 s).2.1 := by
  have t1 := tx_val (s.getD 0 0) (s.drop 1)
  have n1 := nm_len (s.drop 1)
  have n2 := nm_len (s.drop (nlen s))
  have n3 := nm_len s
  unfold tok1
  split
  · simp
  cases (hd1 s 47 && hd1 (s.drop 1) 42)
  · cases (hd1 s 39 || hd1 s 34)
    · cases (hd1 s 35 && decide (1 < s.length) && (isSg (s.getD 1 0) || esc (s.drop 1)))
      · cases (hd1 s 64 && bg (s.drop 1))
        · simp only [cond_false]
          split
          · unfold numT
            cases hd1 (s.drop (nlen s)) 37 <;> cases bg (s.drop (nlen s)) <;> simp only [cond_true, cond_false, List.length_nil, List.length_map, List.length_cons] <;> omega
          · cases bg s
            · simp
            · unfold nameT
              cases hd1 (s.drop (nm s).2) 40 <;> simp only [cond_true, cond_false, List.length_nil, List.length_map, List.length_cons] <;> omega
        · simp only [cond_true, cond_false]; omega
      · simp only [cond_true, cond_false]; omega
    · cases (tx (s.getD 0 0) (s.drop 1)).1 <;> simp only [cond_true, cond_false, List.length_nil, List.length_map, List.length_cons] <;> omega
  · simp

theorem cut_val : ∀ (n : Nat) (s : List UInt8), s.length ≤ n → ∀ t ∈ cutP s, t.2.2.1.length ≤ t.2.1.length
  | 0, s, h, t, ht => by
    have : s = [] := List.length_eq_zero_iff.1 (by omega)
    subst this
    simp [cutP_nil] at ht
  | n + 1, s, h, t, ht => by
    by_cases hs : s = []
    · subst hs
      simp [cutP_nil] at ht
    · have h1 := tok1_ok s hs
      rw [cutP_cons s hs] at ht
      rcases List.mem_cons.1 ht with e | e
      · rw [e]
        show (tok1 s).2.2.1.length ≤ (s.take (tok1 s).2.1).length
        have := tok1_val s
        rw [List.length_take]; omega
      · exact cut_val n _ (by rw [List.length_drop]; omega) t e

theorem blk_len : ∀ (l : List Tk) (w : List (List UInt8)), (blk w l).1 ≤ l.length
  | [], w => by simp [blk]
  | t :: r, w => by
    unfold blk
    cases opT t with
    | true => simp only [cond_true, List.length_cons]; have := blk_len r (clo t :: w); omega
    | false =>
      simp only [cond_false]
      cases (clT t && t.2.1 == w.headD []) with
      | false => simp only [cond_false, List.length_cons]; have := blk_len r w; omega
      | true =>
        simp only [cond_true]
        cases w.tail.isEmpty with
        | true => simp
        | false => simp only [cond_false, List.length_cons]; have := blk_len r w.tail; omega

/-- Where a block is not closed it goes to the end. -/
theorem blk_open : ∀ (l : List Tk) (w : List (List UInt8)), (blk w l).2 = false → (blk w l).1 = l.length
  | [], w, _ => by simp [blk]
  | t :: r, w, h => by
    unfold blk at h ⊢
    cases ho : opT t with
    | true => rw [ho] at h; simp only [cond_true, List.length_cons] at h ⊢; rw [blk_open r _ h]
    | false =>
      rw [ho] at h
      simp only [cond_false] at h ⊢
      cases hc : (clT t && t.2.1 == w.headD []) with
      | false => rw [hc] at h; simp only [cond_false, List.length_cons] at h ⊢; rw [blk_open r _ h]
      | true =>
        rw [hc] at h
        simp only [cond_true] at h ⊢
        cases hw : w.tail.isEmpty with
        | true => rw [hw] at h; simp at h
        | false => rw [hw] at h; simp only [cond_false, List.length_cons] at h ⊢; rw [blk_open r _ h]

theorem blk_pos : ∀ (l : List Tk) (w : List (List UInt8)), (blk w l).2 = true → 1 ≤ (blk w l).1
  | [], w, h => by simp [blk] at h
  | t :: r, w, h => by
    unfold blk
    cases opT t with
    | true => simp only [cond_true]; omega
    | false =>
      simp only [cond_false]
      cases (clT t && t.2.1 == w.headD []) with
      | false => simp only [cond_false]; omega
      | true =>
        simp only [cond_true]
        cases w.tail.isEmpty with
        | true => simp
        | false => simp only [cond_false]; omega

theorem fair_more : ∀ (n m : Nat) (l : List Tk), l.length < n → n ≤ m → fair m l = fair n l
  | 0, m, l, h, _ => by omega
  | n + 1, 0, l, _, h => by omega
  | n + 1, m + 1, [], h, hm => rfl
  | n + 1, m + 1, t :: r, h, hm => by
    simp only [List.length_cons] at h
    rw [fair, fair]
    have hb := blk_len r [clo t]
    rw [fair_more n m (r.take ((blk [clo t] r).1 - 1)) (by rw [List.length_take]; omega) (by omega), fair_more n m (r.drop (blk [clo t] r).1) (by rw [List.length_drop]; omega) (by omega), fair_more n m r (by omega) (by omega)]

theorem fnd_more (p : Tk → Bool) : ∀ (n m : Nat) (l : List Tk), l.length < n → n ≤ m → fnd p m l = fnd p n l
  | 0, m, l, h, _ => by omega
  | n + 1, 0, l, _, h => by omega
  | n + 1, m + 1, [], h, hm => rfl
  | n + 1, m + 1, t :: r, h, hm => by
    simp only [List.length_cons] at h
    rw [fnd, fnd]
    have hb := blk_len r [clo t]
    rw [fnd_more p n m (r.drop (blk [clo t] r).1) (by rw [List.length_drop]; omega) (by omega), fnd_more p n m r (by omega) (by omega)]

/-- May a value be so? -/
def fairP (l : List Tk) : Bool := fair (l.length + 1) l

theorem fairP_of (n : Nat) (l : List Tk) (h : l.length < n) : fair n l = fairP l := fair_more (l.length + 1) n l (by omega) (by omega)

theorem fairP_cons (t : Tk) (r : List Tk) : fairP (t :: r) = bif badT t || brcT t || clT t then false
    else bif opT t then (blk [clo t] r).2 && (fairP (r.take ((blk [clo t] r).1 - 1)) && fairP (r.drop (blk [clo t] r).1))
    else fairP r := by
  have hb := blk_len r [clo t]
  conv => lhs; unfold fairP
  rw [List.length_cons, fair, fairP_of _ _ (by rw [List.length_take]; omega), fairP_of _ _ (by rw [List.length_drop]; omega), fairP_of _ _ (by omega)]

theorem fnd_len (p : Tk → Bool) : ∀ (n : Nat) (l : List Tk), fnd p n l ≤ l.length
  | 0, l => by simp [fnd]
  | n + 1, [] => by simp [fnd]
  | n + 1, t :: r => by
    unfold fnd
    cases p t with
    | true => simp
    | false =>
      cases opT t with
      | true =>
        simp only [cond_true, cond_false, List.length_cons]
        have := blk_len r [clo t]
        have h2 := fnd_len p n (r.drop (blk [clo t] r).1)
        simp only [List.length_drop] at h2
        omega
      | false => simp only [cond_false, List.length_cons]; have := fnd_len p n r; omega

def dcl (l : List Tk) : Option Dc :=
  match sol l with
  | [] => none
  | t :: r => bif t.1 != 1 then none else
    match sol r with
    | [] => none
    | c :: q => bif !colT c || !plainP (nmP t.2.2.1) then none else
      bif fairP (imp q).1 && (ownP t.2.2.1 || !(hdP false false (imp q).1).isEmpty) then some (nmP t.2.2.1, hdP false false (imp q).1, (imp q).2) else none

def dcls : Nat → List Tk → List Dc
  | 0, _ => []
  | _ + 1, [] => []
  | n + 1, l => (dcl (l.take (fnd semT (l.length + 1) l))).toList ++ dcls n (l.drop (fnd semT (l.length + 1) l + 1))


end Go.Ev.Tok
