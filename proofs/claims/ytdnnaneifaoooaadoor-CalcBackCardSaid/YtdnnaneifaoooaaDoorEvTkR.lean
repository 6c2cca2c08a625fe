/- Tokens of a text, told with one blank for all blanks and remarks in a row, and cut again: in plain words, no Go in sight; no condition beyond those that each theorem names. -/
import Derived.Test.YtdnnaneifaoooaaDoorEvTkQ
set_option linter.unusedVariables false
set_option linter.unusedSimpArgs false
namespace Go.Ev.Tok

abbrev Tk := Int × List UInt8 × List UInt8 × Int

/-- The text of tokens. -/
def rw (l : List Tk) : List UInt8 := (l.map fun t => t.2.1).flatten

theorem rw_nil : rw [] = [] := rfl
theorem rw_cons (t : Tk) (l : List Tk) : rw (t :: l) = t.2.1 ++ rw l := rfl
theorem rw_app (a b : List Tk) : rw (a ++ b) = rw a ++ rw b := by unfold rw; rw [List.map_append, List.flatten_append]
theorem rw_cut (s : List UInt8) : rw (cutP s) = s := (cutP_raw _ s (Nat.le_refl _)).1
theorem raw_ne {s : List UInt8} {t : Tk} (h : t ∈ cutP s) : t.2.1 ≠ [] := (cutP_raw _ s (Nat.le_refl _)).2 t h

/-- The first tokens of a text are those of the text up to there, the others those of the rest. -/
theorem cut_split : ∀ (A B : List Tk) (s : List UInt8), cutP s = A ++ B → cutP (rw A) = A ∧ cutP (rw B) = B ∧ s = rw A ++ rw B
  | [], B, s, h => by
    have := rw_cut s
    rw [h] at this
    refine ⟨rfl, ?_, ?_⟩
    · rw [List.nil_append] at this; rw [this, h]; rfl
    · rw [List.nil_append] at this; rw [rw_nil, List.nil_append, this]
  | a :: A, B, s, h => by
    by_cases hs : s = []
    · subst hs; rw [cutP_nil] at h; cases h
    · have h1 := tok1_ok s hs
      rw [cutP_cons s hs, List.cons_append] at h
      simp only [List.cons.injEq] at h
      obtain ⟨ha, hr⟩ := h
      obtain ⟨i1, i2, i3⟩ := cut_split A B _ hr
      have hra : a.2.1 = s.take (tok1 s).2.1 := by rw [← ha]; rfl
      have hS : s = s.take (tok1 s).2.1 ++ (rw A ++ rw B) := by rw [← i3, List.take_append_drop]
      have hlen : (s.take (tok1 s).2.1).length = (tok1 s).2.1 := by rw [List.length_take]; omega
      refine ⟨?_, i2, by rw [rw_cons, hra, List.append_assoc]; exact hS⟩
      have hs' : rw (a :: A) = s.take ((tok1 s).2.1 + (rw A).length) := by
        have hS2 : s = rw (a :: A) ++ rw B := by rw [rw_cons, hra, List.append_assoc]; exact hS
        have hl2 : (rw (a :: A)).length = (tok1 s).2.1 + (rw A).length := by rw [rw_cons, hra, List.length_append, hlen]
        rw [← hl2]
        have := congrArg (List.take (rw (a :: A)).length) hS2
        rw [List.take_left' rfl] at this
        exact this.symm
      have hne : rw (a :: A) ≠ [] := by
        intro he
        have := congrArg List.length he
        rw [rw_cons, hra, List.length_append, hlen] at this
        simp at this; omega
      have ht : tok1 (rw (a :: A)) = tok1 s := by rw [hs']; exact tok1_take s hs _ (by omega)
      rw [cutP_cons _ hne, ht]
      have e1 : (rw (a :: A)).drop (tok1 s).2.1 = rw A := by rw [rw_cons, hra, List.drop_left' hlen]
      have e2 : tokO (rw (a :: A)) (tok1 s) = a := by
        have h3 : (rw (a :: A)).take (tok1 s).2.1 = s.take (tok1 s).2.1 := by rw [rw_cons, hra, List.take_left' hlen]
        have h4 : tokO (rw (a :: A)) (tok1 s) = tokO s (tok1 s) := by unfold tokO; rw [h3]
        rw [h4, ha]
      rw [e1, e2, i1]

theorem cut_seg {A R B : List Tk} {s : List UInt8} (h : cutP s = A ++ R ++ B) : cutP (rw R) = R := by
  have h1 := (cut_split (A ++ R) B s h).1
  exact (cut_split A R _ h1).2.1

/-- A list of tokens that is what its text is cut into. -/
def Cut (l : List Tk) : Prop := cutP (rw l) = l

theorem Cut.of (s : List UInt8) : Cut (cutP s) := by unfold Cut; rw [rw_cut]
theorem Cut.left {a b : List Tk} (h : Cut (a ++ b)) : Cut a := (cut_split a b _ h).1
theorem Cut.right {a b : List Tk} (h : Cut (a ++ b)) : Cut b := (cut_split a b _ h).2.1
theorem Cut.ne {l : List Tk} (h : Cut l) {t : Tk} (ht : t ∈ l) : t.2.1 ≠ [] := by
  unfold Cut at h
  rw [← h] at ht
  exact raw_ne ht

def silT (t : Tk) : Bool := t.1 == 8 || t.1 == 9
def SP : Tk := (8, [32], [], 0)

/-- Tokens with one blank for all blanks and remarks in a row, and none at the ends. -/
def nrmF : Nat → List Tk → List Tk
  | 0, _ => []
  | n + 1, l => match l.dropWhile silT with
    | [] => []
    | t :: r => ((t :: r).takeWhile fun t => !silT t) ++ match nrmF n ((t :: r).dropWhile fun t => !silT t) with
      | [] => []
      | m => SP :: m

def nrm (l : List Tk) : List Tk := nrmF (l.length + 1) l

theorem drop_le {α : Type} (p : α → Bool) (l : List α) : (l.dropWhile p).length ≤ l.length := (List.dropWhile_sublist p).length_le

theorem nrmF_more : ∀ (n m : Nat) (l : List Tk), l.length < n → n ≤ m → nrmF m l = nrmF n l
  | 0, m, l, h, _ => by omega
  | n + 1, 0, l, _, h => by omega
  | n + 1, m + 1, l, h, hm => by
    unfold nrmF
    cases hd : l.dropWhile silT with
    | nil => rfl
    | cons t r =>
      have h1 := drop_le silT l
      rw [hd] at h1
      have h2 : ((t :: r).dropWhile fun t => !silT t).length < (t :: r).length := by
        have ht : silT t = false := by
          have := List.head?_dropWhile_not silT l
          rw [hd] at this
          simpa using this
        rw [List.dropWhile_cons, ht]
        simp only [Bool.not_false, if_true]
        have := drop_le (fun t => !silT t) r
        simp only [List.length_cons]; omega
      simp only
      rw [nrmF_more n m _ (by omega) (by omega)]

theorem mem_tw {α : Type} {p : α → Bool} {l : List α} {u : α} (h : u ∈ l.takeWhile p) : p u = true := by
  induction l with
  | nil => cases h
  | cons a l ih =>
    rw [List.takeWhile_cons] at h
    split at h
    · next hp => rcases List.mem_cons.1 h with e | e
                 · rw [e]; exact hp
                 · exact ih e
    · cases h

/-- How a list of tokens goes on: blanks, a run of others, the rest. -/
theorem parts (l : List Tk) : l.dropWhile silT = [] ∨ ∃ S R r, l = S ++ R ++ r ∧ (∀ t ∈ S, silT t = true) ∧ R ≠ [] ∧ (∀ t ∈ R, silT t = false) ∧ (r = [] ∨ ∃ u r', r = u :: r' ∧ silT u = true) ∧
    nrm l = R ++ match nrm r with
      | [] => []
      | m => SP :: m := by
  cases hd : l.dropWhile silT with
  | nil => exact .inl rfl
  | cons t r =>
    right
    have ht : silT t = false := by
      have := List.head?_dropWhile_not silT l
      rw [hd] at this
      simpa using this
    refine ⟨l.takeWhile silT, (t :: r).takeWhile fun t => !silT t, (t :: r).dropWhile fun t => !silT t, ?_, ?_, ?_, ?_, ?_, ?_⟩
    · rw [List.append_assoc, List.takeWhile_append_dropWhile, ← hd, List.takeWhile_append_dropWhile]
    · intro u hu; exact mem_tw hu
    · rw [List.takeWhile_cons, ht]; simp
    · intro u hu; have := mem_tw hu; simpa using this
    · cases hr : (t :: r).dropWhile fun t => !silT t with
      | nil => exact .inl rfl
      | cons u r' =>
        refine .inr ⟨u, r', rfl, ?_⟩
        have := List.head?_dropWhile_not (fun t => !silT t) (t :: r)
        rw [hr] at this
        simpa using this
    · have h1 := drop_le silT l
      rw [hd] at h1
      have h2 : ((t :: r).dropWhile fun t => !silT t).length < (t :: r).length := by
        rw [List.dropWhile_cons, ht]
        simp only [Bool.not_false, if_true]
        have := drop_le (fun t => !silT t) r
        simp only [List.length_cons]; omega
      have e : nrm l = ((t :: r).takeWhile fun t => !silT t) ++ match nrmF l.length ((t :: r).dropWhile fun t => !silT t) with
          | [] => []
          | m => SP :: m := by
        unfold nrm
        rw [nrmF, hd]
      rw [e]
      have e2 : nrm ((t :: r).dropWhile fun t => !silT t) = nrmF l.length ((t :: r).dropWhile fun t => !silT t) := by
        unfold nrm
        exact (nrmF_more _ _ _ (Nat.lt_succ_self _) (by omega)).symm
      rw [e2]

theorem nrm_sil (l : List Tk) (h : l.dropWhile silT = []) : nrm l = [] := by
  unfold nrm; rw [nrmF, h]

end Go.Ev.Tok
