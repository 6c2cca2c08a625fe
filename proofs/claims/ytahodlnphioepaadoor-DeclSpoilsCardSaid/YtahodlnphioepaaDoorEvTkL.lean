/- A bad declaration spoils no neighbour: in plain words, no Go in sight; no condition beyond those that each theorem names. -/
import Derived.Test.YtahodlnphioepaaDoorEvTkW
set_option linter.unusedVariables false
set_option linter.unusedSimpArgs false
namespace Go.Ev.Tok

theorem blk_app : ∀ (q : List Tk) (w : List (List UInt8)) (Z : List Tk), (blk w q).2 = true → blk w (q ++ Z) = blk w q
  | [], w, Z, h => by simp [blk] at h
  | t :: r, w, Z, h => by
    rw [List.cons_append, blk]
    rw [blk] at h ⊢
    cases ho : opT t with
    | true =>
      rw [ho] at h
      simp only [cond_true] at h ⊢
      rw [blk_app r _ Z h]
    | false =>
      rw [ho] at h
      simp only [cond_false] at h ⊢
      cases hc : (clT t && t.2.1 == w.headD []) with
      | false =>
        rw [hc] at h
        simp only [cond_false] at h ⊢
        rw [blk_app r _ Z h]
      | true =>
        rw [hc] at h
        simp only [cond_true] at h ⊢
        cases hw : w.tail.isEmpty with
        | true => rfl
        | false =>
          rw [hw] at h
          simp only [cond_false] at h ⊢
          rw [blk_app r _ Z h]

/-- Is there none outside of blocks for which it is so, and is each block closed? -/
def walk (p : Tk → Bool) : Nat → List Tk → Bool
  | 0, _ => false
  | _ + 1, [] => true
  | n + 1, t :: r => !p t && bif opT t then (blk [clo t] r).2 && walk p n (r.drop (blk [clo t] r).1) else walk p n r

theorem fnd_walk (p : Tk → Bool) : ∀ (n : Nat) (P : List Tk), walk p n P = true → ∀ (Z : List Tk) (k : Nat), P.length + Z.length < k → fnd p k (P ++ Z) = P.length + fnd p k Z
  | 0, P, h, _, _, _ => by cases h
  | n + 1, [], h, Z, k, _ => by simp
  | n + 1, t :: r, h, Z, 0, hk => by omega
  | n + 1, t :: r, h, Z, k + 1, hk => by
    simp only [List.length_cons] at hk ⊢
    rw [walk, Bool.and_eq_true] at h
    have hp : p t = false := by simpa using h.1
    rw [List.cons_append, fnd, hp, cond_false]
    cases ho : opT t with
    | false =>
      rw [ho] at h
      simp only [cond_false] at h ⊢
      rw [fnd_walk p n r h.2 Z k (by omega), fnd_more p k (k + 1) Z (by omega) (by omega)]
      omega
    | true =>
      rw [ho, cond_true, Bool.and_eq_true] at h
      have hb := blk_len r [clo t]
      rw [cond_true, blk_app r _ Z h.2.1, List.drop_append_of_le_length hb, fnd_walk p n _ h.2.2 Z k (by rw [List.length_drop]; omega), fnd_more p k (k + 1) Z (by omega) (by omega), List.length_drop]
      omega

/-- A piece that is no declaration is left out. -/
theorem spoil (P Y : List Tk) (h : walk semT (P.length + 1) P = true) (hd : dcl P = none) : decs (P ++ SEM :: Y) = decs Y := by
  rw [decs_piece P Y, hd]
  · rfl
  · intro m hm
    rw [fnd_walk semT _ P h (SEM :: Y) m (by simp only [List.length_cons]; omega)]
    have z : fnd semT m (SEM :: Y) = 0 := by
      match m with
      | 0 => omega
      | m + 1 => rw [fnd]; rfl
    rw [z]; rfl

theorem spoil_of (bad u : List UInt8) (P : List Tk) (hc : cutP bad = P) (hl : ∀ t, P.getLast? = some t → t.1 ≠ 6 ∧ t.1 ≠ 9) (h : walk semT (P.length + 1) P = true) (hd : dcl P = none) : decs (cutP (bad ++ 59 :: u)) = decs (cutP u) := by
  have ho : ¬ Unfin 59 bad := by
    rintro ⟨t, ht, hk⟩
    rw [hc] at ht
    obtain ⟨h1, h2⟩ := hl t ht
    rcases hk with e | e | e
    · exact h1 e
    · exact absurd e.2 (by decide)
    · exact h2 e
  rw [cut_apart' sign59.stop u _ bad (Nat.le_refl _) ho, hc, sign_cut sign59]
  exact spoil P (cutP u) h hd

theorem lastP {P : List Tk} (h : (match P.getLast? with | some t => t.1 != 6 && t.1 != 9 | none => true) = true) : ∀ t, P.getLast? = some t → t.1 ≠ 6 ∧ t.1 ≠ 9 := by
  intro t ht
  rw [ht] at h
  simpa using h

/-- A remark by itself. -/
theorem spoil_note (u : List UInt8) : decs (cutP ([47, 42, 32, 59, 32, 42, 47] ++ 59 :: u)) = decs (cutP u) := by
  have hi : Go.Lib.index [32, 59, 32, 42, 47] [42, 47] = 3 := by kernel_rfl
  have hi2 : Go.Lib.index ([32, 59, 32, 42, 47] ++ 59 :: u) [42, 47] = 3 := by rw [idx_app (59 :: u) _ (by rw [hi]; decide), hi]
  have ht : tok1 ([47, 42, 32, 59, 32, 42, 47] ++ 59 :: u) = (9, 7, [], 0) := by
    unfold tok1
    have hb : cnt isBlank ([47, 42, 32, 59, 32, 42, 47] ++ 59 :: u) = 0 := by unfold cnt; rw [List.cons_append, List.takeWhile_cons]; rfl
    rw [hb, if_neg (by omega)]
    show (bif (true && true) then ((9 : Int), noteN _, ([] : List UInt8), (0 : Int)) else _) = _
    simp only [Bool.and_self, cond_true]
    have hn : noteN ([47, 42, 32, 59, 32, 42, 47] ++ 59 :: u) = 7 := by
      unfold noteN
      have e : ([47, 42, 32, 59, 32, 42, 47] ++ 59 :: u : List UInt8).drop 2 = [32, 59, 32, 42, 47] ++ 59 :: u := rfl
      rw [e, hi2]; rfl
    rw [hn]
  have hc : cutP ([47, 42, 32, 59, 32, 42, 47] ++ 59 :: u) = [(9, [47, 42, 32, 59, 32, 42, 47], [], 0)] ++ SEM :: cutP u := by
    rw [cutP_cons _ (by simp), ht]
    have : ([47, 42, 32, 59, 32, 42, 47] ++ 59 :: u : List UInt8).drop 7 = 59 :: u := rfl
    rw [this, sign_cut sign59]
    rfl
  rw [hc]
  exact spoil _ _ (by kernel_rfl) (by kernel_rfl)

/-- The twelve bad ones. -/
def bads : List (List UInt8) := [([120] : List UInt8), ([49, 58, 32, 50] : List UInt8), ([97, 58, 32, 93] : List UInt8), ([97, 58, 32, 39, 98, 10] : List UInt8), ([98, 58] : List UInt8), ([99, 58, 32, 100, 123, 59, 125, 101] : List UInt8), ([58] : List UInt8), ([97, 32, 98, 58, 32, 99] : List UInt8), ([47, 42, 32, 59, 32, 42, 47] : List UInt8), ([97, 58, 32, 40, 93, 41] : List UInt8), ([97, 58, 32, 125] : List UInt8), ([97, 58, 32, 92, 10] : List UInt8)]

theorem bads_spoil (u : List UInt8) : ∀ i < 12, decs (cutP (bads.getD i [] ++ 59 :: u)) = decs (cutP u) := by
  intro i hi
  match i with
  | 0 => exact spoil_of _ u _ rfl (lastP (by kernel_rfl)) (by kernel_rfl) (by kernel_rfl)
  | 1 => exact spoil_of _ u _ rfl (lastP (by kernel_rfl)) (by kernel_rfl) (by kernel_rfl)
  | 2 => exact spoil_of _ u _ rfl (lastP (by kernel_rfl)) (by kernel_rfl) (by kernel_rfl)
  | 3 => exact spoil_of _ u _ rfl (lastP (by kernel_rfl)) (by kernel_rfl) (by kernel_rfl)
  | 4 => exact spoil_of _ u _ rfl (lastP (by kernel_rfl)) (by kernel_rfl) (by kernel_rfl)
  | 5 => exact spoil_of _ u _ rfl (lastP (by kernel_rfl)) (by kernel_rfl) (by kernel_rfl)
  | 6 => exact spoil_of _ u _ rfl (lastP (by kernel_rfl)) (by kernel_rfl) (by kernel_rfl)
  | 7 => exact spoil_of _ u _ rfl (lastP (by kernel_rfl)) (by kernel_rfl) (by kernel_rfl)
  | 8 => exact spoil_note u
  | 9 => exact spoil_of _ u _ rfl (lastP (by kernel_rfl)) (by kernel_rfl) (by kernel_rfl)
  | 10 => exact spoil_of _ u _ rfl (lastP (by kernel_rfl)) (by kernel_rfl) (by kernel_rfl)
  | 11 => exact spoil_of _ u _ rfl (lastP (by kernel_rfl)) (by kernel_rfl) (by kernel_rfl)
  | i + 12 => omega

end Go.Ev.Tok
