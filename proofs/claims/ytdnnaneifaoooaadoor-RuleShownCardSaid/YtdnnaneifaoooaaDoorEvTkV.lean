/- EvTkL, EvTkM, EvTkN, EvTkO, EvTkY, EvTkZ in one: no condition beyond those that each theorem names. -/
import Derived.Test.YtdnnaneifaoooaaDoorEvTkW
-- from EvTkL
set_option linter.unusedVariables false
set_option linter.unusedSimpArgs false
namespace Go.Ev.Tok

theorem blk_app : ∀ (q : List Tk) (w : List (List UInt8)) (Z : List Tk), (blk w q).2 = true → blk w (q ++ Z) = blk w q
  | [], w, Z, h => by simp [blk] at h
  | t :: r, w, Z, h => by
    rw [List.cons_append, blk]
    rw [blk] at h ⊢
    cases ho : opT t with
    | true =>
      rw [ho] at h
      simp only [cond_true] at h ⊢
      rw [blk_app r _ Z h]
    | false =>
      rw [ho] at h
      simp only [cond_false] at h ⊢
      cases hc : (clT t && t.2.1 == w.headD []) with
      | false =>
        rw [hc] at h
        simp only [cond_false] at h ⊢
        rw [blk_app r _ Z h]
      | true =>
        rw [hc] at h
        simp only [cond_true] at h ⊢
        cases hw : w.tail.isEmpty with
        | true => rfl
        | false =>
          rw [hw] at h
          simp only [cond_false] at h ⊢
          rw [blk_app r _ Z h]

/-- Is there none outside of blocks for which it is so, and is each block closed? -/
def walk (p : Tk → Bool) : Nat → List Tk → Bool
  | 0, _ => false
  | _ + 1, [] => true
  | n + 1, t :: r => !p t && bif opT t then (blk [clo t] r).2 && walk p n (r.drop (blk [clo t] r).1) else walk p n r

theorem fnd_walk (p : Tk → Bool) : ∀ (n : Nat) (P : List Tk), walk p n P = true → ∀ (Z : List Tk) (k : Nat), P.length + Z.length < k → fnd p k (P ++ Z) = P.length + fnd p k Z
  | 0, P, h, _, _, _ => by cases h
  | n + 1, [], h, Z, k, _ => by simp
  | n + 1, t :: r, h, Z, 0, hk => by omega
  | n + 1, t :: r, h, Z, k + 1, hk => by
    simp only [List.length_cons] at hk ⊢
    rw [walk, Bool.and_eq_true] at h
    have hp : p t = false := by simpa using h.1
    rw [List.cons_append, fnd, hp, cond_false]
    cases ho : opT t with
    | false =>
      rw [ho] at h
      simp only [cond_false] at h ⊢
      rw [fnd_walk p n r h.2 Z k (by omega), fnd_more p k (k + 1) Z (by omega) (by omega)]
      omega
    | true =>
      rw [ho, cond_true, Bool.and_eq_true] at h
      have hb := blk_len r [clo t]
      rw [cond_true, blk_app r _ Z h.2.1, List.drop_append_of_le_length hb, fnd_walk p n _ h.2.2 Z k (by rw [List.length_drop]; omega), fnd_more p k (k + 1) Z (by omega) (by omega), List.length_drop]
      omega

/-- A piece that is no declaration is left out. -/
theorem spoil (P Y : List Tk) (h : walk semT (P.length + 1) P = true) (hd : dcl P = none) : decs (P ++ SEM :: Y) = decs Y := by
  rw [decs_piece P Y, hd]
  · rfl
  · intro m hm
    rw [fnd_walk semT _ P h (SEM :: Y) m (by simp only [List.length_cons]; omega)]
    have z : fnd semT m (SEM :: Y) = 0 := by
      match m with
      | 0 => omega
      | m + 1 => rw [fnd]; rfl
    rw [z]; rfl

theorem spoil_of (bad u : List UInt8) (P : List Tk) (hc : cutP bad = P) (hl : ∀ t, P.getLast? = some t → t.1 ≠ 6 ∧ t.1 ≠ 9) (h : walk semT (P.length + 1) P = true) (hd : dcl P = none) : decs (cutP (bad ++ 59 :: u)) = decs (cutP u) := by
  have ho : ¬ Unfin 59 bad := by
    rintro ⟨t, ht, hk⟩
    rw [hc] at ht
    obtain ⟨h1, h2⟩ := hl t ht
    rcases hk with e | e | e
    · exact h1 e
    · exact absurd e.2 (by decide)
    · exact h2 e
  rw [cut_apart' sign59.stop u _ bad (Nat.le_refl _) ho, hc, sign_cut sign59]
  exact spoil P (cutP u) h hd

theorem lastP {P : List Tk} (h : (match P.getLast? with | some t => t.1 != 6 && t.1 != 9 | none => true) = true) : ∀ t, P.getLast? = some t → t.1 ≠ 6 ∧ t.1 ≠ 9 := by
  intro t ht
  rw [ht] at h
  simpa using h

/-- A remark by itself. -/
theorem spoil_note (u : List UInt8) : decs (cutP ([47, 42, 32, 59, 32, 42, 47] ++ 59 :: u)) = decs (cutP u) := by
  have hi : Go.Lib.index [32, 59, 32, 42, 47] [42, 47] = 3 := by kernel_rfl
  have hi2 : Go.Lib.index ([32, 59, 32, 42, 47] ++ 59 :: u) [42, 47] = 3 := by rw [idx_app (59 :: u) _ (by rw [hi]; decide), hi]
  have ht : tok1 ([47, 42, 32, 59, 32, 42, 47] ++ 59 :: u) = (9, 7, [], 0) := by
    unfold tok1
    have hb : cnt isBlank ([47, 42, 32, 59, 32, 42, 47] ++ 59 :: u) = 0 := by unfold cnt; rw [List.cons_append, List.takeWhile_cons]; rfl
    rw [hb, if_neg (by omega)]
    show (bif (true && true) then ((9 : Int), noteN _, ([] : List UInt8), (0 : Int)) else _) = _
    simp only [Bool.and_self, cond_true]
    have hn : noteN ([47, 42, 32, 59, 32, 42, 47] ++ 59 :: u) = 7 := by
      unfold noteN
      have e : ([47, 42, 32, 59, 32, 42, 47] ++ 59 :: u : List UInt8).drop 2 = [32, 59, 32, 42, 47] ++ 59 :: u := rfl
      rw [e, hi2]; rfl
    rw [hn]
  have hc : cutP ([47, 42, 32, 59, 32, 42, 47] ++ 59 :: u) = [(9, [47, 42, 32, 59, 32, 42, 47], [], 0)] ++ SEM :: cutP u := by
    rw [cutP_cons _ (by simp), ht]
    have : ([47, 42, 32, 59, 32, 42, 47] ++ 59 :: u : List UInt8).drop 7 = 59 :: u := rfl
    rw [this, sign_cut sign59]
    rfl
  rw [hc]
  exact spoil _ _ (by kernel_rfl) (by kernel_rfl)

/-- The twelve bad ones. -/
def bads : List (List UInt8) := [([120] : List UInt8), ([49, 58, 32, 50] : List UInt8), ([97, 58, 32, 93] : List UInt8), ([97, 58, 32, 39, 98, 10] : List UInt8), ([98, 58] : List UInt8), ([99, 58, 32, 100, 123, 59, 125, 101] : List UInt8), ([58] : List UInt8), ([97, 32, 98, 58, 32, 99] : List UInt8), ([47, 42, 32, 59, 32, 42, 47] : List UInt8), ([97, 58, 32, 40, 93, 41] : List UInt8), ([97, 58, 32, 125] : List UInt8), ([97, 58, 32, 92, 10] : List UInt8)]

theorem bads_spoil (u : List UInt8) : ∀ i < 12, decs (cutP (bads.getD i [] ++ 59 :: u)) = decs (cutP u) := by
  intro i hi
  match i with
  | 0 => exact spoil_of _ u _ rfl (lastP (by kernel_rfl)) (by kernel_rfl) (by kernel_rfl)
  | 1 => exact spoil_of _ u _ rfl (lastP (by kernel_rfl)) (by kernel_rfl) (by kernel_rfl)
  | 2 => exact spoil_of _ u _ rfl (lastP (by kernel_rfl)) (by kernel_rfl) (by kernel_rfl)
  | 3 => exact spoil_of _ u _ rfl (lastP (by kernel_rfl)) (by kernel_rfl) (by kernel_rfl)
  | 4 => exact spoil_of _ u _ rfl (lastP (by kernel_rfl)) (by kernel_rfl) (by kernel_rfl)
  | 5 => exact spoil_of _ u _ rfl (lastP (by kernel_rfl)) (by kernel_rfl) (by kernel_rfl)
  | 6 => exact spoil_of _ u _ rfl (lastP (by kernel_rfl)) (by kernel_rfl) (by kernel_rfl)
  | 7 => exact spoil_of _ u _ rfl (lastP (by kernel_rfl)) (by kernel_rfl) (by kernel_rfl)
  | 8 => exact spoil_note u
  | 9 => exact spoil_of _ u _ rfl (lastP (by kernel_rfl)) (by kernel_rfl) (by kernel_rfl)
  | 10 => exact spoil_of _ u _ rfl (lastP (by kernel_rfl)) (by kernel_rfl) (by kernel_rfl)
  | 11 => exact spoil_of _ u _ rfl (lastP (by kernel_rfl)) (by kernel_rfl) (by kernel_rfl)
  | i + 12 => omega

end Go.Ev.Tok

-- from EvTkM
set_option linter.unusedVariables false
set_option linter.unusedSimpArgs false
namespace Go.Ev.Tok

inductive Rl where
  | mk (media : Bool) (head : List UInt8) (ds : List Dc) (rs : List Rl)

def medW : List UInt8 := [109, 101, 100, 105, 97]
/-- What ends a rule's head. -/
def hdT (a : Bool) (t : Tk) : Bool := brcT t || (a && semT t)

/-- A rule of its head and what is in its block. -/
def rul (sub : Option (List Tk → List Rl)) (h i : List Tk) : Option Rl :=
  bif h.any badT then none else match h with
  | [] => some (.mk false [] (decs i) [])
  | t :: q => bif !atT t then some (.mk false (hdP false false (t :: q)) (decs i) []) else
    match sub with
    | none => none
    | some f => bif fldT t medW then some (.mk true (hdP false false q) [] (f i)) else none

/-- What is in a block. -/
def inn (x : Tk) (D : List Tk) : List Tk := D.take (bif (blk [clo x] D).2 then (blk [clo x] D).1 - 1 else (blk [clo x] D).1)

def hdN (t : Tk) (r : List Tk) : Nat := fnd (hdT (atT t)) (r.length + 2) (t :: r)

/-- Rules of tokens; sub: what reads those under a query. -/
def rlsF (sub : Option (List Tk → List Rl)) : Nat → List Tk → List Rl
  | 0, _ => []
  | n + 1, l => match sol l with
    | [] => []
    | t :: r => match (t :: r).drop (hdN t r) with
      | [] => []
      | x :: D => bif brcT x then (rul sub ((t :: r).take (hdN t r)) (inn x D)).toList ++ rlsF sub n (D.drop (blk [clo x] D).1) else rlsF sub n D

def rls : Nat → List Tk → List Rl
  | 0, L => rlsF none (L.length + 1) L
  | d + 1, L => rlsF (some (rls d)) (L.length + 1) L

def sb : Nat → Option (List Tk → List Rl)
  | 0 => none
  | d + 1 => some (rls d)

theorem rls_sb (d : Nat) (L : List Tk) : rls d L = rlsF (sb d) (L.length + 1) L := by cases d <;> rfl

theorem sol_le (L : List Tk) : (sol L).length ≤ L.length := by
  obtain ⟨S, E, h, _, _⟩ := sol_split L
  have := congrArg List.length h
  simp only [List.length_append] at this
  omega

theorem rlsF_more (sub : Option (List Tk → List Rl)) : ∀ (n m : Nat) (l : List Tk), l.length < n → n ≤ m → rlsF sub m l = rlsF sub n l
  | 0, m, l, h, _ => by omega
  | n + 1, 0, l, h, h2 => by omega
  | n + 1, m + 1, l, h, h2 => by
    rw [rlsF, rlsF]
    have hs := sol_le l
    match hL : sol l with
    | [] => rfl
    | t :: r =>
      simp only
      match hd : (t :: r).drop (hdN t r) with
      | [] => rfl
      | x :: D =>
        have h3 : (x :: D).length ≤ (t :: r).length := by rw [← hd, List.length_drop]; omega
        rw [hL] at hs
        simp only [List.length_cons] at h3 hs
        simp only
        rw [rlsF_more sub n m D (by omega) (by omega), rlsF_more sub n m _ (by rw [List.length_drop]; omega) (by omega)]

theorem rls_of (d n : Nat) (L : List Tk) (h : L.length < n) : rlsF (sb d) n L = rls d L := by
  rw [rls_sb, rlsF_more (sb d) (L.length + 1) n L (by omega) (by omega)]

theorem rls_sol (d : Nat) {A B : List Tk} (h : sol A = sol B) : rls d A = rls d B := by
  rw [← rls_of d (A.length + B.length + 1) A (by omega), ← rls_of d (A.length + B.length + 1) B (by omega), rlsF, rlsF, h]

theorem rls_nil (d : Nat) {A : List Tk} (h : AllS A) : rls d A = [] := by
  rw [rls_sb, rlsF, sol_all A h]

/-- How rules go on. -/
theorem rls_next (d : Nat) (L : List Tk) (t : Tk) (r : List Tk) (h : sol L = t :: r) : rls d L = match (t :: r).drop (hdN t r) with
      | [] => []
      | x :: D => bif brcT x then (rul (sb d) ((t :: r).take (hdN t r)) (inn x D)).toList ++ rls d (D.drop (blk [clo x] D).1) else rls d D := by
  rw [rls_sb, rlsF, h]
  simp only
  have hs := sol_le L
  match hd : (t :: r).drop (hdN t r) with
  | [] => rfl
  | x :: D =>
    have h3 : (x :: D).length ≤ (t :: r).length := by rw [← hd, List.length_drop]; omega
    rw [h] at hs
    simp only [List.length_cons] at h3 hs
    simp only
    rw [rls_of d L.length D (by omega), rls_of d L.length _ (by rw [List.length_drop]; omega)]

/-- One walk over a head: is none bad, none outside of blocks an end of it, all closed, and, if br, no block ahead ended by it? -/
def hk (a br : Bool) : List (List UInt8) → List Tk → Bool
  | [], [] => true
  | _ :: _, [] => false
  | [], t :: r => !(badT t || hdT a t) && bif opT t then hk a br [clo t] r else !(br && (clT t && t.2.1 == [125])) && hk a br [] r
  | c :: w, t :: r => !badT t && bif opT t then hk a br (clo t :: c :: w) r else bif clT t && t.2.1 == c then hk a br w r else hk a br (c :: w) r

theorem sil_hd {t : Tk} (h : silT t = true) (a : Bool) : hdT a t = false := by
  obtain ⟨s1, s2, s3, s4, s5, _⟩ := sil_kind h
  unfold hdT
  rw [s4, s5]; simp

theorem hk_filter (a br : Bool) : ∀ (l : List Tk) (w : List (List UInt8)), hk a br w (nsl l) = hk a br w l
  | [], w => rfl
  | t :: r, w => by
    have ih := hk_filter a br r
    unfold nsl at ih ⊢
    rw [List.filter_cons]
    cases hs : silT t with
    | true =>
      obtain ⟨s1, s2, s3, s4, s5, _⟩ := sil_kind hs
      simp only [Bool.not_true, Bool.false_eq_true, if_false]
      cases w with
      | nil => rw [ih, hk, s1, s2, s3, sil_hd hs]; simp
      | cons c w => rw [ih, hk, s1, s2, s3]; simp
    | false =>
      simp only [Bool.not_false, if_true]
      cases w with
      | nil => rw [hk, hk, ih, ih]
      | cons c w => rw [hk, hk, ih, ih, ih]

theorem hk_nrm (a br : Bool) (w : List (List UInt8)) (l : List Tk) : hk a br w (nrm l) = hk a br w l := by
  rw [← hk_filter a br (nrm l), nsl_nrm _ l (Nat.le_refl _), hk_filter]

theorem hk_bad (a br : Bool) : ∀ (l : List Tk) (w : List (List UInt8)), hk a br w l = true → ∀ t ∈ l, badT t = false
  | [], w, _ => by simp
  | t :: r, [], h => by
    intro u hu
    rw [hk, Bool.and_eq_true] at h
    rcases List.mem_cons.1 hu with e | e
    · have := h.1; rw [e]; simp only [Bool.not_eq_true', Bool.or_eq_false_iff] at this; exact this.1
    · have h2 := h.2
      cases ho : opT t with
      | true => rw [ho, cond_true] at h2; exact hk_bad a br r _ h2 u e
      | false => rw [ho, cond_false, Bool.and_eq_true] at h2; exact hk_bad a br r _ h2.2 u e
  | t :: r, c :: w, h => by
    intro u hu
    rw [hk, Bool.and_eq_true] at h
    rcases List.mem_cons.1 hu with e | e
    · have := h.1; rw [e]; simpa using this
    · have h2 := h.2
      cases ho : opT t with
      | true => rw [ho, cond_true] at h2; exact hk_bad a br r _ h2 u e
      | false =>
        rw [ho, cond_false] at h2
        cases hc : (clT t && t.2.1 == c) with
        | true => rw [hc, cond_true] at h2; exact hk_bad a br r _ h2 u e
        | false => rw [hc, cond_false] at h2; exact hk_bad a br r _ h2 u e

/-- In a block the walk goes as the block does. -/
theorem hk_in (a br : Bool) : ∀ (L : List Tk) (w : List (List UInt8)) (c : List UInt8), hk a br (w ++ [c]) L = true →
    (blk (w ++ [c]) L).2 = true ∧ hk a br [] (L.drop (blk (w ++ [c]) L).1) = true
  | [], w, c, h => by cases w <;> simp [hk] at h
  | t :: r, w, c, h => by
    rw [blk]
    obtain ⟨x, y, e⟩ : ∃ x y, w ++ [c] = x :: y := by cases w with
      | nil => exact ⟨c, [], rfl⟩
      | cons p q => exact ⟨p, q ++ [c], rfl⟩
    have h' := h
    rw [e, hk, Bool.and_eq_true] at h'
    have h2 := h'.2
    cases ho : opT t with
    | true =>
      rw [ho, cond_true, ← e] at h2
      simp only [cond_true]
      have ih := hk_in a br r (clo t :: w) c h2
      rw [List.cons_append] at ih
      exact ⟨ih.1, by rw [List.drop_succ_cons]; exact ih.2⟩
    | false =>
      rw [ho, cond_false] at h2
      simp only [cond_false]
      rw [show (w ++ [c]).headD [] = x by rw [e]; rfl]
      cases hc : (clT t && t.2.1 == x) with
      | false =>
        rw [hc, cond_false, ← e] at h2
        simp only [cond_false]
        have ih := hk_in a br r w c h2
        exact ⟨ih.1, by rw [List.drop_succ_cons]; exact ih.2⟩
      | true =>
        rw [hc, cond_true] at h2
        simp only [cond_true]
        cases w with
        | nil =>
          simp only [List.nil_append, List.cons.injEq] at e
          rw [← e.2] at h2
          exact ⟨rfl, h2⟩
        | cons p q =>
          simp only [List.cons_append, List.cons.injEq] at e
          rw [← e.2] at h2
          have ht : (p :: q ++ [c]).tail.isEmpty = false := by cases q <;> rfl
          rw [ht, cond_false]
          have ih := hk_in a br r q c h2
          exact ⟨ih.1, by rw [List.drop_succ_cons]; exact ih.2⟩

theorem hk_walk (a br : Bool) : ∀ (n : Nat) (V : List Tk), V.length < n → hk a br [] V = true → walk (hdT a) n V = true
  | 0, V, h, _ => by omega
  | n + 1, [], _, _ => rfl
  | n + 1, t :: r, h, hh => by
    simp only [List.length_cons] at h
    rw [hk, Bool.and_eq_true] at hh
    have h1 := hh.1
    have h2 := hh.2
    simp only [Bool.not_eq_true', Bool.or_eq_false_iff] at h1
    rw [walk, h1.2]
    cases ho : opT t with
    | true =>
      rw [ho, cond_true] at h2
      have := hk_in a br r [] (clo t) h2
      simp only [List.nil_append] at this
      have hb := blk_len r [clo t]
      simp only [cond_true, Bool.not_false, Bool.true_and]
      rw [this.1, hk_walk a br n _ (by rw [List.length_drop]; omega) this.2]
      rfl
    | false =>
      rw [ho, cond_false, Bool.and_eq_true] at h2
      simp only [cond_false, Bool.not_false, Bool.true_and]
      exact hk_walk a br n r (by omega) h2.2

/-- Where a head ends. -/
theorem hk_fnd {a br : Bool} {V : List Tk} (h : hk a br [] V = true) (Y : List Tk) (m : Nat) (hm : V.length + Y.length < m) : fnd (hdT a) m (V ++ Y) = V.length + fnd (hdT a) m Y :=
  fnd_walk (hdT a) (V.length + 1) V (hk_walk a br _ V (by omega) h) Y m hm

/-- A block around a head goes on behind it. -/
theorem hk_pass (a : Bool) : ∀ (V : List Tk) (u w : List (List UInt8)) (X : List Tk), hk a true u V = true →
    blk (u ++ [125] :: w) (V ++ X) = (V.length + (blk ([125] :: w) X).1, (blk ([125] :: w) X).2)
  | [], [], w, X, _ => by simp
  | [], c :: u, w, X, h => by cases h
  | t :: r, [], w, X, h => by
    rw [hk, Bool.and_eq_true] at h
    have h2 := h.2
    rw [List.nil_append, List.cons_append, blk]
    cases ho : opT t with
    | true =>
      rw [ho, cond_true] at h2
      have ih := hk_pass a r [clo t] w X h2
      rw [List.cons_append, List.nil_append] at ih
      rw [cond_true, ih, List.length_cons]
      simp only [Prod.mk.injEq, and_true]; omega
    | false =>
      rw [ho, cond_false, Bool.and_eq_true] at h2
      have h3 : (clT t && t.2.1 == [125]) = false := by
        cases hq : (clT t && t.2.1 == [125]) with
        | false => rfl
        | true => rw [hq] at h2; simp at h2
      have ih := hk_pass a r [] w X h2.2
      rw [List.nil_append] at ih
      rw [cond_false, List.headD_cons, h3, cond_false, ih, List.length_cons]
      simp only [Prod.mk.injEq, and_true]; omega
  | t :: r, c :: u, w, X, h => by
    rw [hk, Bool.and_eq_true] at h
    have h2 := h.2
    rw [List.cons_append, List.cons_append, blk]
    cases ho : opT t with
    | true =>
      rw [ho, cond_true] at h2
      have ih := hk_pass a r (clo t :: c :: u) w X h2
      rw [List.cons_append, List.cons_append] at ih
      rw [cond_true, ih, List.length_cons]
      simp only [Prod.mk.injEq, and_true]; omega
    | false =>
      rw [ho, cond_false] at h2
      rw [cond_false, List.headD_cons]
      cases hc : (clT t && t.2.1 == c) with
      | true =>
        rw [hc, cond_true] at h2
        have ih := hk_pass a r u w X h2
        have ht : (c :: (u ++ [125] :: w)).tail.isEmpty = false := by cases u <;> rfl
        rw [ht, cond_true, cond_false, List.tail_cons, ih, List.length_cons]
        simp only [Prod.mk.injEq, and_true]; omega
      | false =>
        rw [hc, cond_false] at h2
        have ih := hk_pass a r (c :: u) w X h2
        rw [List.cons_append] at ih
        rw [cond_false, ih, List.length_cons]
        simp only [Prod.mk.injEq, and_true]; omega

/-- A block in another one. -/
theorem blk_two : ∀ (L : List Tk) (u : List (List UInt8)) (c : List UInt8) (w : List (List UInt8)), w ≠ [] → (blk (u ++ [c]) L).2 = true →
    blk (u ++ c :: w) L = ((blk (u ++ [c]) L).1 + (blk w (L.drop (blk (u ++ [c]) L).1)).1, (blk w (L.drop (blk (u ++ [c]) L).1)).2)
  | [], u, c, w, _, h => by simp [blk] at h
  | t :: r, u, c, w, hw, h => by
    rw [blk] at h
    rw [blk, blk]
    have hwe : w.isEmpty = false := by cases w with
      | nil => exact absurd rfl hw
      | cons a b => rfl
    cases ho : opT t with
    | true =>
      rw [ho, cond_true] at h
      simp only [cond_true] at h ⊢
      have ih := blk_two r (clo t :: u) c w hw h
      rw [List.cons_append, List.cons_append] at ih
      rw [ih, List.drop_succ_cons]
      simp only [Prod.mk.injEq, and_true]; omega
    | false =>
      rw [ho, cond_false] at h
      simp only [cond_false]
      cases u with
      | nil =>
        simp only [List.nil_append, List.headD_cons, List.tail_cons, List.isEmpty_nil, cond_true, hwe] at h ⊢
        cases hc : (clT t && t.2.1 == c) with
        | true =>
          simp only [cond_true, cond_false, List.drop_succ_cons, List.drop_zero, Prod.mk.injEq, and_true]; omega
        | false =>
          rw [hc, cond_false] at h
          have ih := blk_two r [] c w hw h
          simp only [List.nil_append] at ih
          simp only [cond_false, List.drop_succ_cons]
          rw [ih]
          simp only [Prod.mk.injEq, and_true]; omega
      | cons p q =>
        have e1 : (q ++ [c]).isEmpty = false := by cases q <;> rfl
        have e2 : (q ++ c :: w).isEmpty = false := by cases q <;> rfl
        simp only [List.cons_append, List.headD_cons, List.tail_cons, e1, e2, cond_false] at h ⊢
        cases hc : (clT t && t.2.1 == p) with
        | true =>
          rw [hc, cond_true] at h
          have ih := blk_two r q c w hw h
          simp only [cond_true, List.drop_succ_cons]
          rw [ih]
          simp only [Prod.mk.injEq, and_true]; omega
        | false =>
          rw [hc, cond_false] at h
          have ih := blk_two r (p :: q) c w hw h
          rw [List.cons_append, List.cons_append] at ih
          simp only [cond_false, List.drop_succ_cons]
          rw [ih]
          simp only [Prod.mk.injEq, and_true]; omega

theorem blk_opens (t : Tk) (r : List Tk) (w : List (List UInt8)) (h : opT t = true) : blk w (t :: r) = ((blk (clo t :: w) r).1 + 1, (blk (clo t :: w) r).2) := by rw [blk, h]; rfl

/-- In a block that is closed within, the walk does so. -/
theorem in_hk (a br : Bool) : ∀ (L : List Tk) (w : List (List UInt8)) (c : List UInt8), (blk (w ++ [c]) L).2 = true → (∀ t ∈ L.take (blk (w ++ [c]) L).1, badT t = false) →
    hk a br (w ++ [c]) L = hk a br [] (L.drop (blk (w ++ [c]) L).1)
  | [], w, c, h, _ => by simp [blk] at h
  | t :: r, w, c, h, hb => by
    rw [blk] at h hb
    rw [blk]
    obtain ⟨x, y, e⟩ : ∃ x y, w ++ [c] = x :: y := by cases w with
      | nil => exact ⟨c, [], rfl⟩
      | cons p q => exact ⟨p, q ++ [c], rfl⟩
    have hx : (w ++ [c]).headD [] = x := by rw [e]; rfl
    rw [hx] at h hb ⊢
    have hk1 : hk a br (w ++ [c]) (t :: r) = (!badT t && bif opT t then hk a br (clo t :: (w ++ [c])) r else bif clT t && t.2.1 == x then hk a br y r else hk a br (w ++ [c]) r) := by rw [e, hk]
    rw [hk1]
    cases ho : opT t with
    | true =>
      rw [ho, cond_true] at h hb
      simp only [cond_true, List.take_succ_cons, List.mem_cons, forall_eq_or_imp] at h hb ⊢
      have ih := in_hk a br r (clo t :: w) c h hb.2
      rw [List.cons_append] at ih
      rw [hb.1, ih, List.drop_succ_cons]
      simp
    | false =>
      rw [ho, cond_false] at h hb
      simp only [cond_false]
      cases hc : (clT t && t.2.1 == x) with
      | false =>
        rw [hc, cond_false] at h hb
        simp only [cond_false, List.take_succ_cons, List.mem_cons, forall_eq_or_imp] at h hb ⊢
        rw [hb.1, in_hk a br r w c h hb.2, List.drop_succ_cons]
        simp
      | true =>
        rw [hc, cond_true] at h hb
        simp only [cond_true]
        cases w with
        | nil =>
          simp only [List.nil_append, List.cons.injEq] at e
          rw [← e.2]
          simp only [List.nil_append, List.tail_cons, List.isEmpty_nil, cond_true, List.take_succ_cons, List.take_zero, List.mem_singleton, forall_eq] at hb ⊢
          rw [hb]
          simp
        | cons p q =>
          simp only [List.cons_append, List.cons.injEq] at e
          rw [← e.2]
          have ht : (p :: q ++ [c]).tail.isEmpty = false := by cases q <;> rfl
          rw [ht, cond_false] at h hb
          rw [ht, cond_false]
          simp only [List.cons_append, List.tail_cons, List.take_succ_cons, List.mem_cons, forall_eq_or_imp] at h hb ⊢
          rw [hb.1, in_hk a br r q c h hb.2, List.drop_succ_cons]
          simp

theorem blk_pre : ∀ (q : List Tk) (u : List (List UInt8)) (Y : List Tk), (blk u (q ++ Y)).2 = true → (blk u (q ++ Y)).1 ≤ q.length → blk u q = blk u (q ++ Y)
  | [], u, Y, h, hl => by have := blk_pos _ _ h; simp only [List.length_nil] at hl; omega
  | t :: r, u, Y, h, hl => by
    rw [List.cons_append, blk] at h hl
    rw [List.cons_append, blk, blk]
    simp only [List.length_cons] at hl
    cases ho : opT t with
    | true =>
      rw [ho, cond_true] at h hl
      simp only [cond_true] at h hl ⊢
      rw [blk_pre r _ Y h (by omega)]
    | false =>
      rw [ho, cond_false] at h hl
      simp only [cond_false]
      cases hc : (clT t && t.2.1 == u.headD []) with
      | false =>
        rw [hc, cond_false] at h hl
        simp only [cond_false] at h hl ⊢
        rw [blk_pre r _ Y h (by omega)]
      | true =>
        rw [hc, cond_true] at h hl
        simp only [cond_true]
        cases hw : u.tail.isEmpty with
        | true => rfl
        | false =>
          rw [hw, cond_false] at h hl
          simp only [cond_false] at h hl ⊢
          rw [blk_pre r _ Y h (by omega)]

/-- A head, from where it ends. -/
theorem hk_of (a br : Bool) : ∀ (n : Nat) (A : List Tk), A.length ≤ n → (∀ t ∈ A, badT t = false) → ∀ (Y : List Tk) (m : Nat), Y ≠ [] → A.length + Y.length < m → fnd (hdT a) m (A ++ Y) = A.length →
    (br = true → (blk [[125]] (A ++ Y)).2 = false) → hk a br [] A = true
  | _, [], _, _, _, _, _, _, _, _ => rfl
  | 0, t :: q, h, _, _, _, _, _, _, _ => by simp at h
  | n + 1, t :: q, h, hb, Y, 0, hy, hm, hf, hbr => by omega
  | n + 1, t :: q, h, hb, Y, m + 1, hy, hm, hf, hbr => by
    simp only [List.mem_cons, forall_eq_or_imp] at hb
    simp only [List.length_cons] at h hm hf
    rw [List.cons_append, fnd] at hf
    cases hp : hdT a t with
    | true => rw [hp] at hf; simp at hf
    | false =>
      rw [hp, cond_false] at hf
      rw [hk, hb.1, hp]
      simp only [Bool.or_false, Bool.not_false, Bool.true_and]
      have hyl : 0 < Y.length := List.length_pos_iff.2 hy
      cases ho : opT t with
      | false =>
        rw [ho, cond_false] at hf
        have h3 : (!(br && (clT t && t.2.1 == [125]))) = true := by
          cases hbb : br with
          | false => rfl
          | true =>
            have := hbr hbb
            rw [List.cons_append, blk, ho, cond_false, List.headD_cons] at this
            cases hc : (clT t && t.2.1 == [125]) with
            | true => rw [hc] at this; simp at this
            | false => rfl
        rw [cond_false, h3, Bool.true_and]
        refine hk_of a br n q (by omega) hb.2 Y m hy (by omega) (by omega) ?_
        intro hbb
        have := hbr hbb
        rw [List.cons_append, blk, ho, cond_false, List.headD_cons] at this
        rw [hbb] at h3
        have hc : (clT t && t.2.1 == [125]) = false := by
          cases hq : (clT t && t.2.1 == [125]) with
          | false => rfl
          | true => rw [hq] at h3; cases h3
        rw [hc, cond_false] at this
        exact this
      | true =>
        rw [ho, cond_true] at hf
        rw [cond_true]
        have hl := blk_len (q ++ Y) [clo t]
        rw [List.length_append] at hl
        have hcl : (blk [clo t] (q ++ Y)).2 = true := by
          cases hc : (blk [clo t] (q ++ Y)).2 with
          | true => rfl
          | false =>
            have := blk_open _ _ hc
            rw [List.length_append] at this
            omega
        have hq : blk [clo t] q = blk [clo t] (q ++ Y) := blk_pre q [clo t] Y hcl (by omega)
        have hbd : ∀ u ∈ q.take (blk ([] ++ [clo t]) q).1, badT u = false := fun u hu => hb.2 u (List.mem_of_mem_take hu)
        have hin := in_hk a br q [] (clo t) (by rw [List.nil_append, hq]; exact hcl) hbd
        rw [List.nil_append] at hin
        rw [hin, hq]
        have hdr : (q ++ Y).drop (blk [clo t] (q ++ Y)).1 = q.drop (blk [clo t] (q ++ Y)).1 ++ Y := List.drop_append_of_le_length (by omega)
        rw [hdr] at hf
        refine hk_of a br n _ (by rw [List.length_drop]; omega) (fun u hu => hb.2 u (List.mem_of_mem_drop hu)) Y m hy (by rw [List.length_drop]; omega) (by rw [List.length_drop]; omega) ?_
        intro hbb
        have := hbr hbb
        rw [List.cons_append, blk_opens _ _ _ ho] at this
        have h2' := blk_two (q ++ Y) [] (clo t) [[125]] (by simp) hcl
        rw [List.nil_append, List.nil_append] at h2'
        rw [h2', hdr] at this
        exact this

end Go.Ev.Tok

-- from EvTkN
set_option linter.unusedVariables false
set_option linter.unusedSimpArgs false
namespace Go.Ev.Tok

/-- A rule that can be told and read again; br: in a block, too. -/
inductive GoodR : Bool → Nat → Rl → Prop
  | plain {br : Bool} {d : Nat} {V : List Tk} {ds : List Dc} : Cut V → nrm V = V → hk false br [] V = true → (∀ t q, V = t :: q → atT t = false) → (∀ x ∈ ds, Good x) → GoodR br d (.mk false (rw V) ds [])
  | media {br : Bool} {d : Nat} {V : List Tk} {rs : List Rl} : Cut V → nrm V = V → hk true br [] V = true → (∀ r ∈ rs, GoodR true d r) → GoodR br (d + 1) (.mk true (rw V) [] rs)

theorem Cut.take {L : List Tk} (h : Cut L) (n : Nat) : Cut (L.take n) := by
  rw [← List.take_append_drop n L] at h; exact h.left

theorem Cut.sol {L : List Tk} (h : Cut L) : Cut (sol L) := by
  obtain ⟨S, E, e, _, _⟩ := sol_split L
  rw [e] at h
  exact h.left.right

theorem decs_good (L : List Tk) (h : Cut L) : ∀ x ∈ decs L, Good x := goods_of _ L h

theorem brc_kind {x : Tk} (h : brcT x = true) : opT x = true ∧ clo x = [125] := by
  unfold brcT rawT at h
  rw [Bool.and_eq_true, beq_iff_eq, beq_iff_eq] at h
  unfold opT clo
  rw [h.1, h.2]
  exact ⟨rfl, rfl⟩

theorem sem_kind {x : Tk} (h : semT x = true) : opT x = false ∧ clT x = false ∧ badT x = false ∧ silT x = false := by
  unfold semT rawT at h
  rw [Bool.and_eq_true, beq_iff_eq, beq_iff_eq] at h
  unfold opT clT badT silT
  rw [h.1]
  exact ⟨rfl, rfl, rfl, rfl⟩

/-- What is in a block does not end it. -/
theorem inn_open (x : Tk) (D : List Tk) : (blk [clo x] (inn x D)).2 = false := by
  unfold inn
  cases hc : (blk [clo x] D).2 with
  | false =>
    rw [cond_false, blk_open _ _ hc, List.take_length]
    exact hc
  | true =>
    rw [cond_true]
    cases h2 : (blk [clo x] (D.take ((blk [clo x] D).1 - 1))).2 with
    | false => rfl
    | true =>
      exfalso
      have h3 := blk_app _ _ (D.drop ((blk [clo x] D).1 - 1)) h2
      rw [List.take_append_drop] at h3
      have h4 := blk_len (D.take ((blk [clo x] D).1 - 1)) [clo x]
      have h5 := blk_pos _ _ hc
      rw [← h3, List.length_take] at h4
      omega

theorem blk_sil (S X : List Tk) (hS : AllS S) (w : List (List UInt8)) : blk w (S ++ X) = (S.length + (blk w X).1, (blk w X).2) := by
  induction S with
  | nil => simp
  | cons t r ih =>
    obtain ⟨s1, s2, s3, s4, s5, _⟩ := sil_kind (hS t (by simp))
    rw [List.cons_append, blk, s1, s3]
    simp only [Bool.false_and, cond_false]
    rw [ih (fun u hu => hS u (List.mem_cons_of_mem _ hu)), List.length_cons]
    simp only [Prod.mk.injEq, and_true]; omega

theorem nrm_first {t : Tk} (q : List Tk) (h : silT t = false) : ∃ q', nrm (t :: q) = t :: q' := by
  rcases parts (t :: q) with e | ⟨S, R, r, h1, h2, h3, h4, h5, h6⟩
  · rw [List.dropWhile_cons, h] at e; simp at e
  · match S with
    | [] =>
      match R with
      | [] => exact absurd rfl h3
      | u :: R' =>
        simp only [List.nil_append, List.cons_append, List.cons.injEq] at h1
        rw [h6, h1.1]
        exact ⟨_, rfl⟩
    | u :: S' =>
      simp only [List.cons_append, List.cons.injEq] at h1
      have := h2 u (by simp)
      rw [← h1.1, h] at this
      exact absurd this (by simp)

theorem sol_first {L : List Tk} {t : Tk} {r : List Tk} (h : sol L = t :: r) : silT t = false := by
  have e := sol_sol L
  rw [h] at e
  cases hs : silT t with
  | false => rfl
  | true =>
    exfalso
    have h2 : sol (t :: r) = sol r := sol_pre [t] r (by intro u hu; rw [List.mem_singleton.1 hu]; exact hs)
    rw [h2] at e
    have := sol_le r
    rw [e, List.length_cons] at this
    omega

theorem at_kind {t : Tk} (h : atT t = true) : opT t = false ∧ clT t = false ∧ badT t = false ∧ silT t = false ∧ brcT t = false ∧ semT t = false := by
  unfold atT at h
  rw [beq_iff_eq] at h
  unfold opT clT badT silT brcT semT rawT
  rw [h]
  exact ⟨rfl, rfl, rfl, rfl, rfl, rfl⟩

def atF : List Tk → Bool
  | [] => false
  | t :: _ => atT t

/-- A rule that is made of a head and what is in its block. -/
theorem rul_good (d : Nat) (br : Bool) (H i : List Tk) (hc : Cut H) (hi : Cut i) (hf : ∀ t q, H = t :: q → silT t = false) (hh : (∀ t ∈ H, badT t = false) → hk (atF H) br [] H = true)
    (hr : ∀ d', d = d' + 1 → ∀ r ∈ rls d' i, GoodR true d' r) (r : Rl) (h : rul (sb d) H i = some r) : GoodR br d r := by
  unfold rul at h
  cases hb : H.any badT with
  | true => rw [hb] at h; cases h
  | false =>
    rw [hb, cond_false] at h
    have hb' : ∀ t ∈ H, badT t = false := by
      intro t ht
      have := List.any_eq_false.1 hb t ht
      simpa using this
    have hw := hh hb'
    match H with
    | [] =>
      simp only [Option.some.injEq] at h
      rw [← h]
      exact .plain (V := []) hc rfl rfl (by simp) (decs_good i hi)
    | t :: q =>
      simp only [atF] at h hw
      cases ha : atT t with
      | false =>
        rw [ha] at h hw
        simp only [Bool.not_false, cond_true, Option.some.injEq] at h
        rw [← h, head_nrm]
        refine .plain (cut_nrm _ _ (Nat.le_refl _) hc hb') (nrm_nrm _ _ (Nat.le_refl _)) (by rw [hk_nrm]; exact hw) ?_ (decs_good i hi)
        intro u q' hu
        obtain ⟨q2, e⟩ := nrm_first q (hf t q rfl)
        rw [e] at hu
        simp only [List.cons.injEq] at hu
        rw [← hu.1]; exact ha
      | true =>
        rw [ha] at h hw
        simp only [Bool.not_true, cond_false] at h
        match d with
        | 0 => cases h
        | d' + 1 =>
          simp only [sb] at h
          cases hm : fldT t medW with
          | false => rw [hm] at h; cases h
          | true =>
            rw [hm, cond_true, Option.some.injEq] at h
            rw [← h, head_nrm]
            have hc2 : Cut q := (show Cut ([t] ++ q) from hc).right
            have hb2 : ∀ u ∈ q, badT u = false := fun u hu => hb' u (List.mem_cons_of_mem _ hu)
            refine .media (cut_nrm _ _ (Nat.le_refl _) hc2 hb2) (nrm_nrm _ _ (Nat.le_refl _)) ?_ (hr d' rfl)
            rw [hk_nrm]
            obtain ⟨a1, a2, a3, a4, a5, a6⟩ := at_kind ha
            rw [hk, a1, a2] at hw
            simp only [cond_false, Bool.false_and, Bool.and_false, Bool.not_false, Bool.true_and, Bool.and_eq_true] at hw
            exact hw.2

theorem fnd_hit (p : Tk → Bool) : ∀ (n : Nat) (L : List Tk), L.length < n → ∀ x D, L.drop (fnd p n L) = x :: D → p x = true
  | 0, L, h, _, _, _ => by omega
  | n + 1, [], h, x, D, hd => by simp [fnd] at hd
  | n + 1, t :: r, h, x, D, hd => by
    simp only [List.length_cons] at h
    rw [fnd] at hd
    cases hp : p t with
    | true =>
      rw [hp, cond_true, List.drop_zero] at hd
      simp only [List.cons.injEq] at hd
      rw [← hd.1]; exact hp
    | false =>
      rw [hp, cond_false] at hd
      cases ho : opT t with
      | true =>
        rw [ho, cond_true, show (blk [clo t] r).1 + 1 + fnd p n (r.drop (blk [clo t] r).1) = ((blk [clo t] r).1 + fnd p n (r.drop (blk [clo t] r).1)) + 1 by omega, List.drop_succ_cons, ← List.drop_drop] at hd
        exact fnd_hit p n _ (by rw [List.length_drop]; omega) x D hd
      | false =>
        rw [ho, cond_false, List.drop_succ_cons] at hd
        exact fnd_hit p n r (by omega) x D hd

/-- What is not ended ahead of a place is not ended from there on. -/
theorem fnd_blk (p : Tk → Bool) (c : List UInt8) : ∀ (n : Nat) (L : List Tk), (blk [c] L).2 = false → (blk [c] (L.drop (fnd p n L))).2 = false
  | 0, L, h => by rw [fnd, List.drop_zero]; exact h
  | n + 1, [], h => h
  | n + 1, t :: r, h => by
    rw [fnd]
    cases hp : p t with
    | true => rw [cond_true, List.drop_zero]; exact h
    | false =>
      rw [cond_false]
      cases ho : opT t with
      | true =>
        rw [blk_opens _ _ _ ho] at h
        simp only at h
        rw [cond_true, show (blk [clo t] r).1 + 1 + fnd p n (r.drop (blk [clo t] r).1) = ((blk [clo t] r).1 + fnd p n (r.drop (blk [clo t] r).1)) + 1 by omega, List.drop_succ_cons, ← List.drop_drop]
        refine fnd_blk p c n _ ?_
        cases hc : (blk [clo t] r).2 with
        | false => rw [blk_open _ _ hc, List.drop_length]; rfl
        | true =>
          have h2 := blk_two r [] (clo t) [c] (by simp) hc
          rw [List.nil_append, List.nil_append] at h2
          rw [h2] at h
          exact h
      | false =>
        rw [blk, ho, cond_false, List.headD_cons] at h
        cases hc : (clT t && t.2.1 == c) with
        | true => rw [hc] at h; simp at h
        | false =>
          rw [hc, cond_false] at h
          rw [cond_false, List.drop_succ_cons]
          exact fnd_blk p c n r h

theorem rls_good : ∀ (d : Nat) (n : Nat) (br : Bool) (L : List Tk), L.length ≤ n → Cut L → (br = true → (blk [[125]] L).2 = false) → ∀ r ∈ rls d L, GoodR br d r
  | d, 0, br, L, h, _, _, r, hr => by
    have : L = [] := List.length_eq_zero_iff.1 (by omega)
    subst this
    rw [rls_nil d (by simp)] at hr
    cases hr
  | d, n + 1, br, L, h, hc, hb, r, hr => by
    match hL : sol L with
    | [] =>
      rw [rls_sb, rlsF, hL] at hr
      cases hr
    | t :: q =>
      rw [rls_next d L t q hL] at hr
      have hs := sol_le L
      have hst := sol_first hL
      have hcs := hc.sol
      have hbs : br = true → (blk [[125]] (sol L)).2 = false := by
        intro hbb
        have h1 := hb hbb
        obtain ⟨S, E, e, hS, hE⟩ := sol_split L
        rw [e, List.append_assoc, blk_sil S _ hS] at h1
        cases h2 : (blk [[125]] (sol L)).2 with
        | false => rfl
        | true => rw [blk_app _ _ E h2, h2] at h1; exact absurd h1 (by simp)
      rw [hL] at hs hcs hbs
      match hd : (t :: q).drop (hdN t q) with
      | [] => rw [hd] at hr; cases hr
      | x :: D =>
        rw [hd] at hr
        simp only at hr
        have hsp : t :: q = (t :: q).take (hdN t q) ++ x :: D := by rw [← hd, List.take_append_drop]
        have hlt : hdN t q < (t :: q).length := by
          have := congrArg List.length hd
          simp only [List.length_drop, List.length_cons] at this
          simp only [List.length_cons]; omega
        have hHl : ((t :: q).take (hdN t q)).length = hdN t q := by rw [List.length_take]; omega
        have hcx : Cut ([x] ++ D) := by rw [hsp] at hcs; exact hcs.right
        have hcD := hcx.right
        have hlD := congrArg List.length hsp
        simp only [List.length_append, List.length_cons] at hlD hs
        have hwalk : (∀ u ∈ (t :: q).take (hdN t q), badT u = false) → hk (atT t) br [] ((t :: q).take (hdN t q)) = true := by
          intro hbad
          refine hk_of (atT t) br _ _ (Nat.le_refl _) hbad (x :: D) (q.length + 2) (by simp) ?_ ?_ ?_
          · simp only [List.length_cons]; omega
          · rw [← hsp, hHl]; rfl
          · rw [← hsp]; exact hbs
        have hx : hdT (atT t) x = true := fnd_hit (hdT (atT t)) (q.length + 2) (t :: q) (by simp) x D hd
        have hbx' : br = true → (blk [[125]] (x :: D)).2 = false := by
          intro hbb
          rw [← hd]
          exact fnd_blk (hdT (atT t)) [125] (q.length + 2) (t :: q) (hbs hbb)
        cases hbx : brcT x with
        | false =>
          rw [hbx, cond_false] at hr
          refine rls_good d n br D (by omega) hcD ?_ r hr
          intro hbb
          have h1 := hbx' hbb
          unfold hdT at hx
          rw [hbx, Bool.false_or, Bool.and_eq_true] at hx
          obtain ⟨k1, k2, k3, k4⟩ := sem_kind hx.2
          rw [blk, k1, k2] at h1
          exact h1
        | true =>
          rw [hbx, cond_true, List.mem_append] at hr
          obtain ⟨o1, o2⟩ := brc_kind hbx
          rcases hr with hr | hr
          · rw [Option.mem_toList] at hr
            have hci : Cut (inn x D) := hcD.take _
            refine rul_good d br _ _ (hcs.take _) hci ?_ ?_ ?_ r hr
            · intro u q' hu
              cases hn : hdN t q with
              | zero => rw [hn, List.take_zero] at hu; cases hu
              | succ i =>
                rw [hn, List.take_succ_cons] at hu
                simp only [List.cons.injEq] at hu
                rw [← hu.1]; exact hst
            · intro hbad
              have := hwalk hbad
              cases hn : hdN t q with
              | zero => rfl
              | succ i =>
                rw [hn, List.take_succ_cons] at this
                rw [List.take_succ_cons]
                exact this
            · intro d' hd' r' hr'
              have hl : (inn x D).length ≤ D.length := by unfold inn; rw [List.length_take]; omega
              refine rls_good d' n true (inn x D) (by omega) hci ?_ r' hr'
              intro _
              have := inn_open x D
              rw [o2] at this
              exact this
          · refine rls_good d n br _ (by rw [List.length_drop]; omega) (hcD.drop _) ?_ r hr
            intro hbb
            have h1 := hbx' hbb
            rw [blk_opens _ _ _ o1] at h1
            simp only at h1
            cases hcl : (blk [clo x] D).2 with
            | false => rw [blk_open _ _ hcl, List.drop_length]; rfl
            | true =>
              have h2 := blk_two D [] (clo x) [[125]] (by simp) hcl
              rw [List.nil_append, List.nil_append] at h2
              rw [h2] at h1
              exact h1

end Go.Ev.Tok

-- from EvTkO
set_option linter.unusedVariables false
set_option linter.unusedSimpArgs false
namespace Go.Ev.Tok

/-- A blank ahead of a text. -/
theorem blank_cut (b : UInt8) (hb : isBlank b = true) (Z : List UInt8) : ∃ S S' R, AllS S ∧ AllS S' ∧ cutP (b :: Z) = S ++ R ∧ cutP Z = S' ++ R := by
  have hc : cnt isBlank (b :: Z) = cnt isBlank Z + 1 := by
    unfold cnt; rw [List.takeWhile_cons, hb]; rfl
  have e : tok1 (b :: Z) = (8, cnt isBlank Z + 1, [], 0) := by unfold tok1; rw [hc]; rfl
  have e1 : cutP (b :: Z) = tokO (b :: Z) (tok1 (b :: Z)) :: cutP (Z.drop (cnt isBlank Z)) := by
    rw [cutP_cons _ (by simp), e]; rfl
  have k1 : silT (tokO (b :: Z) (tok1 (b :: Z))) = true := by rw [e]; rfl
  by_cases h0 : cnt isBlank Z = 0
  · refine ⟨[tokO (b :: Z) (tok1 (b :: Z))], [], cutP Z, ?_, by simp, ?_, rfl⟩
    · intro t ht; rw [List.mem_singleton.1 ht]; exact k1
    · rw [e1, h0]; rfl
  · have hz : Z ≠ [] := by intro hz; rw [hz] at h0; exact h0 rfl
    have f : tok1 Z = (8, cnt isBlank Z, [], 0) := by unfold tok1; rw [if_pos (by omega)]
    have f1 : cutP Z = tokO Z (tok1 Z) :: cutP (Z.drop (cnt isBlank Z)) := by rw [cutP_cons _ hz, f]
    refine ⟨[tokO (b :: Z) (tok1 (b :: Z))], [tokO Z (tok1 Z)], cutP (Z.drop (cnt isBlank Z)), ?_, ?_, ?_, ?_⟩
    · intro t ht; rw [List.mem_singleton.1 ht]; exact k1
    · intro t ht; rw [List.mem_singleton.1 ht, f]; rfl
    · rw [e1]; rfl
    · rw [f1]; rfl

/-- A blank ahead of what begins with no blank. -/
theorem blank_cut0 (b : UInt8) (hb : isBlank b = true) (Z : List UInt8) (h : ∀ t q, cutP Z = t :: q → silT t = false) : ∃ S, AllS S ∧ cutP (b :: Z) = S ++ cutP Z := by
  obtain ⟨S, S', R, h1, h2, h3, h4⟩ := blank_cut b hb Z
  match S' with
  | [] => exact ⟨S, h1, by rw [h3, h4]; rfl⟩
  | t :: q =>
    have := h t (q ++ R) h4
    rw [h2 t (by simp)] at this
    exact absurd this (by simp)

/-- A sign that is a token by itself, of a kind. -/
structure SignK (z : UInt8) (k : Int) : Prop where
  stop : Stop z
  bl : isBlank z = false
  sl : (z == 47) = false
  q1 : (z == 39) = false
  q2 : (z == 34) = false
  ha : (z == 35) = false
  at_ : (z == 64) = false
  pm : (z == 43 || z == 45) = false
  kd : oneK z = k
  kn : oneK z = 12 ∨ oneK z = 10 ∨ oneK z = 11

theorem signK_num {z : UInt8} {k : Int} (h : SignK z k) (Z : List UInt8) : nlen (z :: Z) = 0 := by
  have s0 : sgn (z :: Z) = 0 := by rw [sgn_cons, h.pm]; rfl
  have w0 : whl (z :: Z) = 0 := by
    unfold whl
    rw [s0, List.drop_zero]
    unfold cnt
    rw [List.takeWhile_cons, h.stop.dig]; simp
  have b0 : bhd (z :: Z) = 0 := by
    unfold bhd
    rw [s0, w0, List.drop_zero, frc_cons, h.stop.pt]; rfl
  unfold nlen
  rw [w0, b0]; rfl

theorem signK_bg {z : UInt8} {k : Int} (h : SignK z k) (Z : List UInt8) : bg (z :: Z) = false := by
  have hs : isSt z = false := by
    have := h.stop.sg
    unfold isSg at this
    rw [Bool.or_eq_false_iff, Bool.or_eq_false_iff] at this
    exact this.1.1
  have hm : (z == 45) = false := by
    have := h.pm
    rw [Bool.or_eq_false_iff] at this
    exact this.2
  cases Z with
  | nil => exact hs
  | cons b r =>
    rw [bg, hm, hs]
    simp only [cond_false, Bool.false_or]
    rw [esc, h.stop.bs]; rfl

theorem signK_cut {z : UInt8} {k : Int} (h : SignK z k) (Z : List UInt8) : cutP (z :: Z) = (k, [z], [], 0) :: cutP Z := by
  have hb : cnt isBlank (z :: Z) = 0 := by unfold cnt; rw [List.takeWhile_cons, h.bl]; simp
  have e1 : hd1 (z :: Z) 47 = false := h.sl
  have e2 : hd1 (z :: Z) 39 = false := h.q1
  have e3 : hd1 (z :: Z) 34 = false := h.q2
  have e4 : hd1 (z :: Z) 35 = false := h.ha
  have e5 : hd1 (z :: Z) 64 = false := h.at_
  have e : tok1 (z :: Z) = (k, 1, [], 0) := by
    unfold tok1
    rw [hb, if_neg (by omega), e1, e2, e3, e4, e5, signK_num h, if_neg (by omega), signK_bg h]
    simp only [Bool.false_and, Bool.or_self, cond_false]
    show (oneK z, 1, [], 0) = _
    rw [h.kd]
  rw [cutP_cons _ (by simp), e]
  rfl

theorem sign123 : SignK 123 10 := ⟨⟨rfl, rfl, rfl, rfl, rfl, rfl⟩, rfl, rfl, rfl, rfl, rfl, rfl, rfl, rfl, .inr (.inl rfl)⟩
theorem sign125 : SignK 125 11 := ⟨⟨rfl, rfl, rfl, rfl, rfl, rfl⟩, rfl, rfl, rfl, rfl, rfl, rfl, rfl, rfl, .inr (.inr rfl)⟩

def OPN : Tk := (10, [123], [], 0)
def CLS : Tk := (11, [125], [], 0)

theorem stop32 : Stop 32 := ⟨rfl, rfl, rfl, rfl, rfl, rfl⟩
theorem stop123 : Stop 123 := sign123.stop

/-- A declaration as a rule shows it. -/
def dtx (x : Dc) : List UInt8 := 10 :: (x.1 ++ 58 :: 32 :: (x.2.1 ++ ((bif x.2.2 then 32 :: 33 :: word else []) ++ [59])))
def atM : List UInt8 := [64, 109, 101, 100, 105, 97, 32]

mutual
def Rl.tx : Rl → List UInt8
  | .mk m h ds rs => 10 :: ((bif m then atM else []) ++ (h ++ ((bif h.isEmpty then [] else [32]) ++ 123 :: ((ds.map dtx).flatten ++ (txs rs ++ [10, 125])))))
def txs : List Rl → List UInt8
  | [] => []
  | r :: l => r.tx ++ txs l
end

theorem ok_app : ∀ (V M : List Tk) (u : List (List UInt8)), ok u V = true → ok [] M = true → ok u (V ++ M) = true
  | [], M, u, h, hM => by
    cases u with
    | nil => exact hM
    | cons a b => simp [ok] at h
  | t :: r, M, u, h, hM => by
    rw [ok] at h
    rw [List.cons_append, ok]
    cases h1 : (badT t || brcT t) with
    | true => rw [h1] at h; cases h
    | false =>
      rw [h1, cond_false] at h
      rw [cond_false]
      cases h2 : opT t with
      | true => rw [h2, cond_true] at h; rw [cond_true]; exact ok_app r M _ h hM
      | false =>
        rw [h2, cond_false] at h
        rw [cond_false]
        cases h3 : clT t with
        | true =>
          rw [h3, cond_true, Bool.and_eq_true, Bool.and_eq_true] at h
          rw [cond_true, h.1, h.2.1, ok_app r M _ h.2.2 hM]; rfl
        | false =>
          rw [h3, cond_false] at h
          rw [cond_false]
          cases h4 : (u.isEmpty && semT t) with
          | true => rw [h4] at h; cases h
          | false => rw [h4, cond_false] at h; rw [cond_false]; exact ok_app r M _ h hM

theorem ok_sil (S M : List Tk) (u : List (List UInt8)) (h : AllS S) : ok u (S ++ M) = ok u M := by
  rw [← ok_filter (S ++ M), ← ok_filter M]
  have := nsl_app S M
  unfold nsl at this
  rw [this]
  have h2 := nsl_sil S h
  unfold nsl at h2
  rw [h2]; rfl

theorem first_of {V : List Tk} (hn : nrm V = V) : ∀ t q, V = t :: q → silT t = false := by
  intro t q h
  exact nrm_hd V t q (by rw [hn, h])

theorem sol_of {V : List Tk} (hn : nrm V = V) : sol V = V := by
  have := sol_nrm V
  rw [hn] at this; exact this

theorem ok_sem {P : List Tk} (h : ok [] P = true) (Y : List Tk) (m : Nat) (hm : P.length + Y.length + 1 < m) : fnd semT m (P ++ SEM :: Y) = P.length := by
  rw [((of_ok _ P (Nat.le_refl _)).2 h).2 m (SEM :: Y) (by simp only [List.length_cons]; omega)]
  match m with
  | 0 => omega
  | m + 1 => rw [fnd]; rfl

/-- The declaration read again, ahead of its semicolon. -/
theorem dtx_cut (x : Dc) (h : Good x) (X : List UInt8) : ∃ P, cutP (dtx x ++ X) = P ++ SEM :: cutP X ∧ ok [] P = true ∧ dcl P = some x := by
  obtain ⟨h1, h2, V, h3, h4, h5, h6, h7, h8⟩ := h
  obtain ⟨nm, vl, ip⟩ := x
  simp only at h1 h2 h5 h7 h8
  have hsem : ∀ Z, cutP (59 :: Z) = SEM :: cutP Z := sign_cut sign59
  have hcol : ∀ Z, cutP (58 :: Z) = COL :: cutP Z := sign_cut sign58
  have hmrk : ∀ Z, cutP (33 :: Z) = MRK :: cutP Z := sign_cut sign33
  -- what is behind the colon
  have hW : ∃ W, cutP (32 :: (vl ++ ((bif ip then 32 :: 33 :: word else []) ++ 59 :: X))) = W ++ SEM :: cutP X ∧ ok [] W = true ∧ imp W = (V, ip) := by
    rw [h5]
    cases ip with
    | false =>
      simp only [cond_false, List.nil_append]
      have hc := val_cut h3 h4 h6 sign59.stop X
      rw [hsem] at hc
      obtain ⟨S, s1, s2⟩ := blank_cut0 32 rfl (rw V ++ 59 :: X) (by
        intro t q e
        rw [hc] at e
        match hV : V with
        | [] => simp only [List.nil_append, List.cons.injEq] at e; rw [← e.1]; rfl
        | v :: V' => simp only [List.cons_append, List.cons.injEq] at e; rw [← e.1]; exact first_of h4 v V' rfl)
      refine ⟨S ++ V, by rw [s2, hc]; simp, by rw [ok_sil S V [] s1]; exact h6, ?_⟩
      have e : sol (S ++ V) = sol V := sol_pre S V s1
      rw [imp_congr e]
      obtain ⟨i1, i2⟩ := imp_cases V
      have i3 : (imp V).2 = false := by rw [i1]; exact h8 rfl
      rcases i2 with ⟨_, j⟩ | ⟨j, _⟩
      · rw [sol_of h4] at j
        exact Prod.ext j i3
      · rw [j] at i3; cases i3
    | true =>
      simp only [cond_true]
      have hw : ∀ Z, cutP (33 :: word ++ 59 :: Z) = MRK :: IMP :: SEM :: cutP Z := by
        intro Z
        obtain ⟨n, hn⟩ := name_cut word_plain sign59.stop Z
        have hn0 : n = 0 := by
          have hp : cutP word = [((1 : Int), word, word, 0)] := by kernel_rfl
          obtain ⟨m, hm⟩ := plain_cut word_plain
          have := cut_apart' sign59.stop Z _ word (Nat.le_refl _) (by
            rintro ⟨u, hu, hk⟩
            rw [hp] at hu
            simp only [List.getLast?_singleton, Option.some.injEq] at hu
            rw [← hu] at hk
            simp at hk)
          rw [hp, hn] at this
          simp only [List.cons_append, List.nil_append, List.cons.injEq, Prod.mk.injEq, and_true, true_and] at this
          exact this
        rw [List.cons_append, hmrk, hn, hn0, hsem]
        rfl
      have hsil : ok [] [MRK, IMP] = true := by kernel_rfl
      have himp : ∀ B, imp (B ++ MRK :: ([] ++ IMP :: [])) = (sol B, true) := fun B => imp_mark B [] [] MRK IMP rfl (by simp) rfl (by kernel_rfl) (by simp)
      by_cases hv : V = []
      · subst hv
        rw [rw_nil, List.nil_append, List.cons_append]
        obtain ⟨S, s1, s2⟩ := blank_cut0 32 rfl (33 :: word ++ 59 :: X) (by
          intro t q e
          rw [hw] at e
          simp only [List.cons.injEq] at e; rw [← e.1]; rfl)
        obtain ⟨S1, S2, R, t1, t2, t3, t4⟩ := blank_cut 32 rfl (32 :: (33 :: word ++ 59 :: X))
        rw [s2, hw] at t4
        have hR : ∃ S3, AllS S3 ∧ R = S3 ++ MRK :: IMP :: SEM :: cutP X := by
          have : ∀ (S S2 R : List Tk), AllS S → AllS S2 → S ++ MRK :: IMP :: SEM :: cutP X = S2 ++ R → ∃ S3, AllS S3 ∧ R = S3 ++ MRK :: IMP :: SEM :: cutP X := by
            intro S
            induction S with
            | nil =>
              intro S2 R _ a2 e
              match S2 with
              | [] => exact ⟨[], by simp, by simpa using e.symm⟩
              | u :: S2' =>
                simp only [List.nil_append, List.cons_append, List.cons.injEq] at e
                have := a2 u (by simp)
                rw [← e.1] at this
                exact absurd this (by decide)
            | cons s S ih =>
              intro S2 R a1 a2 e
              match S2 with
              | [] => exact ⟨s :: S, a1, by simpa using e.symm⟩
              | u :: S2' =>
                simp only [List.cons_append, List.cons.injEq] at e
                exact ih S2' R (fun t ht => a1 t (List.mem_cons_of_mem _ ht)) (fun t ht => a2 t (List.mem_cons_of_mem _ ht)) e.2
          exact this S S2 R s1 t2 t4
        obtain ⟨S3, r1, r2⟩ := hR
        refine ⟨(S1 ++ S3) ++ MRK :: ([] ++ IMP :: []), by rw [t3, r2]; simp, by rw [ok_sil _ _ _ (AllS.app t1 r1)]; exact hsil, ?_⟩
        rw [himp, sol_all _ (AllS.app t1 r1)]
      · have hc := val_cut h3 h4 h6 stop32 (33 :: word ++ 59 :: X)
        obtain ⟨S, s1, s2⟩ := blank_cut0 32 rfl (33 :: word ++ 59 :: X) (by
          intro t q e
          rw [hw] at e
          simp only [List.cons.injEq] at e; rw [← e.1]; rfl)
        rw [s2, hw] at hc
        obtain ⟨S1, t1, t2⟩ := blank_cut0 32 rfl (rw V ++ 32 :: (33 :: word ++ 59 :: X)) (by
          intro t q e
          rw [hc] at e
          match hV : V with
          | [] => exact absurd rfl hv
          | v :: V' => simp only [List.cons_append, List.cons.injEq] at e; rw [← e.1]; exact first_of h4 v V' rfl)
        refine ⟨(S1 ++ V ++ S) ++ MRK :: ([] ++ IMP :: []), ?_, ?_, ?_⟩
        · have e : 32 :: (rw V ++ (32 :: 33 :: word ++ 59 :: X)) = 32 :: (rw V ++ 32 :: (33 :: word ++ 59 :: X)) := by simp
          rw [e, t2, hc]; simp
        · rw [List.append_assoc, List.append_assoc, ok_sil S1 _ _ t1]
          exact ok_app V _ [] h6 (by rw [ok_sil S _ _ s1]; exact hsil)
        · rw [himp, sol_app _ S s1, sol_pre S1 V t1, sol_of h4]
  obtain ⟨W, w1, w2, w3⟩ := hW
  obtain ⟨n, hn⟩ := name_cut h1 sign58.stop (32 :: (vl ++ ((bif ip then 32 :: 33 :: word else []) ++ 59 :: X)))
  rw [hcol, w1] at hn
  obtain ⟨S, s1, s2⟩ := blank_cut0 10 rfl (nm ++ 58 :: 32 :: (vl ++ ((bif ip then 32 :: 33 :: word else []) ++ 59 :: X))) (by
    intro t q e
    rw [hn] at e
    simp only [List.cons.injEq] at e; rw [← e.1]; rfl)
  rw [hn] at s2
  refine ⟨S ++ ((1 : Int), nm, nm, n) :: ([] ++ COL :: W), ?_, ?_, ?_⟩
  · have e : dtx (nm, vl, ip) ++ X = 10 :: (nm ++ 58 :: 32 :: (vl ++ ((bif ip then 32 :: 33 :: word else []) ++ 59 :: X))) := by simp [dtx]
    rw [e, s2]; simp
  · rw [ok_sil S _ _ s1, ok, List.nil_append, ok]
    exact w2
  · rw [dcl_form S [] W _ COL s1 (by simp) rfl rfl, w3]
    simp only
    rw [h2, h1, ((of_ok _ V (Nat.le_refl _)).2 h6).1, head_nrm, h4, ← h5]
    have e : (ownP nm || !vl.isEmpty) = true := by
      rcases h7 with e | e
      · rw [e]; rfl
      · have hv : vl.isEmpty = false := by
          rw [h5]
          cases hV : V with
          | nil => exact absurd hV e
          | cons v V' =>
            rw [hV] at h3
            have := h3.ne (t := v) (by simp)
            rw [rw_cons]
            cases hv : v.2.1 with
            | nil => exact absurd hv this
            | cons a b => rfl
        rw [hv]; simp
    rw [e]
    rfl

/-- Declarations read again. -/
theorem dtxs_cut : ∀ (ds : List Dc), (∀ x ∈ ds, Good x) → ∀ X : List UInt8, ∃ I, cutP ((ds.map dtx).flatten ++ X) = I ++ cutP X ∧ (∀ Y, decs (I ++ Y) = ds ++ decs Y) ∧
    (∀ w Z, w ≠ [] → blk w (I ++ Z) = (I.length + (blk w Z).1, (blk w Z).2))
  | [], _, X => ⟨[], by simp, by simp, by simp⟩
  | x :: ds, h, X => by
    obtain ⟨I, i1, i2, i3⟩ := dtxs_cut ds (fun y hy => h y (List.mem_cons_of_mem _ hy)) X
    obtain ⟨P, p1, p2, p3⟩ := dtx_cut x (h x (by simp)) ((ds.map dtx).flatten ++ X)
    refine ⟨P ++ SEM :: I, ?_, ?_, ?_⟩
    · rw [List.map_cons, List.flatten_cons, List.append_assoc, p1, i1]; simp
    · intro Y
      rw [List.append_assoc, List.cons_append, decs_piece P (I ++ Y) (fun m hm => ok_sem p2 _ m hm), p3, i2]
      rfl
    · intro w Z hw
      have hf := ((of_ok _ P (Nat.le_refl _)).2 p2).1
      rw [List.append_assoc, blk_fair _ P (Nat.le_refl _) hf w _ hw, List.cons_append, blk]
      have e : opT SEM = false ∧ clT SEM = false := ⟨rfl, rfl⟩
      rw [e.1, e.2]
      simp only [Bool.false_and, cond_false]
      rw [i3 w Z hw]
      simp only [List.length_append, List.length_cons, Prod.mk.injEq, and_true]
      omega

end Go.Ev.Tok

-- from EvTkY
set_option linter.unusedVariables false
set_option linter.unusedSimpArgs false
namespace Go.Ev.Tok

/-- A blank ahead of a text changes nothing of its rules. -/
theorem rls_blank (d : Nat) (b : UInt8) (hb : isBlank b = true) (Z : List UInt8) : rls d (cutP (b :: Z)) = rls d (cutP Z) := by
  obtain ⟨S, S', R, h1, h2, h3, h4⟩ := blank_cut b hb Z
  rw [h3, h4]
  exact rls_sol d (by rw [sol_pre S R h1, sol_pre S' R h2])

theorem brcO : brcT OPN = true := rfl

/-- A rule with its block, wherever it stands. -/
theorem step_blk (d : Nat) (S H I Y : List Tk) (hS : AllS S) (hf : ∀ t q, H = t :: q → silT t = false)
    (hh : ∀ t q, H = t :: q → ∀ (m : Nat) (Z : List Tk), H.length + Z.length + 1 < m → fnd (hdT (atT t)) m (H ++ OPN :: Z) = H.length)
    (hI : ∀ Z, blk [[125]] (I ++ CLS :: Z) = (I.length + 1, true)) : rls d (S ++ (H ++ OPN :: (I ++ CLS :: Y))) = (rul (sb d) H I).toList ++ rls d Y := by
  have hs : sol (S ++ (H ++ OPN :: (I ++ CLS :: Y))) = H ++ OPN :: (I ++ CLS :: trimE Y) := by
    rw [sol_pre S _ hS, sol_mid H _ OPN rfl, trimE_mid I Y CLS rfl]
    congr 1
    match H, hf with
    | [], _ => rfl
    | t :: q, hf => rw [List.dropWhile_cons, hf t q rfl]; simp
  have hin : inn OPN (I ++ CLS :: trimE Y) = I := by
    unfold inn
    rw [show clo OPN = [125] from rfl, hI]
    simp
  have hdr : (I ++ CLS :: trimE Y).drop (blk [clo OPN] (I ++ CLS :: trimE Y)).1 = trimE Y := by
    rw [show clo OPN = [125] from rfl, hI, show I ++ CLS :: trimE Y = (I ++ [CLS]) ++ trimE Y by simp, List.drop_left' (by simp)]
  have hfin : ∀ t q, H ++ OPN :: (I ++ CLS :: trimE Y) = t :: q → hdN t q = H.length → rls d (S ++ (H ++ OPN :: (I ++ CLS :: Y))) = (rul (sb d) H I).toList ++ rls d Y := by
    intro t q e hn
    rw [rls_next d _ t q (by rw [hs, e]), hn, ← e, List.drop_left' rfl]
    simp only
    rw [brcO, cond_true, List.take_left' rfl, hin, hdr, rls_sol d (sol_trimE Y)]
  match H, hf, hh, hfin with
  | [], _, _, hfin => exact hfin OPN (I ++ CLS :: trimE Y) rfl rfl
  | t :: q, _, hh, hfin =>
    refine hfin t (q ++ OPN :: (I ++ CLS :: trimE Y)) rfl ?_
    have := hh t q rfl ((q ++ OPN :: (I ++ CLS :: trimE Y)).length + 2) (I ++ CLS :: trimE Y) (by simp only [List.length_append, List.length_cons]; omega)
    exact this

/-- What a semicolon ends. -/
theorem step_sem (d : Nat) (S H Y : List Tk) (t : Tk) (q : List Tk) (hS : AllS S) (e : H = t :: q) (ha : atT t = true)
    (hh : ∀ (m : Nat) (Z : List Tk), H.length + Z.length + 1 < m → fnd (hdT true) m (H ++ SEM :: Z) = H.length) : rls d (S ++ (H ++ SEM :: Y)) = rls d Y := by
  have hs : sol (S ++ (H ++ SEM :: Y)) = H ++ SEM :: trimE Y := by
    rw [sol_pre S _ hS, sol_mid H _ SEM rfl, e, List.dropWhile_cons, (at_kind ha).2.2.2.1]
    simp
  have hn : hdN t (q ++ SEM :: trimE Y) = H.length := by
    unfold hdN
    rw [ha]
    have := hh ((q ++ SEM :: trimE Y).length + 2) (trimE Y) (by rw [e]; simp only [List.length_append, List.length_cons]; omega)
    rw [e] at this ⊢
    exact this
  rw [rls_next d _ t (q ++ SEM :: trimE Y) (by rw [hs, e]; rfl), hn]
  have e2 : t :: (q ++ SEM :: trimE Y) = H ++ SEM :: trimE Y := by rw [e]; rfl
  rw [e2, List.drop_left' rfl]
  simp only
  rw [show brcT SEM = false from rfl, cond_false, rls_sol d (sol_trimE Y)]

theorem hdP_end (s : Tk) (hs : silT s = true) : ∀ (V : List Tk) (a g : Bool), hdP a g (V ++ [s]) = hdP a g V
  | [], a, g => by show (bif silT s then hdP a a [] else _) = _; rw [hs]; rfl
  | t :: r, a, g => by rw [List.cons_append, hdP, hdP, hdP_end s hs r, hdP_end s hs r]

/-- A text without a bad end, and what ends it. -/
theorem hd_cut {V : List Tk} (hc : Cut V) (hn : nrm V = V) (hb : ∀ t ∈ V, badT t = false) {z : UInt8} (hz : Stop z) (Z : List UInt8) : cutP (rw V ++ z :: Z) = V ++ cutP (z :: Z) := by
  have hc' : cutP (rw V) = V := hc
  have hu : ¬ Unfin z (rw V) := by
    rintro ⟨u, hu, hk⟩
    rw [hc'] at hu
    have hm := List.mem_of_getLast? hu
    have q1 := hb u hm
    rw [← hn] at hu
    have q2 := (nrm_last _ V (Nat.le_refl _) u hu).1
    unfold silT at q2
    unfold badT at q1
    rcases hk with e | e | e
    · rw [e] at q1; simp at q1
    · rw [e.1] at q2; simp at q2
    · rw [e] at q2; simp at q2
  rw [cut_apart' hz Z _ _ (Nat.le_refl _) hu, hc']

theorem opn_cut (Z : List UInt8) : cutP (123 :: Z) = OPN :: cutP Z := signK_cut sign123 Z
theorem cls_cut (Z : List UInt8) : cutP (125 :: Z) = CLS :: cutP Z := signK_cut sign125 Z

theorem rw_ne {V : List Tk} (hc : Cut V) (h : V ≠ []) : (rw V).isEmpty = false := by
  match V with
  | [] => exact absurd rfl h
  | v :: V' =>
    have := hc.ne (t := v) (by simp)
    rw [rw_cons]
    cases hv : v.2.1 with
    | nil => exact absurd hv this
    | cons a b => rfl

/-- A head, and the block's beginning. -/
theorem head_cut {a br : Bool} {V : List Tk} (hc : Cut V) (hn : nrm V = V) (hh : hk a br [] V = true) (Z : List UInt8) : ∃ H, cutP (rw V ++ ((bif (rw V).isEmpty then [] else [32]) ++ 123 :: Z)) = H ++ OPN :: cutP Z ∧
    hk a br [] H = true ∧ hdP false false H = rw V ∧ (∀ t q, H = t :: q → ∃ q', V = t :: q') ∧ (H = [] → V = []) := by
  match hV : V with
  | [] => exact ⟨[], by rw [rw_nil]; exact opn_cut Z, hh, by simp [hdP, rw_nil], by simp, by simp⟩
  | v :: V' =>
    have hb := hk_bad a br _ _ hh
    refine ⟨(v :: V') ++ [SP], ?_, ?_, ?_, ?_, by simp⟩
    · rw [rw_ne hc (by simp), cond_false, List.cons_append, List.nil_append, hd_cut hc hn hb stop32, cut_blank _ (by unfold cnt; rw [List.takeWhile_cons]; rfl), opn_cut]
      simp [SP]
    · rw [← hk_filter, nsl_app, show nsl [SP] = [] from rfl, List.append_nil, hk_filter]
      exact hh
    · rw [hdP_end SP rfl, head_nrm, hn]
    · intro t q e
      simp only [List.cons_append, List.cons.injEq] at e
      exact ⟨V', by rw [e.1]⟩

def Told (br : Bool) (d : Nat) (l : List Rl) (s : List UInt8) : Prop := ∀ X : List UInt8, ∃ P, cutP (s ++ X) = P ++ cutP X ∧ (∀ Y, rls d (P ++ Y) = l ++ rls d Y) ∧
    (br = true → ∀ w Z, blk ([125] :: w) (P ++ Z) = (P.length + (blk ([125] :: w) Z).1, (blk ([125] :: w) Z).2))

theorem told_txs (br : Bool) (d : Nat) : ∀ (l : List Rl), (∀ r ∈ l, Told br d [r] r.tx) → Told br d l (txs l)
  | [], _, X => ⟨[], by simp [txs], by simp, by simp⟩
  | r :: l, h, X => by
    obtain ⟨I, i1, i2, i3⟩ := told_txs br d l (fun r hr => h r (List.mem_cons_of_mem _ hr)) X
    obtain ⟨P, p1, p2, p3⟩ := h r (by simp) (txs l ++ X)
    refine ⟨P ++ I, ?_, ?_, ?_⟩
    · rw [txs, List.append_assoc, p1, i1, List.append_assoc]
    · intro Y; rw [List.append_assoc, p2, i2]; rfl
    · intro hb w Z
      rw [List.append_assoc, p3 hb, i3 hb, List.length_append]
      simp only [Prod.mk.injEq, and_true]; omega

def NL : Tk := (8, [10], [], 0)

theorem nl_cls (X : List UInt8) : cutP ([10, 125] ++ X) = NL :: CLS :: cutP X := by
  obtain ⟨S, h1, h2⟩ := blank_cut0 10 rfl (125 :: X) (by intro t q e; rw [cls_cut] at e; simp only [List.cons.injEq] at e; rw [← e.1]; rfl)
  have hc : cnt isBlank (10 :: 125 :: X) = 1 := by unfold cnt; rw [List.takeWhile_cons, List.takeWhile_cons]; rfl
  have e : tok1 (10 :: 125 :: X) = (8, 1, [], 0) := by unfold tok1; rw [hc]; rfl
  show cutP (10 :: 125 :: X) = _
  rw [cutP_cons _ (by simp), e, ← cls_cut]
  rfl

theorem passI {br : Bool} {S H I : List Tk} {a : Bool} (hS : AllS S) (hh : hk a br [] H = true) (hI : ∀ w Z, blk ([125] :: w) (I ++ Z) = (I.length + (blk ([125] :: w) Z).1, (blk ([125] :: w) Z).2)) :
    br = true → ∀ w Z, blk ([125] :: w) ((S ++ (H ++ OPN :: (I ++ [CLS]))) ++ Z) = ((S ++ (H ++ OPN :: (I ++ [CLS]))).length + (blk ([125] :: w) Z).1, (blk ([125] :: w) Z).2) := by
  intro hb w Z
  subst hb
  have h1 := hk_pass a H [] w (OPN :: (I ++ CLS :: Z)) hh
  rw [List.nil_append] at h1
  have e : (S ++ (H ++ OPN :: (I ++ [CLS]))) ++ Z = S ++ (H ++ OPN :: (I ++ CLS :: Z)) := by simp
  have h2 : blk ([125] :: [125] :: w) (CLS :: Z) = ((blk ([125] :: w) Z).1 + 1, (blk ([125] :: w) Z).2) := by rw [blk]; rfl
  rw [e, blk_sil S _ hS, h1, blk_opens OPN _ _ rfl, show clo OPN = [125] from rfl, hI, h2]
  simp only [List.length_append, List.length_cons, List.length_nil, Prod.mk.injEq, and_true]
  omega

theorem sil_firstNL (Z : List UInt8) (h : ∀ t q, cutP Z = t :: q → silT t = false) : ∃ S, AllS S ∧ cutP (10 :: Z) = S ++ cutP Z := blank_cut0 10 rfl Z h

/-- A rule told and read again. -/
theorem told_good {br : Bool} {d : Nat} {r : Rl} (h : GoodR br d r) : Told br d [r] r.tx := by
  induction h with
  | @plain br d V ds hc hn hh ha hg =>
    intro X
    obtain ⟨I, i1, i2, i3⟩ := dtxs_cut ds hg ([10, 125] ++ X)
    obtain ⟨H, h1, h2, h3, h4, h5⟩ := head_cut hc hn hh ((ds.map dtx).flatten ++ ([10, 125] ++ X))
    rw [i1, nl_cls] at h1
    have hfirst : ∀ t q, H = t :: q → silT t = false := by
      intro t q e
      obtain ⟨q', e'⟩ := h4 t q e
      exact first_of hn t q' e'
    have hat : ∀ t q, H = t :: q → atT t = false := by
      intro t q e
      obtain ⟨q', e'⟩ := h4 t q e
      exact ha t q' e'
    obtain ⟨S, s1, s2⟩ := sil_firstNL _ (by
      intro t q e
      rw [h1] at e
      match H, hfirst with
      | [], _ => simp only [List.nil_append, List.cons.injEq] at e; rw [← e.1]; rfl
      | u :: H', hfirst => simp only [List.cons_append, List.cons.injEq] at e; rw [← e.1]; exact hfirst u H' rfl)
    rw [h1] at s2
    have hI : ∀ w Z, blk ([125] :: w) ((I ++ [NL]) ++ Z) = ((I ++ [NL]).length + (blk ([125] :: w) Z).1, (blk ([125] :: w) Z).2) := by
      intro w Z
      rw [List.append_assoc, i3 _ _ (by simp), List.cons_append, List.nil_append]
      have : blk ([125] :: w) (NL :: Z) = ((blk ([125] :: w) Z).1 + 1, (blk ([125] :: w) Z).2) := by rw [blk]; rfl
      rw [this, List.length_append]
      simp only [List.length_cons, List.length_nil, Prod.mk.injEq, and_true]; omega
    refine ⟨S ++ (H ++ OPN :: ((I ++ [NL]) ++ [CLS])), ?_, ?_, passI s1 h2 hI⟩
    · have e : (Rl.mk false (rw V) ds []).tx ++ X = 10 :: (rw V ++ ((bif (rw V).isEmpty then [] else [32]) ++ 123 :: ((ds.map dtx).flatten ++ ([10, 125] ++ X)))) := by
        simp [Rl.tx, txs]
      rw [e, s2]; simp
    · intro Y
      have e : (S ++ (H ++ OPN :: ((I ++ [NL]) ++ [CLS]))) ++ Y = S ++ (H ++ OPN :: ((I ++ [NL]) ++ CLS :: Y)) := by simp
      rw [e, step_blk d S H (I ++ [NL]) Y s1 hfirst ?_ ?_]
      · have hr : rul (sb d) H (I ++ [NL]) = some (.mk false (rw V) ds []) := by
          unfold rul
          have hb : H.any badT = false := List.any_eq_false.2 (fun t ht => by rw [hk_bad _ _ _ _ h2 t ht]; simp)
          have hdn : decs [NL] = [] := by kernel_rfl
          have hde : decs (I ++ [NL]) = ds := by rw [i2, hdn, List.append_nil]
          rw [hb, cond_false]
          match H, hat, h3, h5 with
          | [], _, h3, h5 =>
            have hV := h5 rfl
            simp only [hde, hV, rw_nil]
          | t :: q, hat, h3, _ =>
            simp only [hde, hat t q rfl, h3, Bool.not_false, cond_true]
        rw [hr]; rfl
      · intro t q e m Z hm
        rw [hat t q e, hk_fnd h2 (OPN :: Z) m (by simp only [List.length_cons]; omega)]
        match m with
        | 0 => omega
        | m + 1 => rw [fnd]; rfl
      · intro Z
        rw [hI, show blk [[125]] (CLS :: Z) = (1, true) by rw [blk]; rfl]
  | @media br d V rs hc hn hh hg ih =>
    intro X
    obtain ⟨I, i1, i2, i3⟩ := told_txs true d rs ih ([10, 125] ++ X)
    obtain ⟨H, h1, h2, h3, h4, h5⟩ := head_cut hc hn hh (txs rs ++ ([10, 125] ++ X))
    rw [i1, nl_cls] at h1
    have hatc : ∀ Z, cutP ([64, 109, 101, 100, 105, 97] ++ 32 :: Z) = ((3 : Int), [64, 109, 101, 100, 105, 97], medW, (0 : Int)) :: cutP (32 :: Z) := by
      intro Z
      have hp : cutP [64, 109, 101, 100, 105, 97] = [((3 : Int), [64, 109, 101, 100, 105, 97], medW, (0 : Int))] := by kernel_rfl
      rw [cut_apart' stop32 Z _ [64, 109, 101, 100, 105, 97] (Nat.le_refl _) (by
        rintro ⟨u, hu, hk⟩
        rw [hp] at hu
        simp only [List.getLast?_singleton, Option.some.injEq] at hu
        rw [← hu] at hk
        simp at hk), hp]
      rfl
    obtain ⟨S2, t1, t2⟩ := blank_cut0 32 rfl _ (by
      intro t q e
      rw [h1] at e
      match H, h4 with
      | [], _ => simp only [List.nil_append, List.cons.injEq] at e; rw [← e.1]; rfl
      | u :: H', h4 =>
        simp only [List.cons_append, List.cons.injEq] at e
        obtain ⟨q', e'⟩ := h4 u H' rfl
        rw [← e.1]; exact first_of hn u q' e')
    rw [h1] at t2
    have hcut := hatc (rw V ++ ((bif (rw V).isEmpty then [] else [32]) ++ 123 :: (txs rs ++ ([10, 125] ++ X))))
    rw [t2] at hcut
    obtain ⟨S, s1, s2⟩ := sil_firstNL _ (by
      intro t q e
      rw [hcut] at e
      simp only [List.cons.injEq] at e; rw [← e.1]; rfl)
    rw [hcut] at s2
    have hAT : hk true br [] (((3 : Int), [64, 109, 101, 100, 105, 97], medW, (0 : Int)) :: (S2 ++ H)) = true := by
      have e1 : hk true br [] (S2 ++ H) = true := by
        rw [← hk_filter, nsl_app, nsl_sil S2 t1, List.nil_append, hk_filter]; exact h2
      rw [hk]
      rw [e1]
      cases br <;> rfl
    have hI : ∀ w Z, blk ([125] :: w) ((I ++ [NL]) ++ Z) = ((I ++ [NL]).length + (blk ([125] :: w) Z).1, (blk ([125] :: w) Z).2) := by
      intro w Z
      rw [List.append_assoc, i3 rfl, List.cons_append, List.nil_append]
      have : blk ([125] :: w) (NL :: Z) = ((blk ([125] :: w) Z).1 + 1, (blk ([125] :: w) Z).2) := by rw [blk]; rfl
      rw [this, List.length_append]
      simp only [List.length_cons, List.length_nil, Prod.mk.injEq, and_true]; omega
    refine ⟨S ++ ((((3 : Int), [64, 109, 101, 100, 105, 97], medW, (0 : Int)) :: (S2 ++ H)) ++ OPN :: ((I ++ [NL]) ++ [CLS])), ?_, ?_, passI s1 hAT hI⟩
    · have e : (Rl.mk true (rw V) [] rs).tx ++ X = 10 :: ([64, 109, 101, 100, 105, 97] ++ 32 :: (rw V ++ ((bif (rw V).isEmpty then [] else [32]) ++ 123 :: (txs rs ++ ([10, 125] ++ X))))) := by
        simp [Rl.tx, atM]
      rw [e, s2]; simp
    · intro Y
      have e : (S ++ ((((3 : Int), [64, 109, 101, 100, 105, 97], medW, (0 : Int)) :: (S2 ++ H)) ++ OPN :: ((I ++ [NL]) ++ [CLS]))) ++ Y = S ++ ((((3 : Int), [64, 109, 101, 100, 105, 97], medW, (0 : Int)) :: (S2 ++ H)) ++ OPN :: ((I ++ [NL]) ++ CLS :: Y)) := by simp
      rw [e, step_blk (d + 1) S _ (I ++ [NL]) Y s1 ?_ ?_ ?_]
      · have hr : rul (sb (d + 1)) (((3 : Int), [64, 109, 101, 100, 105, 97], medW, (0 : Int)) :: (S2 ++ H)) (I ++ [NL]) = some (.mk true (rw V) [] rs) := by
          unfold rul
          have hb : (((3 : Int), [64, 109, 101, 100, 105, 97], medW, (0 : Int)) :: (S2 ++ H)).any badT = false := List.any_eq_false.2 (fun t ht => by rw [hk_bad _ _ _ _ hAT t ht]; simp)
          have hdn : rls d [NL] = [] := rls_nil d (by intro t ht; rw [List.mem_singleton.1 ht]; rfl)
          rw [hb, cond_false]
          show (some (Rl.mk true (hdP false false (S2 ++ H)) [] (rls d (I ++ [NL])))) = _
          rw [i2, hdn, List.append_nil, hdP_sil S2 t1, h3]
        rw [hr]; rfl
      · intro t q e2
        simp only [List.cons.injEq] at e2
        rw [← e2.1]; rfl
      · intro t q e2 m Z hm
        have ht : atT t = true := by
          simp only [List.cons.injEq] at e2
          rw [← e2.1]; rfl
        rw [ht, hk_fnd hAT (OPN :: Z) m (by simp only [List.length_cons] at hm ⊢; omega)]
        match m with
        | 0 => omega
        | m + 1 => rw [fnd]; rfl
      · intro Z
        rw [hI, show blk [[125]] (CLS :: Z) = (1, true) by rw [blk]; rfl]

/-- A declaration as Go shows it. -/
def dsh (x : Dc) : List UInt8 := x.1 ++ 58 :: 32 :: (x.2.1 ++ ((bif x.2.2 then 32 :: 33 :: word else []) ++ [59, 10]))

mutual
def Rl.sh : Rl → List UInt8
  | .mk m h ds rs => (bif m then atM else []) ++ (h ++ ((bif h.isEmpty then [] else [32]) ++ 123 :: 10 :: ((ds.map dsh).flatten ++ (shw rs ++ [125, 10]))))
def shw : List Rl → List UInt8
  | [] => []
  | r :: l => r.sh ++ shw l
end

theorem dsh_tx : ∀ (ds : List Dc), 10 :: (ds.map dsh).flatten = (ds.map dtx).flatten ++ [10]
  | [] => rfl
  | x :: ds => by
    rw [List.map_cons, List.map_cons, List.flatten_cons, List.flatten_cons, List.append_assoc, ← dsh_tx ds]
    simp [dsh, dtx]

mutual
theorem sh_tx : ∀ (r : Rl), 10 :: r.sh = r.tx ++ [10]
  | .mk m h ds rs => by
    have h1 := dsh_tx ds
    have h2 := shw_tx rs
    have e : 10 :: ((ds.map dsh).flatten ++ (shw rs ++ [125, 10])) = (ds.map dtx).flatten ++ (txs rs ++ [10, 125] ++ [10]) := by
      have : 10 :: ((ds.map dsh).flatten ++ (shw rs ++ [125, 10])) = (10 :: (ds.map dsh).flatten) ++ (shw rs ++ [125, 10]) := rfl
      rw [this, h1]
      have : (ds.map dtx).flatten ++ [10] ++ (shw rs ++ [125, 10]) = (ds.map dtx).flatten ++ ((10 :: shw rs) ++ [125, 10]) := by simp
      rw [this, h2]; simp
    rw [Rl.sh, Rl.tx, e]; simp
theorem shw_tx : ∀ (l : List Rl), 10 :: shw l = txs l ++ [10]
  | [] => rfl
  | r :: l => by
    have h1 := sh_tx r
    have h2 := shw_tx l
    rw [shw, txs]
    have : 10 :: (r.sh ++ shw l) = (10 :: r.sh) ++ shw l := rfl
    rw [this, h1, List.append_assoc, List.append_assoc, ← h2]; rfl
end

/-- Rules as they are shown, and what is behind them. -/
theorem shown_cut (d : Nat) (l : List Rl) (h : ∀ r ∈ l, GoodR false d r) (u : List UInt8) : rls d (cutP (shw l ++ u)) = l ++ rls d (cutP u) := by
  rw [← rls_blank d 10 rfl]
  have e : 10 :: (shw l ++ u) = txs l ++ 10 :: u := by
    have := shw_tx l
    have e2 : 10 :: (shw l ++ u) = (10 :: shw l) ++ u := rfl
    rw [e2, this]; simp
  obtain ⟨I, i1, i2, _⟩ := told_txs false d l (fun r hr => told_good (h r hr)) (10 :: u)
  rw [e, i1, i2, rls_blank d 10 rfl]

end Go.Ev.Tok

-- from EvTkZ
set_option linter.unusedVariables false
set_option linter.unusedSimpArgs false
namespace Go.Ev.Tok

/-- What is left out between rules. -/
def badR : List (List UInt8) := [([64, 120, 32, 39, 121, 39, 59] : List UInt8), ([64, 120, 32, 123, 32, 97, 32, 123, 32, 98, 58, 32, 99, 32, 125, 32, 125] : List UInt8), ([47, 42, 32, 123, 32, 42, 47] : List UInt8), ([64, 120, 32, 40, 59, 41, 32, 91, 123, 125, 93, 32, 123, 32, 93, 32, 125] : List UInt8), ([10, 12, 32] : List UInt8), ([64, 120, 59, 64, 121, 59] : List UInt8), ([39, 10, 123, 32, 97, 58, 32, 98, 32, 125] : List UInt8), ([64, 109, 101, 100, 105, 97, 32, 39, 10, 32, 123, 32, 97, 32, 123, 32, 98, 58, 32, 99, 32, 125, 32, 125] : List UInt8)]

theorem cut_end {s : List UInt8} {P : List Tk} (hc : cutP s = P) (hl : (match P.getLast? with | some t => t.1 != 6 && t.1 != 9 | none => true) = true) {z : UInt8} {k : Int} (hz : SignK z k) (u : List UInt8) : cutP (s ++ z :: u) = P ++ (k, [z], [], 0) :: cutP u := by
  have ho : ¬ Unfin z s := by
    rintro ⟨t, ht, hk⟩
    rw [hc] at ht
    obtain ⟨h1, h2⟩ := lastP hl t ht
    rcases hk with e | e | e
    · exact h1 e
    · rw [hz.bl] at e; exact absurd e.2 (by simp)
    · exact h2 e
  rw [cut_apart' hz.stop u _ s (Nat.le_refl _) ho, hc, signK_cut hz]

theorem sign59k : SignK 59 12 := ⟨⟨rfl, rfl, rfl, rfl, rfl, rfl⟩, rfl, rfl, rfl, rfl, rfl, rfl, rfl, rfl, .inl rfl⟩

theorem cut_sem {s : List UInt8} {P : List Tk} (hc : cutP s = P) (hl : (match P.getLast? with | some t => t.1 != 6 && t.1 != 9 | none => true) = true) (u : List UInt8) : cutP (s ++ 59 :: u) = P ++ SEM :: cutP u := cut_end hc hl sign59k u
theorem cut_cls {s : List UInt8} {P : List Tk} (hc : cutP s = P) (hl : (match P.getLast? with | some t => t.1 != 6 && t.1 != 9 | none => true) = true) (u : List UInt8) : cutP (s ++ 125 :: u) = P ++ CLS :: cutP u := cut_end hc hl sign125 u
theorem cut_opn {s : List UInt8} {P : List Tk} (hc : cutP s = P) (hl : (match P.getLast? with | some t => t.1 != 6 && t.1 != 9 | none => true) = true) (u : List UInt8) : cutP (s ++ 123 :: u) = P ++ OPN :: cutP u := cut_end hc hl sign123 u

/-- A piece with a block that is no rule. -/
theorem left_out (d : Nat) (H I Y : List Tk) (hf : ∀ t q, H = t :: q → silT t = false) (t : Tk) (q : List Tk) (e : H = t :: q) (hw : walk (hdT (atT t)) (H.length + 1) H = true)
    (hI : ∀ Z, blk [[125]] (I ++ CLS :: Z) = (I.length + 1, true)) (hr : rul (sb d) H I = none) : rls d (H ++ OPN :: (I ++ CLS :: Y)) = rls d Y := by
  have := step_blk d [] H I Y (by simp) hf (by
    intro t' q' e' m Z hm
    have : t' = t := by rw [e] at e'; simp only [List.cons.injEq] at e'; exact e'.1.symm
    rw [this, fnd_walk _ _ H hw (OPN :: Z) m (by simp only [List.length_cons]; omega)]
    match m with
    | 0 => omega
    | m + 1 => rw [fnd]; rfl) hI
  rw [List.nil_append] at this
  rw [this, hr]; rfl

theorem left_sem (d : Nat) (H Y : List Tk) (t : Tk) (q : List Tk) (e : H = t :: q) (ha : atT t = true) (hw : walk (hdT true) (H.length + 1) H = true) : rls d (H ++ SEM :: Y) = rls d Y := by
  have := step_sem d [] H Y t q (by simp) e ha (by
    intro m Z hm
    rw [fnd_walk _ _ H hw (SEM :: Z) m (by simp only [List.length_cons]; omega)]
    match m with
    | 0 => omega
    | m + 1 => rw [fnd]; rfl)
  rw [List.nil_append] at this
  exact this

theorem out_cls (d : Nat) (s : List UInt8) (H I : List Tk) (t : Tk) (q : List Tk) (e : H = t :: q) (hc : cutP s = H ++ OPN :: I) (hl : (match (H ++ OPN :: I).getLast? with | some t => t.1 != 6 && t.1 != 9 | none => true) = true)
    (hf : silT t = false) (hw : walk (hdT (atT t)) (H.length + 1) H = true) (hI : ∀ Z, blk [[125]] (I ++ CLS :: Z) = (I.length + 1, true)) (hr : rul (sb d) H I = none) (u : List UInt8) :
    rls d (cutP (s ++ 125 :: u)) = rls d (cutP u) := by
  rw [cut_cls hc hl u, List.append_assoc, List.cons_append]
  exact left_out d H I (cutP u) (by intro t' q' e'; rw [e] at e'; simp only [List.cons.injEq] at e'; rw [← e'.1]; exact hf) t q e hw hI hr

theorem out_sem (d : Nat) (s : List UInt8) (H : List Tk) (t : Tk) (q : List Tk) (e : H = t :: q) (hc : cutP s = H) (hl : (match H.getLast? with | some t => t.1 != 6 && t.1 != 9 | none => true) = true)
    (ha : atT t = true) (hw : walk (hdT true) (H.length + 1) H = true) (u : List UInt8) : rls d (cutP (s ++ 59 :: u)) = rls d (cutP u) := by
  rw [cut_sem hc hl u]
  exact left_sem d H (cutP u) t q e ha hw

theorem badR_note (d : Nat) (u : List UInt8) : rls d (cutP ([47, 42, 32, 123, 32, 42, 47] ++ u)) = rls d (cutP u) := by
  have hi : Go.Lib.index [32, 123, 32, 42, 47] [42, 47] = 3 := by kernel_rfl
  have hi2 : Go.Lib.index ([32, 123, 32, 42, 47] ++ u) [42, 47] = 3 := by rw [idx_app u _ (by rw [hi]; decide), hi]
  have ht : tok1 ([47, 42, 32, 123, 32, 42, 47] ++ u) = (9, 7, [], 0) := by
    unfold tok1
    have hb : cnt isBlank ([47, 42, 32, 123, 32, 42, 47] ++ u) = 0 := by unfold cnt; rw [List.cons_append, List.takeWhile_cons]; rfl
    rw [hb, if_neg (by omega)]
    show (bif (true && true) then ((9 : Int), noteN _, ([] : List UInt8), (0 : Int)) else _) = _
    simp only [Bool.and_self, cond_true]
    have hn : noteN ([47, 42, 32, 123, 32, 42, 47] ++ u) = 7 := by
      unfold noteN
      have e : ([47, 42, 32, 123, 32, 42, 47] ++ u : List UInt8).drop 2 = [32, 123, 32, 42, 47] ++ u := rfl
      rw [e, hi2]; rfl
    rw [hn]
  have hc : cutP ([47, 42, 32, 123, 32, 42, 47] ++ u) = [(9, [47, 42, 32, 123, 32, 42, 47], [], 0)] ++ cutP u := by
    rw [cutP_cons _ (by simp), ht]
    have : ([47, 42, 32, 123, 32, 42, 47] ++ u : List UInt8).drop 7 = u := rfl
    rw [this]
    rfl
  rw [hc]
  exact rls_sol d (sol_pre _ _ (by intro t ht; rw [List.mem_singleton.1 ht]; rfl))

theorem badR_out (u : List UInt8) : ∀ i < 8, rls 3 (cutP (badR.getD i [] ++ u)) = rls 3 (cutP u) := by
  intro i hi
  match i with
  | 0 =>
    have e : badR.getD 0 [] ++ u = [64, 120, 32, 39, 121, 39] ++ 59 :: u := rfl
    rw [e]
    exact out_sem 3 [64, 120, 32, 39, 121, 39] [((3 : Int), ([64, 120] : List UInt8), ([120] : List UInt8), (0 : Int)), SP, ((5 : Int), ([39, 121, 39] : List UInt8), ([121] : List UInt8), (0 : Int))] _ _ rfl (by kernel_rfl) (by kernel_rfl) (by kernel_rfl) (by kernel_rfl) u
  | 1 =>
    have e : badR.getD 1 [] ++ u = [64, 120, 32, 123, 32, 97, 32, 123, 32, 98, 58, 32, 99, 32, 125, 32] ++ 125 :: u := rfl
    rw [e]
    exact out_cls 3 [64, 120, 32, 123, 32, 97, 32, 123, 32, 98, 58, 32, 99, 32, 125, 32] [((3 : Int), ([64, 120] : List UInt8), ([120] : List UInt8), (0 : Int)), SP] [SP, ((1 : Int), ([97] : List UInt8), ([97] : List UInt8), (0 : Int)), SP, OPN, SP, ((1 : Int), ([98] : List UInt8), ([98] : List UInt8), (0 : Int)), COL, SP, ((1 : Int), ([99] : List UInt8), ([99] : List UInt8), (0 : Int)), SP, CLS, SP] ((3 : Int), ([64, 120] : List UInt8), ([120] : List UInt8), (0 : Int)) [SP] rfl (by kernel_rfl) (by kernel_rfl) (by kernel_rfl) (by kernel_rfl) (fun Z => rfl) (by kernel_rfl) u
  | 2 => exact badR_note 3 u
  | 3 =>
    have e : badR.getD 3 [] ++ u = [64, 120, 32, 40, 59, 41, 32, 91, 123, 125, 93, 32, 123, 32, 93, 32] ++ 125 :: u := rfl
    rw [e]
    exact out_cls 3 [64, 120, 32, 40, 59, 41, 32, 91, 123, 125, 93, 32, 123, 32, 93, 32] (((3 : Int), ([64, 120] : List UInt8), ([120] : List UInt8), (0 : Int)) :: [SP, ((10 : Int), ([40] : List UInt8), ([] : List UInt8), (0 : Int)), SEM, ((11 : Int), ([41] : List UInt8), ([] : List UInt8), (0 : Int)), SP, ((10 : Int), ([91] : List UInt8), ([] : List UInt8), (0 : Int)), OPN, CLS, ((11 : Int), ([93] : List UInt8), ([] : List UInt8), (0 : Int)), SP]) [SP, ((11 : Int), ([93] : List UInt8), ([] : List UInt8), (0 : Int)), SP] ((3 : Int), ([64, 120] : List UInt8), ([120] : List UInt8), (0 : Int)) [SP, ((10 : Int), ([40] : List UInt8), ([] : List UInt8), (0 : Int)), SEM, ((11 : Int), ([41] : List UInt8), ([] : List UInt8), (0 : Int)), SP, ((10 : Int), ([91] : List UInt8), ([] : List UInt8), (0 : Int)), OPN, CLS, ((11 : Int), ([93] : List UInt8), ([] : List UInt8), (0 : Int)), SP] rfl (by kernel_rfl) (by kernel_rfl) (by kernel_rfl) (by kernel_rfl) (fun Z => rfl) (by kernel_rfl) u
  | 4 =>
    have e : badR.getD 4 [] ++ u = 10 :: 12 :: 32 :: u := rfl
    rw [e, rls_blank 3 10 rfl, rls_blank 3 12 rfl, rls_blank 3 32 rfl]
  | 5 =>
    have e : badR.getD 5 [] ++ u = [64, 120] ++ 59 :: ([64, 121] ++ 59 :: u) := rfl
    rw [e, out_sem 3 [64, 120] [((3 : Int), ([64, 120] : List UInt8), ([120] : List UInt8), (0 : Int))] _ _ rfl (by kernel_rfl) (by kernel_rfl) (by kernel_rfl) (by kernel_rfl)]
    exact out_sem 3 [64, 121] [((3 : Int), ([64, 121] : List UInt8), ([121] : List UInt8), (0 : Int))] _ _ rfl (by kernel_rfl) (by kernel_rfl) (by kernel_rfl) (by kernel_rfl) u
  | 6 =>
    have e : badR.getD 6 [] ++ u = [39, 10, 123, 32, 97, 58, 32, 98, 32] ++ 125 :: u := rfl
    rw [e]
    exact out_cls 3 [39, 10, 123, 32, 97, 58, 32, 98, 32] [((6 : Int), ([39] : List UInt8), ([] : List UInt8), (0 : Int)), ((8 : Int), ([10] : List UInt8), ([] : List UInt8), (0 : Int))] [SP, ((1 : Int), ([97] : List UInt8), ([97] : List UInt8), (0 : Int)), COL, SP, ((1 : Int), ([98] : List UInt8), ([98] : List UInt8), (0 : Int)), SP] ((6 : Int), ([39] : List UInt8), ([] : List UInt8), (0 : Int)) [((8 : Int), ([10] : List UInt8), ([] : List UInt8), (0 : Int))] rfl (by kernel_rfl) (by kernel_rfl) (by kernel_rfl) (by kernel_rfl) (fun Z => rfl) (by kernel_rfl) u
  | 7 =>
    have e : badR.getD 7 [] ++ u = [64, 109, 101, 100, 105, 97, 32, 39, 10, 32, 123, 32, 97, 32, 123, 32, 98, 58, 32, 99, 32, 125, 32] ++ 125 :: u := rfl
    rw [e]
    exact out_cls 3 [64, 109, 101, 100, 105, 97, 32, 39, 10, 32, 123, 32, 97, 32, 123, 32, 98, 58, 32, 99, 32, 125, 32] [((3 : Int), ([64, 109, 101, 100, 105, 97] : List UInt8), medW, (0 : Int)), SP, ((6 : Int), ([39] : List UInt8), ([] : List UInt8), (0 : Int)), ((8 : Int), ([10, 32] : List UInt8), ([] : List UInt8), (0 : Int))] [SP, ((1 : Int), ([97] : List UInt8), ([97] : List UInt8), (0 : Int)), SP, OPN, SP, ((1 : Int), ([98] : List UInt8), ([98] : List UInt8), (0 : Int)), COL, SP, ((1 : Int), ([99] : List UInt8), ([99] : List UInt8), (0 : Int)), SP, CLS, SP] ((3 : Int), ([64, 109, 101, 100, 105, 97] : List UInt8), medW, (0 : Int)) [SP, ((6 : Int), ([39] : List UInt8), ([] : List UInt8), (0 : Int)), ((8 : Int), ([10, 32] : List UInt8), ([] : List UInt8), (0 : Int))] rfl (by kernel_rfl) (by kernel_rfl) (by kernel_rfl) (by kernel_rfl) (fun Z => rfl) (by kernel_rfl) u
  | i + 8 => omega

/-- A short rule. -/
def rl0 : Rl := .mk false [97] [] []

theorem large_one (X : List UInt8) : rls 3 (cutP ([97, 123, 125] ++ X)) = rl0 :: rls 3 (cutP X) := by
  have h1 := cut_end (s := [97]) (P := [(1, [97], [97], 0)]) (by kernel_rfl) (by kernel_rfl) sign123 (125 :: X)
  show rls 3 (cutP ([97] ++ 123 :: 125 :: X)) = _
  rw [h1, cls_cut]
  have := step_blk 3 [] [(1, [97], [97], 0)] [] (cutP X) (by simp) (by intro t q e; simp only [List.cons.injEq] at e; rw [← e.1]; rfl) (by
    intro t q e m Z hm
    simp only [List.cons.injEq] at e
    rw [← e.1, show atT ((1 : Int), ([97] : List UInt8), ([97] : List UInt8), (0 : Int)) = false from rfl, fnd_walk (hdT false) 2 [((1 : Int), ([97] : List UInt8), ([97] : List UInt8), (0 : Int))] (by kernel_rfl) (OPN :: Z) m (by simp only [List.length_cons, List.length_nil] at hm ⊢; omega)]
    match m with
    | 0 => omega
    | m + 1 => rw [fnd]; rfl) (fun Z => rfl)
  rw [List.nil_append, List.nil_append] at this
  refine this.trans ?_
  have hr : rul (sb 3) [(1, [97], [97], 0)] [] = some rl0 := by kernel_rfl
  rw [hr]; rfl

theorem large_many (X : List UInt8) : ∀ n : Nat, rls 3 (cutP ((List.replicate n ([97, 123, 125] : List UInt8)).flatten ++ X)) = List.replicate n rl0 ++ rls 3 (cutP X)
  | 0 => rfl
  | n + 1 => by
    rw [List.replicate_succ, List.flatten_cons, List.append_assoc, large_one, large_many X n, List.replicate_succ]; rfl

theorem large_blanks : ∀ b : Nat, rls 3 (cutP (List.replicate b (32 : UInt8))) = []
  | 0 => by rw [List.replicate_zero, cutP_nil]; exact rls_nil 3 (by simp)
  | b + 1 => by rw [List.replicate_succ, rls_blank 3 32 rfl, large_blanks b]

/-! Under a query. -/

mutual
/-- How many queries lie in one another. -/
def depR : Rl → Nat
  | .mk m _ _ rs => bif m then 1 + deps rs else 0
def deps : List Rl → Nat
  | [] => 0
  | r :: l => max (depR r) (deps l)
end

theorem dep_mem : ∀ (l : List Rl) (r : Rl), r ∈ l → depR r ≤ deps l
  | [], r, h => by cases h
  | a :: l, r, h => by
    rw [deps]
    rcases List.mem_cons.1 h with e | e
    · rw [e]; omega
    · have := dep_mem l r e; omega

theorem good_dep {br : Bool} {d : Nat} {r : Rl} (h : GoodR br d r) : ∀ e : Nat, depR r ≤ e → GoodR br e r := by
  induction h with
  | plain h1 h2 h3 h4 h5 => intro e _; exact .plain h1 h2 h3 h4 h5
  | @media br d V rs h1 h2 h3 h4 ih =>
    intro e he
    rw [depR, cond_true] at he
    match e with
    | 0 => omega
    | e + 1 =>
      refine .media h1 h2 h3 (fun r hr => ih r hr e ?_)
      have := dep_mem rs r hr
      omega

theorem hk_up (a : Bool) : ∀ (V : List Tk) (u : List (List UInt8)), (∀ t ∈ V, t.2.1 ≠ [125]) → hk a false u V = true → hk a true u V = true
  | [], [], _, _ => rfl
  | [], c :: u, _, h => by cases h
  | t :: r, [], hv, h => by
    rw [hk, Bool.and_eq_true] at h
    have h2 := h.2
    rw [hk, h.1, Bool.true_and]
    cases ho : opT t with
    | true => rw [ho, cond_true] at h2; exact hk_up a r _ (fun x hx => hv x (List.mem_cons_of_mem _ hx)) h2
    | false =>
      rw [ho, cond_false, Bool.and_eq_true] at h2
      have : (t.2.1 == [125]) = false := beq_eq_false_iff_ne.2 (hv t (by simp))
      rw [cond_false, this, hk_up a r _ (fun x hx => hv x (List.mem_cons_of_mem _ hx)) h2.2]
      simp
  | t :: r, c :: u, hv, h => by
    rw [hk, Bool.and_eq_true] at h
    have h2 := h.2
    rw [hk, h.1, Bool.true_and]
    have ih := fun w => hk_up a r w (fun x hx => hv x (List.mem_cons_of_mem _ hx))
    cases ho : opT t with
    | true => rw [ho, cond_true] at h2; exact ih _ h2
    | false =>
      rw [ho, cond_false] at h2
      rw [cond_false]
      cases hc : (clT t && t.2.1 == c) with
      | true => rw [hc, cond_true] at h2; exact ih _ h2
      | false => rw [hc, cond_false] at h2; exact ih _ h2

def clsR : Rl → Bool
  | .mk _ h _ _ => h.contains 125

theorem good_up {d : Nat} {r : Rl} (h : GoodR false d r) (hc : clsR r = false) : GoodR true d r := by
  have key : ∀ V : List Tk, (rw V).contains 125 = false → ∀ t ∈ V, t.2.1 ≠ [125] := by
    intro V hV t ht e
    have hm : (125 : UInt8) ∈ rw V := List.mem_flatten.2 ⟨t.2.1, List.mem_map_of_mem (f := fun t : Tk => t.2.1) ht, by rw [e]; simp⟩
    have : (rw V).contains 125 = true := List.contains_iff_mem.2 hm
    rw [this] at hV; cases hV
  cases h with
  | plain h1 h2 h3 h4 h5 => exact .plain h1 h2 (hk_up _ _ _ (key _ hc) h3) h4 h5
  | media h1 h2 h3 h4 => exact .media h1 h2 (hk_up _ _ _ (key _ hc) h3) h4

def qrys : List (List UInt8) := [([97, 108, 108] : List UInt8), ([112, 114, 105, 110, 116] : List UInt8), ([40, 109, 105, 110, 45, 119, 105, 100, 116, 104, 58, 32, 49, 112, 120, 41] : List UInt8), ([110, 111, 116, 32, 97, 108, 108] : List UInt8), ([] : List UInt8), ([120, 32, 121] : List UInt8)]
def mqry : List UInt8 := [64, 77, 69, 68, 73, 65, 32]

/-- Rules as they are shown, in a block. -/
theorem within (l : List Rl) (h : ∀ r ∈ l, GoodR true 2 r) (q : List UInt8) (t : Tk) (H : List Tk) (hc : cutP (mqry ++ q) = t :: H) (hl : (match (t :: H).getLast? with | some t => t.1 != 6 && t.1 != 9 | none => true) = true)
    (ha : atT t = true) (hm : fldT t medW = true) (hw : walk (hdT true) ((t :: H).length + 1) (t :: H) = true) (hb : (t :: H).any badT = false) (hq : hdP false false H = q) :
    rls 3 (cutP (mqry ++ q ++ 123 :: (shw l ++ [125]))) = [.mk true q [] l] := by
  rw [cut_end hc hl sign123]
  obtain ⟨I, i1, i2, i3⟩ := told_txs true 2 l (fun r hr => told_good (h r hr)) [10, 125]
  have hn : cutP ([10, 125] : List UInt8) = [NL, CLS] := by have := nl_cls []; rw [List.append_nil, cutP_nil] at this; exact this
  rw [hn] at i1
  obtain ⟨S, S', R, s1, s2, s3, s4⟩ := blank_cut 10 rfl (shw l ++ [125])
  have e : 10 :: (shw l ++ [125]) = txs l ++ [10, 125] := by
    have e1 : 10 :: (shw l ++ [125]) = (10 :: shw l) ++ [125] := rfl
    rw [e1, shw_tx]; simp
  rw [e, i1] at s3
  -- R ends with the block's end
  have hR : ∃ J, R = J ++ [CLS] ∧ S ++ J = I ++ [NL] := by
    rcases List.eq_nil_or_concat R with hr | ⟨J, z, hr⟩
    · exfalso
      rw [hr, List.append_nil] at s3
      have : CLS ∈ S := by rw [← s3]; simp
      exact absurd (s1 _ this) (by decide)
    · refine ⟨J, ?_⟩
      rw [List.concat_eq_append] at hr
      have e2 : (I ++ [NL]) ++ [CLS] = (S ++ J) ++ [z] := by rw [List.append_assoc S J, ← hr, ← s3]; simp
      have e3 := List.append_inj' e2 rfl
      rw [hr, (List.cons.inj e3.2).1]
      exact ⟨rfl, e3.1.symm⟩
  obtain ⟨J, j1, j2⟩ := hR
  rw [s4, j1]
  have hrJ : rls 2 (S' ++ J) = l := by
    rw [rls_sol 2 (A := S' ++ J) (B := S ++ J) (by rw [sol_pre S' J s2, sol_pre S J s1]), j2, i2, rls_nil 2 (by intro t ht; rw [List.mem_singleton.1 ht]; rfl), List.append_nil]
  have hI : ∀ Z, blk [[125]] ((S' ++ J) ++ CLS :: Z) = ((S' ++ J).length + 1, true) := by
    intro Z
    have h1 : blk [[125]] ((S ++ J) ++ CLS :: Z) = ((S ++ J).length + 1, true) := by
      rw [j2, List.append_assoc, i3 rfl]
      have : blk [[125]] ([NL] ++ CLS :: Z) = (2, true) := rfl
      rw [this]
      simp
    rw [List.append_assoc, blk_sil S _ s1] at h1
    simp only [List.length_append, Prod.mk.injEq] at h1
    rw [List.append_assoc, blk_sil S' _ s2, h1.2, List.length_append]
    simp only [Prod.mk.injEq, and_true]
    omega
  have := step_blk 3 [] (t :: H) (S' ++ J) [] (by simp) (by intro u q' e'; simp only [List.cons.injEq] at e'; rw [← e'.1]; exact (at_kind ha).2.2.2.1) (by
    intro u q' e' m Z hm'
    have hu : atT u = true := by simp only [List.cons.injEq] at e'; rw [← e'.1]; exact ha
    rw [hu, fnd_walk _ _ (t :: H) hw (OPN :: Z) m (by simp only [List.length_cons] at hm' ⊢; omega)]
    match m with
    | 0 => omega
    | m + 1 => rw [fnd]; rfl) hI
  rw [List.nil_append] at this
  have e4 : (t :: H) ++ (10, [123], [], 0) :: (S' ++ (J ++ [CLS])) = (t :: H) ++ OPN :: ((S' ++ J) ++ CLS :: []) := by simp [OPN]
  rw [e4, this, rls_nil 3 (by simp), List.append_nil]
  have hr : rul (sb 3) (t :: H) (S' ++ J) = some (.mk true q [] l) := by
    unfold rul
    rw [hb, cond_false]
    simp only [ha, Bool.not_true, cond_false, sb, hm, cond_true, hq, hrJ]
  rw [hr]; rfl

theorem within_all (l : List Rl) (h : ∀ r ∈ l, GoodR true 2 r) : ∀ i < 6, rls 3 (cutP (mqry ++ qrys.getD i [] ++ 123 :: (shw l ++ [125]))) = [.mk true (qrys.getD i []) [] l] := by
  intro i hi
  match i with
  | 0 => exact within l h _ _ _ rfl (by kernel_rfl) (by kernel_rfl) (by kernel_rfl) (by kernel_rfl) (by kernel_rfl) (by kernel_rfl)
  | 1 => exact within l h _ _ _ rfl (by kernel_rfl) (by kernel_rfl) (by kernel_rfl) (by kernel_rfl) (by kernel_rfl) (by kernel_rfl)
  | 2 => exact within l h _ _ _ rfl (by kernel_rfl) (by kernel_rfl) (by kernel_rfl) (by kernel_rfl) (by kernel_rfl) (by kernel_rfl)
  | 3 => exact within l h _ _ _ rfl (by kernel_rfl) (by kernel_rfl) (by kernel_rfl) (by kernel_rfl) (by kernel_rfl) (by kernel_rfl)
  | 4 => exact within l h _ _ _ rfl (by kernel_rfl) (by kernel_rfl) (by kernel_rfl) (by kernel_rfl) (by kernel_rfl) (by kernel_rfl)
  | 5 => exact within l h _ _ _ rfl (by kernel_rfl) (by kernel_rfl) (by kernel_rfl) (by kernel_rfl) (by kernel_rfl) (by kernel_rfl)
  | i + 6 => omega

end Go.Ev.Tok
