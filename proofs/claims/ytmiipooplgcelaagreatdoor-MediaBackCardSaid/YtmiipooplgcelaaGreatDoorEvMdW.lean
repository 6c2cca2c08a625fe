/- EvMdA, EvMdB, EvMdC, EvMdD in one: no condition beyond those that each theorem names. -/
import Derived.Test.YtmiipooplgcelaaGreatDoorEvMdU
import Derived.Test.YtmiipooplgcelaaGreatDoorEvTkF
-- from EvMdA
set_option linter.unusedVariables false
set_option linter.unusedSimpArgs false
namespace Go.Ev.Md
open Go Go.Ev.Tok

/-- Tokens that can be read. -/
structure Fit (L : List Tk) : Prop where
  ne : ∀ t ∈ L, t.2.1 ≠ []
  sz : ∀ t ∈ L, t.2.1.length ≤ 100000
  va : ∀ t ∈ L, t.2.2.1.length ≤ t.2.1.length
  op : ∀ t ∈ L, t.2.1 = [40] → t.1 = 10
  len : L.length ≤ 100000

theorem Fit.sub {L M : List Tk} (h : Fit L) (hs : M.Sublist L) : Fit M :=
  ⟨fun t ht => h.ne t (hs.subset ht), fun t ht => h.sz t (hs.subset ht), fun t ht => h.va t (hs.subset ht), fun t ht => h.op t (hs.subset ht), Nat.le_trans hs.length_le h.len⟩
theorem Fit.drop {L : List Tk} (h : Fit L) (n : Nat) : Fit (L.drop n) := h.sub (List.drop_sublist n L)
theorem Fit.take {L : List Tk} (h : Fit L) (n : Nat) : Fit (L.take n) := h.sub (List.take_sublist n L)

theorem Fit.cut (s : List UInt8) (h : s.length ≤ 100000) : Fit (cutP s) := by
  have hr := cutP_raw _ s (Nat.le_refl _)
  have hz : ∀ t ∈ cutP s, t.2.1.length ≤ s.length := by
    intro t ht
    have : t.2.1.Sublist (rw (cutP s)) := List.sublist_flatten_of_mem (List.mem_map_of_mem (f := fun t : Tk => t.2.1) ht)
    rw [rw_cut] at this
    exact this.length_le
  refine ⟨hr.2, fun t ht => by have := hz t ht; omega, fun t ht => cut_val _ s (Nat.le_refl _) t ht, fun t ht h40 => ?_, by have := cutP_len _ s (Nat.le_refl _); omega⟩
  obtain ⟨A, B, hAB⟩ := List.append_of_mem ht
  have h1 : cutP s = A ++ [t] ++ B := by rw [hAB]; simp
  have h2 := cut_seg h1
  have h3 : rw [t] = [40] := by rw [rw_cons, h40]; rfl
  rw [h3] at h2
  have h4 : cutP [40] = [(10, [40], [], 0)] := by decide +kernel
  rw [h4] at h2
  simp only [List.cons.injEq, and_true] at h2
  rw [← h2]

theorem at' (L : List Tk) (i : Nat) (t : Tk) (r : List Tk) (h : L.drop i = t :: r) :
    i < L.length ∧ (L.map mk).getD i S55.d = mk t ∧ L.drop (i + 1) = r ∧ t ∈ L := by
  have hi : i < L.length := by
    rcases Nat.lt_or_ge i L.length with h1 | h1
    · exact h1
    · rw [List.drop_eq_nil_of_le h1] at h; cases h
  rw [List.drop_eq_getElem_cons hi] at h
  simp only [List.cons.injEq] at h
  refine ⟨hi, ?_, h.2, ?_⟩
  · rw [List.getD_eq_getElem?_getD, List.getElem?_map, List.getElem?_eq_getElem hi, h.1]; rfl
  · rw [← h.1]; exact List.getElem_mem hi

theorem at_end (L : List Tk) (i : Nat) (hi : i ≤ L.length) (h : L.drop i = []) : i = L.length := by
  have := congrArg List.length h
  simp at this; omega

/-- Tokens that are no blanks and no remarks. -/
def solP (L : List Tk) : List Tk := L.filter fun t => !silT t

theorem sil_of (t : Tk) : (cond (t.1 != (8 : Int)) (t.1 != (9 : Int)) false) = !silT t := by
  unfold silT
  show cond (!(t.1 == 8)) (!(t.1 == 9)) false = _
  cases t.1 == 8 <;> cases t.1 == 9 <;> rfl

theorem solid_loop (k : Nat) (L : List Tk) (hl : L.length ≤ 100000) (K : List S55 → Option (List S55)) : ∀ (n i : Nat) (acc : List S55), i ≤ L.length → L.length - i < n → acc.length ≤ i →
    media_solid.c7 k n (L.map mk) (L.length : Int) (i : Int) acc K = K (acc ++ (solP (L.drop i)).map mk)
  | 0, i, acc, _, h, _ => by omega
  | n + 1, i, acc, hi, hn, ha => by
    unfold media_solid.c7
    simp only [List.length_map, Int.toNat_natCast]
    match hd : L.drop i with
    | [] =>
      have hi2 := at_end L i hi hd
      rw [cond_ndec (by omega)]
      show K acc = K (acc ++ [])
      rw [List.append_nil]
    | t :: r =>
      obtain ⟨h1, h2, h3, h4⟩ := at' L i t r hd
      have w1 : IntKind.wrap .i64 ((i : Int) + 1) = ((i + 1 : Nat) : Int) := by rw [wrap_i64 (by omega) (by omega)]; omega
      rw [cond_dec (by omega), cond_dec (by omega)]
      simp only [h2]
      rw [show (cond ((mk t).Kind != (8 : Int)) ((mk t).Kind != (9 : Int)) false) = !silT t from sil_of t, w1]
      have ih := fun acc ha => solid_loop k L hl K n (i + 1) acc (by omega) (by omega) ha
      unfold solP at ih ⊢
      rw [h3] at ih
      rw [List.filter_cons]
      cases hs : silT t with
      | true =>
        simp only [Bool.not_true, cond_false]
        exact ih acc (by omega)
      | false =>
        simp only [Bool.not_false, cond_true]
        rw [cond_dec (by rw [List.length_append]; simp only [List.length_cons, List.length_nil, most]; omega), ih _ (by rw [List.length_append]; simp only [List.length_cons, List.length_nil]; omega)]
        simp only [if_true, List.map_cons, List.append_assoc, List.singleton_append]

theorem solid_eq (k : Nat) (hk : 100001 < k) (L : List Tk) (hl : L.length ≤ 100000) : media_solid k (L.map mk) = some ((solP L).map mk) := by
  unfold media_solid
  rw [List.length_map]
  have := solid_loop k L hl (fun y => some y) k 0 [] (by omega) (by omega) (by simp)
  rw [List.drop_zero] at this
  exact this

theorem solP_sub (L : List Tk) : (solP L).Sublist L := List.filter_sublist

def clTab : List (Int × Int) := mput (some .u8) (123 : Int) (125 : Int) (mput (some .u8) (91 : Int) (93 : Int) (mput (some .u8) (40 : Int) (41 : Int) ([] : List (Int × Int))))
/-- What closes what a token opens. -/
def clN (t : Tk) : Int := (mget (some .u8) (((t.2.1.getLastD 0).toNat : Nat) : Int) clTab).getD 0

/-- What is open behind a token. -/
def stepW (w : List Int) (t : Tk) : List Int :=
  bif t.1 == 10 || t.1 == 2 then w ++ [clN t] else bif t.1 == 11 && ((((t.2.1.headD 0).toNat : Nat) : Int) == w.getLastD 0) then w.dropLast else w

/-- Where all is closed: how many tokens. -/
def ends : List Int → Nat → List Tk → Nat
  | _, _, [] => 0
  | w, i, t :: r => bif (stepW w t).isEmpty then i + 1 else ends (stepW w t) (i + 1) r

theorem ends_le : ∀ (l : List Tk) (w : List Int) (i : Nat), ends w i l ≤ i + l.length ∧ (ends w i l = 0 ∨ i < ends w i l)
  | [], _, _ => ⟨by simp [ends], .inl rfl⟩
  | t :: r, w, i => by
    unfold ends
    cases (stepW w t).isEmpty with
    | true => exact ⟨by simp only [cond_true, List.length_cons]; omega, .inr (by simp)⟩
    | false =>
      obtain ⟨h1, h2⟩ := ends_le r (stepW w t) (i + 1)
      simp only [cond_false, List.length_cons]
      exact ⟨by omega, by omega⟩

theorem last_get (l : List UInt8) (h : l ≠ []) (hl : l.length ≤ 100000) : decide (0 ≤ IntKind.wrap .i64 ((l.length : Int) - 1) ∧ IntKind.wrap .i64 ((l.length : Int) - 1) < (l.length : Int)) = true ∧
    l.getD (IntKind.wrap .i64 ((l.length : Int) - 1)).toNat 0 = l.getLastD 0 := by
  have hp : 0 < l.length := List.length_pos_iff.2 h
  have w : IntKind.wrap .i64 ((l.length : Int) - 1) = ((l.length - 1 : Nat) : Int) := by rw [wrap_i64 (by omega) (by omega)]; omega
  rw [w]
  refine ⟨decide_eq_true (by omega), ?_⟩
  show l.getD (l.length - 1) 0 = _
  rw [List.getD_eq_getElem?_getD, List.getLastD_eq_getLast?, List.getLast?_eq_getElem?]

theorem lastI_get (l : List Int) (h : l ≠ []) (hl : l.length ≤ 200000) : decide (0 ≤ IntKind.wrap .i64 ((l.length : Int) - 1) ∧ IntKind.wrap .i64 ((l.length : Int) - 1) < (l.length : Int)) = true ∧
    l.getD (IntKind.wrap .i64 ((l.length : Int) - 1)).toNat 0 = l.getLastD 0 ∧ decide (0 ≤ IntKind.wrap .i64 ((l.length : Int) - 1) ∧ IntKind.wrap .i64 ((l.length : Int) - 1) ≤ (l.length : Int)) = true ∧
    (l.drop 0).take (IntKind.wrap .i64 ((l.length : Int) - 1)).toNat = l.dropLast := by
  have hp : 0 < l.length := List.length_pos_iff.2 h
  have w : IntKind.wrap .i64 ((l.length : Int) - 1) = ((l.length - 1 : Nat) : Int) := by rw [wrap_i64 (by omega) (by omega)]; omega
  rw [w]
  refine ⟨decide_eq_true (by omega), ?_, decide_eq_true (by omega), ?_⟩
  · show l.getD (l.length - 1) 0 = _
    rw [List.getD_eq_getElem?_getD, List.getLastD_eq_getLast?, List.getLast?_eq_getElem?]
  · rw [List.drop_zero, List.dropLast_eq_take]; rfl

theorem isE0 (w : List Int) : (((w.length : Nat) : Int) == (0 : Int)) = w.isEmpty := by
  cases w with
  | nil => rfl
  | cons a r => exact beq_eq_false_iff_ne.2 (by simp only [List.length_cons]; omega)

theorem end_loop (k : Nat) (L : List Tk) (h : Fit L) : ∀ (n i : Nat) (w : List Int), i ≤ L.length → L.length - i < n → w.length ≤ i → (w ≠ [] ∨ ∀ t r, L.drop i = t :: r → (t.1 == 10 || t.1 == 2) = true) →
    media_end.c9 k n (L.map mk) (L.length : Int) (i : Int) clTab w (some (0 : Int)) = some ((ends w i (L.drop i) : Nat) : Int)
  | 0, i, w, _, hn, _, _ => by omega
  | n + 1, i, w, hi, hn, hw, ho => by
    have hl := h.len
    unfold media_end.c9
    simp only [List.length_map, Int.toNat_natCast]
    match hd : L.drop i with
    | [] =>
      have hi2 := at_end L i hi hd
      rw [cond_ndec (by omega)]
      rfl
    | t :: r =>
      obtain ⟨h1, h2, h3, h4⟩ := at' L i t r hd
      have w1 : IntKind.wrap .i64 ((i : Int) + 1) = ((i + 1 : Nat) : Int) := by rw [wrap_i64 (by omega) (by omega)]; omega
      rw [cond_dec (by omega), cond_dec (by omega)]
      simp only [h2]
      have hraw : (mk t).Raw = t.2.1 := rfl
      have hkd : (mk t).Kind = t.1 := rfl
      obtain ⟨g1, g2⟩ := last_get t.2.1 (h.ne t h4) (h.sz t h4)
      have hpos : 0 < t.2.1.length := List.length_pos_iff.2 (h.ne t h4)
      simp only [hraw, hkd, g1, g2, cond_true]
      have hhead : t.2.1.getD (0 : Int).toNat 0 = t.2.1.headD 0 := by
        cases t.2.1 <;> rfl
      -- what is done behind a step
      have fin : ∀ w' : List Int, w' = stepW w t → w'.length ≤ i + 1 →
          media_end.c26 k (i : Int) (L.map mk) (L.length : Int) (i : Int) clTab w' (fun (y20 : List S55) (y21 : Int) (y22 : Int) (y23 : List (Int × Int)) (y24 : List Int) =>
            media_end.c9 k n y20 y21 (IntKind.wrap .i64 (y22 + (1 : Int))) y23 y24 (some (0 : Int))) = some ((ends w i (t :: r) : Nat) : Int) := by
        intro w' hw' hlen
        unfold media_end.c26
        rw [isE0, ends, ← hw']
        cases he : w'.isEmpty with
        | true => simp only [cond_true, w1]
        | false =>
          simp only [cond_false, w1]
          rw [end_loop k L h n (i + 1) w' (by omega) (by omega) hlen (.inl (by intro e; rw [e] at he; cases he)), h3]
      have hopen : (t.1 == 10 || t.1 == 2) = true → stepW w t = w ++ [clN t] := by intro e; unfold stepW; rw [e]; rfl
      have hclN : (mget (some IntKind.u8) (((t.2.1.getLastD 0).toNat : Nat) : Int) clTab).getD 0 = clN t := rfl
      have hsnoc : (w ++ [clN t]).length ≤ i + 1 := by rw [List.length_append]; simp only [List.length_cons, List.length_nil]; omega
      cases hk10 : (t.1 == (10 : Int)) with
      | true =>
        simp only [cond_true]
        rw [hclN, cond_dec (by simp only [most]; omega)]
        exact fin _ (hopen (by rw [hk10]; rfl)).symm hsnoc
      | false =>
        simp only [cond_false]
        cases hk2 : (t.1 == (2 : Int)) with
        | true =>
          simp only [cond_true]
          rw [hclN, cond_dec (by simp only [most]; omega)]
          exact fin _ (hopen (by rw [hk2]; simp)).symm hsnoc
        | false =>
          simp only [cond_false]
          have hnw : w ≠ [] := by
            rcases ho with ho | ho
            · exact ho
            · have := ho t r hd
              rw [hk10, hk2] at this
              cases this
          obtain ⟨q1, q2, q3, q4⟩ := lastI_get w hnw (by omega)
          cases hk11 : (t.1 == (11 : Int)) with
          | false =>
            simp only [cond_false]
            refine fin w ?_ (by omega)
            unfold stepW
            rw [hk10, hk2, hk11]; rfl
          | true =>
            simp only [cond_true]
            rw [cond_dec (by omega)]
            simp only [q1, q2, q3, q4, hhead, cond_true]
            cases hq : ((((t.2.1.headD 0).toNat : Nat) : Int) == w.getLastD 0) with
            | true =>
              simp only [cond_true]
              refine fin _ ?_ (by rw [List.length_dropLast]; omega)
              unfold stepW
              rw [hk10, hk2, hk11, hq]; rfl
            | false =>
              simp only [cond_false]
              refine fin w ?_ (by omega)
              unfold stepW
              rw [hk10, hk2, hk11, hq]; rfl

theorem end_eq (k : Nat) (hk : 100001 < k) (L : List Tk) (h : Fit L) (ho : ∀ t r, L = t :: r → (t.1 == 10 || t.1 == 2) = true) : media_end k (L.map mk) = some ((ends [] 0 L : Nat) : Int) := by
  have hl := h.len
  unfold media_end
  rw [List.length_map]
  have := end_loop k L h k 0 [] (by omega) (by omega) (by simp) (.inr (by rw [List.drop_zero]; exact ho))
  rw [List.drop_zero] at this
  exact this

def comT (t : Tk) : Bool := t.1 == 12 && t.2.1 == [44]

/-- Tokens cut at commas outside of blocks; cur: those behind the last one. -/
def pcs : Nat → List Tk → List Tk → List (List Tk)
  | 0, _, cur => [cur]
  | _ + 1, [], cur => [cur]
  | n + 1, t :: r, cur =>
    bif t.1 == 10 || t.1 == 2 then
      pcs n ((t :: r).drop (bif ends [] 0 (t :: r) == 0 then r.length + 1 else ends [] 0 (t :: r))) (cur ++ (t :: r).take (bif ends [] 0 (t :: r) == 0 then r.length + 1 else ends [] 0 (t :: r)))
    else bif comT t then cur :: pcs n r [] else pcs n r (cur ++ [t])

theorem int0 (m : Nat) : (((m : Nat) : Int) == (0 : Int)) = (m == 0) := by
  cases m with
  | zero => rfl
  | succ m => exact (beq_eq_false_iff_ne.2 (by omega)).trans (beq_eq_false_iff_ne.2 (by omega)).symm

theorem slice_snoc (L : List Tk) (a i m : Nat) (h : a ≤ i) (hm : i + m ≤ L.length) : (L.take i).drop a ++ (L.drop i).take m = (L.take (i + m)).drop a := by
  rw [List.take_add, List.drop_append_of_le_length (by rw [List.length_take]; omega)]

theorem pieces_loop (k : Nat) (hk : 100001 < k) (L : List Tk) (h : Fit L) (K : List S55 → Int → List (List S55) → Option (List (List S55)))
    (hK : ∀ (a : Nat) (acc : List (List Tk)), a ≤ L.length → acc.length ≤ L.length → K (L.map mk) (a : Int) (acc.map (List.map mk)) = some ((acc ++ [L.drop a]).map (List.map mk))) :
    ∀ (n m a i : Nat) (acc : List (List Tk)), a ≤ i → i ≤ L.length → L.length - i < n → L.length - i < m → acc.length ≤ i →
    media_pieces.c9 k n (L.map mk) (a : Int) (i : Int) (acc.map (List.map mk)) K = some ((acc ++ pcs m (L.drop i) ((L.take i).drop a)).map (List.map mk))
  | 0, m, a, i, acc, _, _, hn, _, _ => by omega
  | n + 1, 0, a, i, acc, _, _, _, hm, _ => by omega
  | n + 1, m + 1, a, i, acc, ha, hi, hn, hm, hacc => by
    have hl := h.len
    unfold media_pieces.c9
    simp only [List.length_map, Int.toNat_natCast]
    match hd : L.drop i with
    | [] =>
      have hi2 := at_end L i hi hd
      rw [show decide ((i : Int) < (L.length : Int)) = false from decide_eq_false (by omega)]
      simp only [cond_false]
      rw [hK a acc (by omega) (by omega), pcs]
      have : (L.take i).drop a = L.drop a := by rw [hi2, List.take_length]
      rw [this]
    | t :: r =>
      obtain ⟨h1, h2, h3, h4⟩ := at' L i t r hd
      have w1 : IntKind.wrap .i64 ((i : Int) + 1) = ((i + 1 : Nat) : Int) := by rw [wrap_i64 (by omega) (by omega)]; omega
      have hrl : r.length + 1 = L.length - i := by have := congrArg List.length hd; simp at this; omega
      rw [show decide ((i : Int) < (L.length : Int)) = true from decide_eq_true (by omega), show decide (0 ≤ (i : Int) ∧ (i : Int) < (L.length : Int)) = true from decide_eq_true (by omega)]
      simp only [cond_true, h2]
      rw [show ((mk t).Kind == (10 : Int)) = (t.1 == 10) from rfl, show ((mk t).Kind == (2 : Int)) = (t.1 == 2) from rfl, show ((mk t).Kind == (12 : Int)) = (t.1 == 12) from rfl, show ((mk t).Raw == ([44] : List UInt8)) = (t.2.1 == [44]) from rfl]
      have hop : (cond (t.1 == (10 : Int)) true (t.1 == (2 : Int))) = (t.1 == 10 || t.1 == 2) := by cases t.1 == (10 : Int) <;> rfl
      rw [hop, pcs]
      cases ho : (t.1 == 10 || t.1 == 2) with
      | true =>
        simp only [cond_true]
        rw [cond_dec (by omega)]
        have hdm : (L.map mk).drop i = (t :: r).map mk := by rw [← List.map_drop, hd]
        have hft : Fit (t :: r) := by rw [← hd]; exact h.drop i
        rw [hdm, end_eq k hk (t :: r) hft (fun t' r' e => by cases e; exact ho)]
        simp only [Option.bind_some]
        rw [int0]
        obtain ⟨e1, e2⟩ := ends_le (t :: r) [] 0
        simp only [List.length_cons] at e1
        have hz : (ends [] 0 (t :: r) == 0) = true ↔ ends [] 0 (t :: r) = 0 := beq_iff_eq
        have step : ∀ z : Nat, 0 < z → z ≤ r.length + 1 →
            media_pieces.c22 k (L.map mk) (a : Int) (i : Int) (z : Int) (acc.map (List.map mk)) (fun (y23 : List S55) (y24 : Int) (y25 : Int) (y26 : List (List S55)) =>
              media_pieces.c9 k n y23 y24 (IntKind.wrap .i64 (y25 + (1 : Int))) y26 K) = some ((acc ++ pcs m ((t :: r).drop z) ((L.take i).drop a ++ (t :: r).take z)).map (List.map mk)) := by
          intro z hz0 hz1
          unfold media_pieces.c22
          have v1 : IntKind.wrap .i64 ((z : Int) - 1) = ((z - 1 : Nat) : Int) := by rw [wrap_i64 (by omega) (by omega)]; omega
          simp only [v1]
          have v2 : IntKind.wrap .i64 ((i : Int) + ((z - 1 : Nat) : Int)) = ((i + z - 1 : Nat) : Int) := by rw [wrap_i64 (by omega) (by omega)]; omega
          simp only [v2]
          have v3 : IntKind.wrap .i64 (((i + z - 1 : Nat) : Int) + 1) = ((i + z : Nat) : Int) := by rw [wrap_i64 (by omega) (by omega)]; omega
          simp only [v3]
          rw [pieces_loop k hk L h K hK n m a (i + z) acc (by omega) (by omega) (by omega) (by omega) (by omega)]
          rw [← slice_snoc L a i z ha (by omega), hd, ← List.drop_drop, hd]
        cases hz' : (ends [] 0 (t :: r) == 0) with
        | true =>
          simp only [cond_true]
          have w2 : IntKind.wrap .i64 ((L.length : Int) - (i : Int)) = ((r.length + 1 : Nat) : Int) := by rw [wrap_i64 (by omega) (by omega)]; omega
          rw [w2]
          exact step (r.length + 1) (by omega) (Nat.le_refl _)
        | false =>
          simp only [cond_false]
          have hne : ends [] 0 (t :: r) ≠ 0 := fun e => by rw [hz.2 e] at hz'; cases hz'
          exact step (ends [] 0 (t :: r)) (by omega) (by omega)
      | false =>
        simp only [cond_false]
        have hcm : (cond (t.1 == (12 : Int)) (t.2.1 == ([44] : List UInt8)) false) = comT t := by unfold comT; cases t.1 == (12 : Int) <;> rfl
        rw [hcm]
        cases hc : comT t with
        | true =>
          simp only [cond_true]
          have e1 : ((L.map mk).take i).drop a = ((L.take i).drop a).map mk := by rw [← List.map_take, ← List.map_drop]
          have e2 : acc.map (List.map mk) ++ [((L.map mk).take i).drop a] = (acc ++ [(L.take i).drop a]).map (List.map mk) := by rw [e1]; simp
          rw [cond_dec (by omega)]
          simp only [Int.toNat_natCast, e2]
          rw [cond_dec (by simp only [List.length_map, List.length_append, List.length_cons, List.length_nil, most]; omega), w1]
          rw [pieces_loop k hk L h K hK n m (i + 1) (i + 1) (acc ++ [(L.take i).drop a]) (by omega) (by omega) (by omega) (by omega) (by simp only [List.length_append, List.length_cons, List.length_nil]; omega)]
          rw [h3]
          have : (L.take (i + 1)).drop (i + 1) = [] := List.drop_eq_nil_of_le (by rw [List.length_take]; omega)
          rw [this, List.append_assoc]
          rfl
        | false =>
          simp only [cond_false]
          rw [w1, pieces_loop k hk L h K hK n m a (i + 1) acc (by omega) (by omega) (by omega) (by omega) (by omega), h3]
          have := slice_snoc L a i 1 ha (by omega)
          rw [hd] at this
          rw [← this]
          rfl

theorem pieces_eq (k : Nat) (hk : 100001 < k) (L : List Tk) (h : Fit L) : media_pieces k (L.map mk) = some ((pcs (L.length + 1) L []).map (List.map mk)) := by
  have hl := h.len
  unfold media_pieces
  have := pieces_loop k hk L h (fun (y34 : List S55) (y35 : Int) (y36 : List (List S55)) =>
    cond (decide (0 ≤ y35 ∧ y35 ≤ (y34.length : Int))) (cond (decide ((y36 ++ ([(y34.drop y35.toNat)])).length < most)) (some (y36 ++ ([(y34.drop y35.toNat)]))) none) none)
    (fun a acc h1 h2 => by
      simp only [List.length_map, Int.toNat_natCast]
      rw [cond_dec (by omega), cond_dec (by simp only [List.length_append, List.length_map, List.length_cons, List.length_nil, most]; omega)]
      rw [← List.map_drop]; simp) k (L.length + 1) 0 0 [] (Nat.le_refl _) (by omega) (by omega) (by omega) (by simp)
  rw [List.drop_zero] at this
  exact this

end Go.Ev.Md

-- from EvMdB
set_option linter.unusedVariables false
set_option linter.unusedSimpArgs false
namespace Go.Ev.Md
open Go Go.Ev.Tok

theorem lower2 (k : Nat) : ∀ (n : Nat) (a b : Int) (l : List Int) (K : List Int → Option (List UInt8)), media_lower.c7 k n a b l K = csstok_lower.c7 k n a b l K
  | 0, _, _, _, _ => rfl
  | n + 1, a, b, l, K => by
    unfold media_lower.c7 csstok_lower.c7
    simp only [lower2 k n]

theorem lower_eq' (k : Nat) (l : List UInt8) (hl : l.length ≤ 100000) (hk : 100001 < k) : media_lower k l = some (l.map lowB) := by
  rw [← lower_eq k l hl (by omega)]
  unfold media_lower csstok_lower
  rw [lower2]

def wordP (t : Tk) : List UInt8 := bif t.1 != 1 then [] else t.2.2.1.map lowB

theorem word_eq (k : Nat) (hk : 100001 < k) (t : Tk) (h : t.2.2.1.length ≤ 100000) : media_word k (mk t).Kind (mk t).Raw (mk t).Value (mk t).Num = some (wordP t) := by
  unfold media_word wordP
  show cond (t.1 != 1) (some []) ((media_lower k t.2.2.1).bind fun r5 => some r5) = _
  rw [lower_eq' k _ h hk]
  cases (t.1 != (1 : Int)) <;> rfl

theorem word_len (t : Tk) : (wordP t).length ≤ t.2.2.1.length := by
  unfold wordP
  cases (t.1 != (1 : Int)) <;> simp

def wordsL : List (List UInt8) := [g0_0, g0_1, g0_2, g0_3, g0_4, g0_5, g0_6, g0_7, g0_8, g0_9, g0_10, g0_11]
def kf (w : List UInt8) : List (List UInt8) → Nat → Int
  | [], _ => 12
  | x :: r, i => bif decide ((i : Int) > 0) && (x == w) then (i : Int) else kf w r (i + 1)
def kindP (w : List UInt8) : Int := kf w wordsL 0

theorem kind_loop (k : Nat) (w : List UInt8) : ∀ (n i : Nat), i ≤ 12 → 12 - i < n →
    media_kind.c5 k n w g0_0 g0_1 g0_2 g0_3 g0_4 g0_5 g0_6 g0_7 g0_8 g0_9 g0_10 g0_11 (i : Int) (some (12 : Int)) = some (kf w (wordsL.drop i) i)
  | 0, i, _, h => by omega
  | n + 1, i, hi, hn => by
    unfold media_kind.c5
    have hwl : wordsL.length = 12 := rfl
    rcases Nat.lt_or_ge i 12 with h12 | h12
    · have hd : wordsL.drop i = wordsL[i] :: wordsL.drop (i + 1) := List.drop_eq_getElem_cons (by omega)
      rw [cond_dec (by omega), cond_dec (by omega)]
      have hg : ([g0_0, g0_1, g0_2, g0_3, g0_4, g0_5, g0_6, g0_7, g0_8, g0_9, g0_10, g0_11] : List (List UInt8)).getD ((i : Nat) : Int).toNat [] = wordsL[i] := by
        show wordsL.getD i [] = _
        rw [List.getD_eq_getElem?_getD, List.getElem?_eq_getElem (by omega)]; rfl
      have w1 : IntKind.wrap .i64 ((i : Int) + 1) = ((i + 1 : Nat) : Int) := by rw [wrap_i64 (by omega) (by omega)]; omega
      simp only [hg, w1]
      rw [hd, kf]
      have : (cond (decide ((i : Int) > (0 : Int))) (wordsL[i] == w) false) = (decide ((i : Int) > 0) && (wordsL[i] == w)) := by cases decide ((i : Int) > 0) <;> rfl
      rw [this]
      cases (decide ((i : Int) > 0) && (wordsL[i] == w)) with
      | true => rfl
      | false =>
        simp only [cond_false]
        exact kind_loop k w n (i + 1) (by omega) (by omega)
    · have : i = 12 := by omega
      subst this
      rw [cond_ndec (by omega)]
      rfl

theorem kind_eq (k : Nat) (hk : 100001 < k) (w : List UInt8) : media_kind k w = some (kindP w) := by
  unfold media_kind
  have := kind_loop k w k 0 (by omega) (by omega)
  exact this

theorem kf_bd (w : List UInt8) : ∀ (l : List (List UInt8)) (i : Nat), (kf w l i = 12 ∨ (0 < kf w l i ∧ (i : Int) ≤ kf w l i ∧ kf w l i < (i + l.length : Nat) ∧ l.getD (kf w l i - i).toNat [] = w))
  | [], i => .inl rfl
  | x :: r, i => by
    unfold kf
    cases hc : (decide ((i : Int) > 0) && (x == w)) with
    | true =>
      simp only [Bool.and_eq_true, decide_eq_true_eq] at hc
      refine .inr ⟨hc.1, Int.le_refl _, by simp only [cond_true, List.length_cons]; omega, ?_⟩
      simp only [cond_true, Int.sub_self]
      exact eq_of_beq hc.2
    | false =>
      simp only [cond_false]
      rcases kf_bd w r (i + 1) with h | ⟨h0, h1, h2, h3⟩
      · exact .inl h
      · refine .inr ⟨h0, by omega, by simp only [List.length_cons]; omega, ?_⟩
        have e : (kf w r (i + 1) - (i : Int)).toNat = (kf w r (i + 1) - ((i + 1 : Nat) : Int)).toNat + 1 := by omega
        rw [e]; exact h3

theorem kind_bd (w : List UInt8) : kindP w = 12 ∨ (0 < kindP w ∧ kindP w < 12 ∧ wordsL.getD (kindP w).toNat [] = w) := by
  rcases kf_bd w wordsL 0 with h | ⟨h0, h1, h2, h3⟩
  · exact .inl h
  · refine .inr ⟨h0, ?_, ?_⟩
    · have h2' : kf w wordsL 0 < ((0 + 12 : Nat) : Int) := h2
      exact h2'
    · rw [show kf w wordsL 0 - ((0 : Nat) : Int) = kf w wordsL 0 by omega] at h3
      exact h3

def digs : List UInt8 := [48, 49, 50, 51, 52, 53, 54, 55, 56, 57]

/-- A feature in a block. -/
def featP (L : List Tk) : Int × Int :=
  bif (L.length : Int) != 3 then (12, 0)
  else bif !((L.getD 1 default).2.1 == [58]) then (12, 0)
  else bif decide (kindP (wordP (L.getD 0 default)) ≥ 4) && decide (kindP (wordP (L.getD 0 default)) ≤ 7) then
    bif ((L.getD 2 default).1 != 7) || !((L.getD 2 default).2.2.1 == [112, 120]) || !(Lib.trimS ((L.getD 2 default).2.1.take ((L.getD 2 default).2.1.length - 2)) digs == []) then (12, 0)
    else bif (atoiR ((L.getD 2 default).2.1.take ((L.getD 2 default).2.1.length - 2))).2 || decide ((atoiR ((L.getD 2 default).2.1.take ((L.getD 2 default).2.1.length - 2))).1 > 1000000) then (12, 0)
    else (kindP (wordP (L.getD 0 default)), (atoiR ((L.getD 2 default).2.1.take ((L.getD 2 default).2.1.length - 2))).1)
  else bif decide (kindP (wordP (L.getD 0 default) ++ [58] ++ wordP (L.getD 2 default)) ≥ 8) then (kindP (wordP (L.getD 0 default) ++ [58] ++ wordP (L.getD 2 default)), 0)
  else (12, 0)

theorem feature_eq (k : Nat) (hk : 100001 < k) (L : List Tk) (h : Fit L) : media_feature k (L.map mk) = some (featP L) := by
  unfold media_feature featP
  match L, h with
  | [], _ => rfl
  | [a], _ => rfl
  | [a, b], _ =>
    simp only [List.map_cons, List.map_nil, List.length_cons, List.length_nil]
    rfl
  | a :: b :: c :: d :: r, _ =>
    have e : ((((a :: b :: c :: d :: r).map mk).length : Int) != (3 : Int)) = true := by
      rw [bne_iff_ne]; simp only [List.length_map, List.length_cons]; omega
    have e' : (((a :: b :: c :: d :: r).length : Int) != (3 : Int)) = true := by
      rw [bne_iff_ne]; simp only [List.length_cons]; omega
    simp only [e, e', Bool.not_true, Bool.not_false, Bool.or_true, cond_true]
  | [a, b, c], h =>
    have e : ((([a, b, c].map mk).length : Int) != (3 : Int)) = false := rfl
    have e' : ((([a, b, c] : List Tk).length : Int) != (3 : Int)) = false := rfl
    simp only [e, e', Bool.not_false, Bool.not_true, cond_false]
    have g0 : ([a, b, c].map mk).getD (0 : Int).toNat S55.d = mk a := rfl
    have g1 : ([a, b, c].map mk).getD (1 : Int).toNat S55.d = mk b := rfl
    have g2 : ([a, b, c].map mk).getD (2 : Int).toNat S55.d = mk c := rfl
    have p0 : ([a, b, c] : List Tk).getD 0 default = a := rfl
    have p1 : ([a, b, c] : List Tk).getD 1 default = b := rfl
    have p2 : ([a, b, c] : List Tk).getD 2 default = c := rfl
    have d0 : decide (0 ≤ (0 : Int) ∧ (0 : Int) < ((([a, b, c].map mk).length : Nat) : Int)) = true := rfl
    have d1 : decide (0 ≤ (1 : Int) ∧ (1 : Int) < ((([a, b, c].map mk).length : Nat) : Int)) = true := rfl
    have d2 : decide (0 ≤ (2 : Int) ∧ (2 : Int) < ((([a, b, c].map mk).length : Nat) : Int)) = true := rfl
    simp only [g0, g1, g2, p0, p1, p2, d0, d1, d2, Bool.true_or, cond_true]
    have ha : a ∈ [a, b, c] := by simp
    have hc : c ∈ [a, b, c] := by simp
    have hva : a.2.2.1.length ≤ 100000 := Nat.le_trans (h.va a ha) (h.sz a ha)
    have hvc : c.2.2.1.length ≤ 100000 := Nat.le_trans (h.va c hc) (h.sz c hc)
    rw [word_eq k hk a hva, word_eq k hk c hvc]
    simp only [Option.bind_some, kind_eq k hk]
    rw [show ((mk b).Raw == ([58] : List UInt8)) = (b.2.1 == [58]) from rfl]
    cases hb : b.2.1 == ([58] : List UInt8) with
    | false => rfl
    | true =>
      simp only [Bool.not_true, cond_false]
      have hcc : (cond (decide (kindP (wordP a) ≥ (4 : Int))) (decide (kindP (wordP a) ≤ (7 : Int))) false) = (decide (kindP (wordP a) ≥ 4) && decide (kindP (wordP a) ≤ 7)) := by cases decide (kindP (wordP a) ≥ (4 : Int)) <;> rfl
      rw [hcc]
      cases hk47 : (decide (kindP (wordP a) ≥ 4) && decide (kindP (wordP a) ≤ 7)) with
      | false =>
        simp only [cond_false]
        have l1 := word_len a
        have l2 := word_len c
        have b1 : Nat.ble ((wordP a).length + ([58] : List UInt8).length) 9223372036854775807 = true := Nat.ble_eq_true_of_le (by simp only [List.length_cons, List.length_nil]; omega)
        have b2 : Nat.ble ((wordP a ++ ([58] : List UInt8)).length + (wordP c).length) 9223372036854775807 = true := Nat.ble_eq_true_of_le (by simp only [List.length_append, List.length_cons, List.length_nil]; omega)
        rw [b1, b2]
        simp only [cond_true]
        cases decide (kindP (wordP a ++ [58] ++ wordP c) ≥ 8) <;> rfl
      | true =>
        simp only [cond_true]
        rw [show ((mk c).Kind != (7 : Int)) = (c.1 != 7) from rfl, show ((mk c).Value == ([112, 120] : List UInt8)) = (c.2.2.1 == [112, 120]) from rfl, show (mk c).Raw = c.2.1 from rfl]
        have hor : (cond (c.1 != (7 : Int)) true (!(c.2.2.1 == ([112, 120] : List UInt8)))) = ((c.1 != 7) || !(c.2.2.1 == [112, 120])) := by cases (c.1 != (7 : Int)) <;> rfl
        rw [hor]
        cases hq : ((c.1 != 7) || !(c.2.2.1 == ([112, 120] : List UInt8))) with
        | true => simp only [Bool.not_true, Bool.not_false, Bool.or_true, Bool.true_or, cond_true, cond_false, Option.bind_some]
        | false =>
          simp only [Bool.or_eq_false_iff, Bool.not_eq_false'] at hq
          have hval : c.2.2.1 = [112, 120] := eq_of_beq hq.2
          have hlen : 2 ≤ c.2.1.length := by have := h.va c hc; rw [hval] at this; exact this
          have hsz := h.sz c hc
          have w : IntKind.wrap .i64 ((c.2.1.length : Int) - 2) = ((c.2.1.length - 2 : Nat) : Int) := by rw [wrap_i64 (by omega) (by omega)]; omega
          simp only [w, Int.toNat_natCast]
          have dd : decide (0 ≤ ((c.2.1.length - 2 : Nat) : Int) ∧ ((c.2.1.length - 2 : Nat) : Int) ≤ (c.2.1.length : Int)) = true := decide_eq_true (by omega)
          simp only [dd, Bool.true_or, Bool.not_false, Bool.not_true, Bool.false_or, cond_true, cond_false, Option.bind_some]
          have htl : (c.2.1.take (c.2.1.length - 2)).length ≤ 100000 := by rw [List.length_take]; omega
          have htr : strings_Trim k (c.2.1.take (c.2.1.length - 2)) ([48, 49, 50, 51, 52, 53, 54, 55, 56, 57] : List UInt8) = some (Lib.trimS (c.2.1.take (c.2.1.length - 2)) digs) := by
            unfold strings_Trim trimB
            have hb : (c.2.1.take (c.2.1.length - 2)).length.blt 9223372036854775807 = true := by rw [Nat.blt_eq]; omega
            rw [hb]
            rfl
          rw [htr]
          have hat : strconv_Atoi k (c.2.1.take (c.2.1.length - 2)) = some (atoiR (c.2.1.take (c.2.1.length - 2))) := by
            unfold strconv_Atoi atoiS
            rw [Nat.ble_eq_true_of_le (show (c.2.1.take (c.2.1.length - 2)).length ≤ 281474976710656 by omega)]
            rfl
          rw [hat]
          simp only [Option.bind_some]
          generalize c.2.1.take (c.2.1.length - 2) = ds
          cases Lib.trimS ds digs == [] with
          | false => rfl
          | true =>
            simp only [Bool.not_true, cond_false, Bool.not_not]
            cases (atoiR ds).2 with
            | true => rfl
            | false =>
              simp only [cond_false, Bool.false_or]
              cases decide ((atoiR ds).1 > 1000000) <;> rfl

def AND : List UInt8 := [97, 110, 100]
def NOT : List UInt8 := [110, 111, 116]

/-- Behind a feature of m tokens. -/
def qtail (m : Nat) (f : S38) (l : List Tk) (fs : List S38) (K : List Tk → List S38 → List S38 × Bool) : List S38 × Bool :=
  match l.drop m with
  | [] => (fs ++ [f], true)
  | a :: r => bif !(wordP a == AND) then (fs ++ [f], false) else K r (fs ++ [f])

/-- Features with 'and' between. -/
def qry : Nat → List Tk → List S38 → List S38 × Bool
  | 0, _, fs => (fs, false)
  | _ + 1, [], fs => (fs, false)
  | n + 1, t :: r, fs =>
    bif t.2.1 == [40] then
      bif ends [] 0 (t :: r) == 0 then (fs, false)
      else qtail (ends [] 0 (t :: r)) ⟨(featP (((t :: r).take (ends [] 0 (t :: r) - 1)).drop 1)).1, (featP (((t :: r).take (ends [] 0 (t :: r) - 1)).drop 1)).2⟩ (t :: r) fs (qry n)
    else bif decide (kindP (wordP t) > 3) then (fs, false)
    else qtail 1 ⟨kindP (wordP t), 0⟩ (t :: r) fs (qry n)

def queryP (l : List Tk) : Bool × List S38 × Bool := match l with
  | [] => (false, [], false)
  | t :: r => bif wordP t == NOT then (true, qry (r.length + 1) r []) else (false, qry (r.length + 2) (t :: r) [])

theorem qtail_eq (k : Nat) (hk : 100001 < k) (l : List Tk) (h : Fit l) (m : Nat) (hm : m ≤ l.length) (b c : Bool) (x y : Int) (fs : List S38) (hfs : fs.length ≤ 200000)
    (kn : List S55 → Bool → Bool → List S38 → Option (Bool × (List S38) × Bool)) (K : List Tk → List S38 → List S38 × Bool)
    (hkn : ∀ a r, l.drop m = a :: r → kn (r.map mk) b c (fs ++ [⟨x, y⟩]) = some (c, K r (fs ++ [⟨x, y⟩]))) :
    media_query.c30 k (l.map mk) (m : Int) b c x y fs kn = some (c, qtail m ⟨x, y⟩ l fs K) := by
  have hl := h.len
  unfold media_query.c30 qtail
  simp only [List.length_map, Int.toNat_natCast]
  rw [cond_dec (by simp only [List.length_append, List.length_cons, List.length_nil, most]; omega), cond_dec (by omega)]
  simp only [← List.map_drop]
  match hd : l.drop m with
  | [] => rfl
  | a :: r =>
    have e : ((((a :: r).map mk).length : Int) == (0 : Int)) = false := beq_eq_false_iff_ne.2 (by simp only [List.length_map, List.length_cons]; omega)
    rw [e]
    simp only [cond_false]
    have hm2 : a ∈ l := by
      have : a ∈ l.drop m := by rw [hd]; simp
      exact List.mem_of_mem_drop this
    have hva : a.2.2.1.length ≤ 100000 := Nat.le_trans (h.va a hm2) (h.sz a hm2)
    have hg : ((a :: r).map mk).getD ((0 : Int).toNat) S55.d = mk a := rfl
    rw [cond_dec (by simp only [List.length_map, List.length_cons]; omega)]
    simp only [hg]
    rw [word_eq k hk a hva]
    simp only [Option.bind_some]
    show cond (!(wordP a == AND)) _ _ = _
    cases hw : wordP a == AND with
    | false => rfl
    | true =>
      simp only [Bool.not_true, cond_false]
      rw [cond_dec (by simp only [List.length_map, List.length_cons]; omega)]
      exact hkn a r hd

theorem qry_loop (k : Nat) (hk : 100001 < k) (K : Bool → Bool → List S38 → Option (Bool × (List S38) × Bool)) (hK : ∀ b c fs, K b c fs = some (c, fs, false)) :
    ∀ (n m : Nat) (l : List Tk) (b c : Bool) (fs : List S38), Fit l → l.length < n → l.length < m → fs.length + l.length ≤ 200000 → media_query.c11 k n (l.map mk) b c fs K = some (c, qry m l fs)
  | 0, m, l, b, c, fs, _, h, _, _ => by omega
  | n + 1, 0, l, b, c, fs, _, _, h, _ => by omega
  | n + 1, m + 1, [], b, c, fs, _, _, _, _ => by
    unfold media_query.c11 qry
    exact hK b c fs
  | n + 1, m + 1, t :: r, b, c, fs, hf, hn, hm, hfs => by
    have hl := hf.len
    simp only [List.length_cons] at hn hm hl hfs
    unfold media_query.c11 qry
    have e1 : decide (((((t :: r).map mk).length : Nat) : Int) > 0) = true := decide_eq_true (by simp only [List.length_map, List.length_cons]; omega)
    have e2 : decide (0 ≤ (0 : Int) ∧ (0 : Int) < ((((t :: r).map mk).length : Nat) : Int)) = true := decide_eq_true (by simp only [List.length_map, List.length_cons]; omega)
    have hg : ((t :: r).map mk).getD ((0 : Int).toNat) S55.d = mk t := rfl
    have ht : t ∈ t :: r := by simp
    have hva : t.2.2.1.length ≤ 100000 := Nat.le_trans (hf.va t ht) (hf.sz t ht)
    simp only [e1, e2, hg, cond_true]
    rw [word_eq k hk t hva]
    simp only [Option.bind_some, kind_eq k hk]
    rw [show ((mk t).Raw == ([40] : List UInt8)) = (t.2.1 == [40]) from rfl]
    have cont : ∀ (z : Nat) (x y : Int), 1 ≤ z → z ≤ r.length + 1 → media_query.c30 k ((t :: r).map mk) (z : Int) b c x y fs (fun (y44 : List S55) (y45 : Bool) (y46 : Bool) (y47 : List S38) =>
        media_query.c11 k n y44 y45 y46 y47 K) = some (c, qtail z ⟨x, y⟩ (t :: r) fs (qry m)) := by
      intro z x y hz hz2
      refine qtail_eq k hk (t :: r) hf z (by simp only [List.length_cons]; omega) b c x y fs (by omega) _ (qry m) (fun a q hq => ?_)
      have hql := congrArg List.length hq
      simp only [List.length_drop, List.length_cons] at hql
      have hfq : Fit q := by
        have : Fit (a :: q) := by rw [← hq]; exact hf.drop z
        exact this.sub (List.sublist_cons_self a q)
      exact qry_loop k hk K hK n m q b c (fs ++ [⟨x, y⟩]) hfq (by omega) (by omega) (by simp only [List.length_append, List.length_cons, List.length_nil]; omega)
    cases h40 : t.2.1 == ([40] : List UInt8) with
    | true =>
      simp only [cond_true]
      have hk10 : t.1 = 10 := hf.op t ht (eq_of_beq h40)
      rw [end_eq k hk (t :: r) hf (fun t' r' e => by cases e; rw [hk10]; rfl)]
      simp only [Option.bind_some]
      rw [int0]
      obtain ⟨b1, b2⟩ := ends_le (t :: r) [] 0
      simp only [List.length_cons] at b1
      cases hz : ends [] 0 (t :: r) == 0 with
      | true => rfl
      | false =>
        have hne : ends [] 0 (t :: r) ≠ 0 := by intro e; rw [e] at hz; cases hz
        simp only [cond_false]
        have hge : 1 ≤ ends [] 0 (t :: r) := by omega
        have w : IntKind.wrap .i64 (((ends [] 0 (t :: r) : Nat) : Int) - 1) = ((ends [] 0 (t :: r) - 1 : Nat) : Int) := by rw [wrap_i64 (by omega) (by omega)]; omega
        simp only [w, Int.toNat_natCast]
        -- the list has two tokens at least, for the first one opens
        have hge2 : 2 ≤ ends [] 0 (t :: r) := by
          unfold ends
          have : (stepW [] t).isEmpty = false := by unfold stepW; rw [hk10]; rfl
          rw [this]
          simp only [cond_false]
          have := (ends_le r (stepW [] t) (0 + 1)).2
          have h0 : ends (stepW [] t) (0 + 1) r ≠ 0 := by
            intro e
            apply hne
            unfold ends
            rw [show (stepW [] t).isEmpty = false from by unfold stepW; rw [hk10]; rfl]
            exact e
          omega
        have dd : decide (0 ≤ (1 : Int) ∧ (1 : Int) ≤ ((ends [] 0 (t :: r) - 1 : Nat) : Int) ∧ ((ends [] 0 (t :: r) - 1 : Nat) : Int) ≤ ((((t :: r).map mk).length : Nat) : Int)) = true :=
          decide_eq_true (by simp only [List.length_map, List.length_cons]; omega)
        simp only [dd, cond_true]
        have hsub : (((t :: r).map mk).take (ends [] 0 (t :: r) - 1)).drop (1 : Int).toNat = (((t :: r).take (ends [] 0 (t :: r) - 1)).drop 1).map mk := by
          rw [← List.map_take, ← List.map_drop]; rfl
        rw [hsub, feature_eq k hk _ ((hf.take _).drop _)]
        simp only [Option.bind_some]
        exact cont _ _ _ hge (by omega)
    | false =>
      simp only [cond_false]
      cases decide (kindP (wordP t) > 3) with
      | true => rfl
      | false =>
        simp only [cond_false]
        exact cont 1 _ _ (by omega) (by omega)

theorem query_eq (k : Nat) (hk : 100001 < k) (l : List Tk) (h : Fit l) : media_query k (l.map mk) = some (queryP l) := by
  have hl := h.len
  unfold media_query queryP
  match l, h with
  | [], _ =>
    obtain ⟨j, rfl⟩ : ∃ j, k = j + 1 := ⟨k - 1, by omega⟩
    rfl
  | t :: r, h =>
    have e1 : decide (((((t :: r).map mk).length : Nat) : Int) > 0) = true := decide_eq_true (by simp only [List.length_map, List.length_cons]; omega)
    have e2 : decide (0 ≤ (0 : Int) ∧ (0 : Int) < ((((t :: r).map mk).length : Nat) : Int)) = true := decide_eq_true (by simp only [List.length_map, List.length_cons]; omega)
    have e3 : decide (0 ≤ (1 : Int) ∧ (1 : Int) ≤ ((((t :: r).map mk).length : Nat) : Int)) = true := decide_eq_true (by simp only [List.length_map, List.length_cons]; omega)
    have hg : ((t :: r).map mk).getD ((0 : Int).toNat) S55.d = mk t := rfl
    have ht : t ∈ t :: r := by simp
    have hva : t.2.2.1.length ≤ 100000 := Nat.le_trans (h.va t ht) (h.sz t ht)
    simp only [e1, e2, e3, hg, cond_true, Bool.true_or]
    rw [word_eq k hk t hva]
    simp only [Option.bind_some]
    show cond (wordP t == NOT) _ _ = _
    simp only [List.length_cons] at hl
    cases wordP t == NOT with
    | true =>
      simp only [cond_true]
      exact qry_loop k hk _ (fun b c fs => rfl) k (r.length + 1) r false true [] (h.sub (List.sublist_cons_self t r)) (by omega) (by omega) (by simp; omega)
    | false =>
      simp only [cond_false]
      exact qry_loop k hk _ (fun b c fs => rfl) k (r.length + 2) (t :: r) false false [] h (by simp only [List.length_cons]; omega) (by simp only [List.length_cons]; omega) (by simp only [List.length_cons, List.length_nil]; omega)

def UNK : S36 := ⟨false, [⟨12, 0⟩]⟩
/-- The query of tokens. -/
def toQ (l : List Tk) : S36 := bif !(queryP l).2.2 then UNK else ⟨(queryP l).1, (queryP l).2.1⟩

theorem read_loop (k : Nat) (hk : 100001 < k) (Ls : List (List Tk)) (hf : ∀ l ∈ Ls, Fit l) (hl : Ls.length ≤ 100001) (K : List S36 → Option (Int × (List S36))) :
    ∀ (n i : Nat) (acc : List S36), i ≤ Ls.length → Ls.length - i < n → acc.length ≤ i →
    media_Read.c17 k n (Ls.length : Int) (i : Int) acc (Ls.map (List.map mk)) K = K (acc ++ (Ls.drop i).map toQ)
  | 0, i, acc, _, h, _ => by omega
  | n + 1, i, acc, hi, hn, ha => by
    unfold media_Read.c17
    simp only [List.length_map, Int.toNat_natCast]
    rcases Nat.lt_or_ge i Ls.length with h1 | h1
    · have hd : Ls.drop i = Ls[i] :: Ls.drop (i + 1) := List.drop_eq_getElem_cons h1
      have hg : (Ls.map (List.map mk)).getD i [] = Ls[i].map mk := by rw [List.getD_eq_getElem?_getD, List.getElem?_map, List.getElem?_eq_getElem h1]; rfl
      have w1 : IntKind.wrap .i64 ((i : Int) + 1) = ((i + 1 : Nat) : Int) := by rw [wrap_i64 (by omega) (by omega)]; omega
      rw [cond_dec (by omega), cond_dec (by omega), hg, query_eq k hk _ (hf _ (List.getElem_mem h1))]
      simp only [Option.bind_some, w1]
      have fin : ∀ (b : Bool) (fs : List S38), (⟨b, fs⟩ : S36) = toQ Ls[i] → media_Read.c26 k (Ls.length : Int) (i : Int) acc b fs (Ls.map (List.map mk)) (fun (y21 : Int) (y22 : Int) (y23 : List S36) (y24 : List (List S55)) =>
          media_Read.c17 k n y21 (IntKind.wrap .i64 (y22 + (1 : Int))) y23 y24 K) = K (acc ++ toQ Ls[i] :: (Ls.drop (i + 1)).map toQ) := by
        intro b fs e
        unfold media_Read.c26
        rw [cond_dec (by simp only [List.length_append, List.length_cons, List.length_nil, most]; omega)]
        simp only [w1]
        rw [read_loop k hk Ls hf hl K n (i + 1) _ (by omega) (by omega) (by simp only [List.length_append, List.length_cons, List.length_nil]; omega), e]
        simp
      rw [hd, List.map_cons]
      cases ho : (queryP Ls[i]).2.2 with
      | false =>
        simp only [Bool.not_false, cond_true]
        exact fin false [⟨12, 0⟩] (by unfold toQ; rw [ho]; rfl)
      | true =>
        simp only [Bool.not_true, cond_false]
        exact fin _ _ (by unfold toQ; rw [ho]; rfl)
    · have hi2 : i = Ls.length := by omega
      subst hi2
      rw [cond_ndec (by omega)]
      simp

/-- What is read of a text. -/
def readP (s : List UInt8) : Int × List S36 :=
  bif decide ((s.length : Int) > 400) then (2, [])
  else bif (solP (cutP s)).isEmpty then (0, [⟨false, [⟨1, 0⟩]⟩])
  else (0, (pcs ((solP (cutP s)).length + 1) (solP (cutP s)) []).map toQ)

theorem pcs_all {P : Tk → Prop} : ∀ (n : Nat) (L cur : List Tk), (∀ t ∈ L, P t) → (∀ t ∈ cur, P t) → ∀ l ∈ pcs n L cur, ∀ t ∈ l, P t
  | 0, L, cur, h1, h2, l, hl => by
    simp only [pcs, List.mem_singleton] at hl
    subst hl; exact h2
  | n + 1, [], cur, h1, h2, l, hl => by
    simp only [pcs, List.mem_singleton] at hl
    subst hl; exact h2
  | n + 1, t :: r, cur, h1, h2, l, hl => by
    unfold pcs at hl
    cases ho : (t.1 == 10 || t.1 == 2) with
    | true =>
      rw [ho, cond_true] at hl
      refine pcs_all n _ _ (fun u hu => h1 u (List.mem_of_mem_drop hu)) (fun u hu => ?_) l hl
      rcases List.mem_append.1 hu with hu | hu
      · exact h2 u hu
      · exact h1 u (List.mem_of_mem_take hu)
    | false =>
      rw [ho, cond_false] at hl
      cases hc : comT t with
      | true =>
        rw [hc, cond_true] at hl
        rcases List.mem_cons.1 hl with rfl | hl
        · exact h2
        · exact pcs_all n r [] (fun u hu => h1 u (by simp [hu])) (fun u hu => by cases hu) l hl
      | false =>
        rw [hc, cond_false] at hl
        refine pcs_all n r _ (fun u hu => h1 u (by simp [hu])) (fun u hu => ?_) l hl
        rcases List.mem_append.1 hu with hu | hu
        · exact h2 u hu
        · simp at hu; subst hu; exact h1 u (by simp)

theorem pcs_len : ∀ (n : Nat) (L cur : List Tk), (pcs n L cur).length ≤ L.length + 1 ∧ ∀ l ∈ pcs n L cur, l.length ≤ cur.length + L.length
  | 0, L, cur => by simp [pcs]
  | n + 1, [], cur => by simp [pcs]
  | n + 1, t :: r, cur => by
    unfold pcs
    cases ho : (t.1 == 10 || t.1 == 2) with
    | true =>
      simp only [cond_true]
      obtain ⟨e1, e2⟩ := ends_le (t :: r) [] 0
      simp only [List.length_cons] at e1
      have hz : ∀ z, z ≤ r.length + 1 → (pcs n ((t :: r).drop z) (cur ++ (t :: r).take z)).length ≤ (t :: r).length + 1 ∧ ∀ l ∈ pcs n ((t :: r).drop z) (cur ++ (t :: r).take z), l.length ≤ cur.length + (t :: r).length := by
        intro z hz
        obtain ⟨g1, g2⟩ := pcs_len n ((t :: r).drop z) (cur ++ (t :: r).take z)
        simp only [List.length_drop, List.length_append, List.length_take, List.length_cons] at g1 g2 ⊢
        refine ⟨by omega, fun l hl => ?_⟩
        have := g2 l hl
        omega
      cases ends [] 0 (t :: r) == 0 with
      | true => exact hz _ (Nat.le_refl _)
      | false => exact hz _ (by show ends [] 0 (t :: r) ≤ _; omega)
    | false =>
      simp only [cond_false]
      cases comT t with
      | true =>
        simp only [cond_true]
        obtain ⟨g1, g2⟩ := pcs_len n r []
        refine ⟨by simp only [List.length_cons]; omega, fun l hl => ?_⟩
        rcases List.mem_cons.1 hl with rfl | hl
        · omega
        · have := g2 l hl
          simp only [List.length_nil, List.length_cons] at this ⊢
          omega
      | false =>
        simp only [cond_false]
        obtain ⟨g1, g2⟩ := pcs_len n r (cur ++ [t])
        refine ⟨by simp only [List.length_cons]; omega, fun l hl => ?_⟩
        have := g2 l hl
        simp only [List.length_append, List.length_cons, List.length_nil] at this ⊢
        omega

theorem pcs_fit (n : Nat) (L : List Tk) (h : Fit L) : ∀ l ∈ pcs n L [], Fit l := by
  intro l hl
  have hlen := (pcs_len n L []).2 l hl
  have hl0 := h.len
  refine ⟨pcs_all n L [] h.ne (fun t ht => by cases ht) l hl, pcs_all n L [] h.sz (fun t ht => by cases ht) l hl, pcs_all n L [] h.va (fun t ht => by cases ht) l hl, pcs_all n L [] h.op (fun t ht => by cases ht) l hl, by simp at hlen; omega⟩

theorem Read_eq (k : Nat) (hk : 100001 < k) (s : List UInt8) : media_Read k s = some (readP s) := by
  unfold media_Read readP
  cases hd : decide ((s.length : Int) > 400) with
  | true => rfl
  | false =>
    have hs : s.length ≤ 400 := by have := of_decide_eq_false hd; omega
    simp only [cond_false]
    rw [Cut_eq k s (by omega) (by omega)]
    simp only [Option.bind_some]
    have hfc := Fit.cut s (by omega)
    rw [show toks s = (cutP s).map mk from rfl, solid_eq k hk _ hfc.len]
    simp only [Option.bind_some, List.length_map]
    have hfs : Fit (solP (cutP s)) := hfc.sub (solP_sub _)
    have he : (((solP (cutP s)).length : Int) == (0 : Int)) = (solP (cutP s)).isEmpty := by
      cases solP (cutP s) with
      | nil => rfl
      | cons a r => exact beq_eq_false_iff_ne.2 (by simp only [List.length_cons]; omega)
    rw [he]
    cases (solP (cutP s)).isEmpty with
    | true => rfl
    | false =>
      simp only [cond_false]
      rw [pieces_eq k hk _ hfs]
      simp only [Option.bind_some, List.length_map]
      have hpl := (pcs_len ((solP (cutP s)).length + 1) (solP (cutP s)) []).1
      have hl0 := hfs.len
      have := read_loop k hk (pcs ((solP (cutP s)).length + 1) (solP (cutP s)) []) (pcs_fit _ _ hfs) (by omega) (fun y => some ((0 : Int), y)) k 0 [] (by omega) (by omega) (by simp)
      simp only [List.nil_append, List.drop_zero] at this
      exact this

end Go.Ev.Md

-- from EvMdC
set_option linter.unusedVariables false
set_option linter.unusedSimpArgs false
namespace Go.Ev.Md
open Go Go.Ev.Tok

def sgnB (b : Bool) : Int := cond b 1 (-1)
structure Env where
  w : Int
  h : Int
  dark : Bool
  print : Bool

def soP (f : S38) (e : Env) : Int :=
  cond (f.Kind == 1) (sgnB true) <| cond (f.Kind == 2) (sgnB (!e.print)) <| cond (f.Kind == 3) (sgnB e.print) <| cond (f.Kind == 4) (sgnB (decide (e.w ≥ f.Num))) <| cond (f.Kind == 5) (sgnB (decide (e.w ≤ f.Num))) <|
  cond (f.Kind == 6) (sgnB (decide (e.h ≥ f.Num))) <| cond (f.Kind == 7) (sgnB (decide (e.h ≤ f.Num))) <| cond (f.Kind == 8) (sgnB e.dark) <| cond (f.Kind == 9) (sgnB (!e.dark)) <|
  cond (f.Kind == 10) (sgnB (decide (e.h ≥ e.w))) <| cond (f.Kind == 11) (sgnB (decide (e.h < e.w))) 0

theorem cond_push {α : Type} (b : Bool) (x y : α) : cond b (some x) (some y) = some (cond b x y) := by cases b <;> rfl

theorem so_eq (k : Nat) (f : S38) (e : Env) : media_so k f.Kind f.Num e.w e.h e.dark e.print = some (soP f e) := by
  have h52 : ∀ b, media_so.c52 k b = some (sgnB b) := fun b => by unfold media_so.c52 sgnB; cases b <;> rfl
  unfold media_so soP
  simp only [h52, cond_push]

theorem so_bd (f : S38) (e : Env) : soP f e = -1 ∨ soP f e = 0 ∨ soP f e = 1 := by
  have hs : ∀ b, sgnB b = -1 ∨ sgnB b = 1 := fun b => by cases b <;> simp [sgnB]
  have hc : ∀ (b : Bool) (c : Bool) (x : Int), (x = -1 ∨ x = 0 ∨ x = 1) → (cond b (sgnB c) x = -1 ∨ cond b (sgnB c) x = 0 ∨ cond b (sgnB c) x = 1) := by
    intro b c x hx
    cases b with
    | true => rcases hs c with h | h <;> simp [h]
    | false => exact hx
  unfold soP
  repeat' apply hc
  exact .inr (.inl rfl)

theorem so_zero (f : S38) (e : Env) (h : soP f e = 0) : ¬ (1 ≤ f.Kind ∧ f.Kind ≤ 11) := by
  have hs : ∀ b, sgnB b ≠ 0 := fun b => by cases b <;> simp [sgnB]
  intro hk
  have hc : ∀ (i : Int) (c : Bool) (x : Int), cond (f.Kind == i) (sgnB c) x = 0 → f.Kind ≠ i ∧ x = 0 := by
    intro i c x hx
    cases hb : f.Kind == i with
    | true => rw [hb] at hx; exact absurd hx (hs c)
    | false => rw [hb] at hx; exact ⟨fun e => by rw [e] at hb; simp at hb, hx⟩
  unfold soP at h
  obtain ⟨h1, h⟩ := hc _ _ _ h
  obtain ⟨h2, h⟩ := hc _ _ _ h
  obtain ⟨h3, h⟩ := hc _ _ _ h
  obtain ⟨h4, h⟩ := hc _ _ _ h
  obtain ⟨h5, h⟩ := hc _ _ _ h
  obtain ⟨h6, h⟩ := hc _ _ _ h
  obtain ⟨h7, h⟩ := hc _ _ _ h
  obtain ⟨h8, h⟩ := hc _ _ _ h
  obtain ⟨h9, h⟩ := hc _ _ _ h
  obtain ⟨h10, h⟩ := hc _ _ _ h
  obtain ⟨h11, h⟩ := hc _ _ _ h
  omega

def minP (e : Env) : List S38 → Int → Int
  | [], n => n
  | f :: r, n => minP e r (if soP f e < n then soP f e else n)
/-- Do all features hold? -/
def allP (q : S36) (e : Env) : Int := cond q.Not (0 - minP e q.Features 1) (minP e q.Features 1)

theorem min_bd (e : Env) : ∀ (l : List S38) (n : Int), -1 ≤ n → n ≤ 1 → -1 ≤ minP e l n ∧ minP e l n ≤ n
  | [], n, h1, h2 => ⟨h1, Int.le_refl _⟩
  | f :: r, n, h1, h2 => by
    unfold minP
    have hb := so_bd f e
    split
    · rename_i h
      have := min_bd e r (soP f e) (by omega) (by omega)
      exact ⟨this.1, by omega⟩
    · exact min_bd e r n h1 h2

theorem all_loop (k : Nat) (fs : List S38) (hl : fs.length ≤ 200000) (b : Bool) (e : Env) (K : Int → Bool → List S38 → Option Int) : ∀ (n i : Nat) (m : Int), i ≤ fs.length → fs.length - i < n →
    media_all.c7 k n m fs (fs.length : Int) (i : Int) b fs e.w e.h e.dark e.print K = K (minP e (fs.drop i) m) b fs
  | 0, i, m, _, h => by omega
  | n + 1, i, m, hi, hn => by
    unfold media_all.c7
    simp only [Int.toNat_natCast]
    rcases Nat.lt_or_ge i fs.length with h1 | h1
    · have hd : fs.drop i = fs[i] :: fs.drop (i + 1) := List.drop_eq_getElem_cons h1
      have hg : fs.getD i S38.d = fs[i] := by rw [List.getD_eq_getElem?_getD, List.getElem?_eq_getElem h1]; rfl
      have w1 : IntKind.wrap .i64 ((i : Int) + 1) = ((i + 1 : Nat) : Int) := by rw [wrap_i64 (by omega) (by omega)]; omega
      rw [cond_dec (by omega), cond_dec (by omega), hg, so_eq]
      simp only [Option.bind_some, w1]
      rw [all_loop k fs hl b e K n (i + 1) _ (by omega) (by omega), hd]
      rfl
    · have : i = fs.length := by omega
      subst this
      rw [cond_ndec (by omega), List.drop_length]
      rfl

theorem all_eq (k : Nat) (hk : 200001 < k) (q : S36) (hl : q.Features.length ≤ 200000) (e : Env) : media_all k q.Not q.Features e.w e.h e.dark e.print = some (allP q e) := by
  unfold media_all
  have := all_loop k q.Features hl q.Not e (fun (y19 : Int) (y20 : Bool) (y21 : List S38) => cond y20 (media_all.c18 k (IntKind.wrap .i64 (0 - y19))) (media_all.c18 k y19)) k 0 1 (by omega) (by omega)
  rw [List.drop_zero] at this
  refine Eq.trans this ?_
  have hb := min_bd e q.Features 1 (by decide) (by decide)
  unfold allP media_all.c18
  rw [wrap_i64 (by omega) (by omega)]
  cases q.Not <;> rfl

def badE (e : Env) : Bool := decide (e.w < 1) || decide (e.w > 4000) || decide (e.h < 1) || decide (e.h > 4000)

/-- What is told of a text and a screen. -/
def holdsP (s : List UInt8) (e : Env) : Bool × Int :=
  bif (readP s).1 != 0 then (false, (readP s).1) else bif badE e then (false, 1) else ((readP s).2.any fun q => allP q e == 1, 0)

theorem holds_loop (k : Nat) (hk : 200001 < k) (l : List S36) (hl : l.length ≤ 200000) (hf : ∀ q ∈ l, q.Features.length ≤ 200000) (e : Env) : ∀ (n i : Nat), i ≤ l.length → l.length - i < n →
    media_Holds.c15 k n (l.length : Int) (i : Int) e.w e.h e.dark e.print l (some (false, (0 : Int))) = some ((l.drop i).any (fun q => allP q e == 1), 0)
  | 0, i, _, h => by omega
  | n + 1, i, hi, hn => by
    unfold media_Holds.c15
    simp only [Int.toNat_natCast]
    rcases Nat.lt_or_ge i l.length with h1 | h1
    · have hd : l.drop i = l[i] :: l.drop (i + 1) := List.drop_eq_getElem_cons h1
      have hg : l.getD i S36.d = l[i] := by rw [List.getD_eq_getElem?_getD, List.getElem?_eq_getElem h1]; rfl
      have w1 : IntKind.wrap .i64 ((i : Int) + 1) = ((i + 1 : Nat) : Int) := by rw [wrap_i64 (by omega) (by omega)]; omega
      rw [cond_dec (by omega), cond_dec (by omega), hg, all_eq k hk _ (hf _ (List.getElem_mem h1))]
      simp only [Option.bind_some, w1]
      rw [hd, List.any_cons]
      cases allP l[i] e == 1 with
      | true => rfl
      | false =>
        simp only [cond_false, Bool.false_or]
        exact holds_loop k hk l hl hf e n (i + 1) (by omega) (by omega)
    · have : i = l.length := by omega
      subst this
      rw [cond_ndec (by omega), List.drop_length]
      rfl

theorem Holds_eq (k : Nat) (hk : 200001 < k) (s : List UInt8) (e : Env) (hl : (readP s).2.length ≤ 200000) (hf : ∀ q ∈ (readP s).2, q.Features.length ≤ 200000) : media_Holds k s e.w e.h e.dark e.print = some (holdsP s e) := by
  unfold media_Holds holdsP
  rw [Read_eq k (by omega)]
  simp only [Option.bind_some]
  cases (readP s).1 != 0 with
  | true => rfl
  | false =>
    simp only [cond_false]
    have hb : (cond (cond (cond (decide (e.w < (1 : Int))) true (decide (e.w > (4000 : Int)))) true (decide (e.h < (1 : Int)))) true (decide (e.h > (4000 : Int)))) = badE e := by
      unfold badE
      cases decide (e.w < (1 : Int)) <;> cases decide (e.w > (4000 : Int)) <;> cases decide (e.h < (1 : Int)) <;> rfl
    rw [hb]
    cases badE e with
    | true => rfl
    | false =>
      simp only [cond_false]
      have := holds_loop k hk _ hl hf e k 0 (by omega) (by omega)
      rw [List.drop_zero] at this
      exact this

/-- Texts with one between. -/
def joinP (sep : List UInt8) : List (List UInt8) → List UInt8
  | [] => []
  | x :: r => x ++ (r.map fun y => sep ++ y).flatten

def sumL (l : List (List UInt8)) : Nat := (l.map List.length).sum

theorem sumL_cons (x : List UInt8) (l : List (List UInt8)) : sumL (x :: l) = x.length + sumL l := by simp [sumL]

theorem join_sum (k : Nat) (L : List (List UInt8)) (sep : List UInt8) (hl : L.length ≤ 100000) (K : List (List UInt8) → List UInt8 → Int → Option (Bool × (List UInt8) × (List UInt8))) : ∀ (n i a : Nat), i ≤ L.length → L.length - i < n →
    a + sumL (L.drop i) ≤ 1000000000000 →
    strings_Join_v2.c25 k n L sep (a : Int) L (L.length : Int) (i : Int) K = K L sep ((a + sumL (L.drop i) : Nat) : Int)
  | 0, i, a, _, h, _ => by omega
  | n + 1, i, a, hi, hn, hm => by
    unfold strings_Join_v2.c25
    simp only [Int.toNat_natCast]
    rcases Nat.lt_or_ge i L.length with h1 | h1
    · have hd : L.drop i = L[i] :: L.drop (i + 1) := List.drop_eq_getElem_cons h1
      have hg : L.getD i [] = L[i] := by rw [List.getD_eq_getElem?_getD, List.getElem?_eq_getElem h1]; rfl
      have w1 : IntKind.wrap .i64 ((i : Int) + 1) = ((i + 1 : Nat) : Int) := by rw [wrap_i64 (by omega) (by omega)]; omega
      rw [hd, sumL_cons] at hm
      have w2 : IntKind.wrap .i64 ((9223372036854775807 : Int) - (a : Int)) = 9223372036854775807 - (a : Int) := wrap_i64 (by omega) (by omega)
      have w3 : IntKind.wrap .i64 ((a : Int) + (L[i].length : Int)) = ((a + L[i].length : Nat) : Int) := by rw [wrap_i64 (by omega) (by omega)]; omega
      rw [cond_dec (by omega), cond_dec (by omega)]
      simp only [hg, w2]
      rw [cond_ndec (by omega)]
      unfold strings_Join_v2.c32
      simp only [w3, w1]
      rw [join_sum k L sep hl K n (i + 1) (a + L[i].length) (by omega) (by omega) (by omega), hd, sumL_cons, Nat.add_assoc]
    · have : i = L.length := by omega
      subst this
      rw [cond_ndec (by omega), List.drop_length]
      rfl

theorem join_put (k : Nat) (L : List (List UInt8)) (sep : List UInt8) (hl : L.length ≤ 100000) (hs : sep.length ≤ 100) (K : List UInt8 → Option (Bool × (List UInt8) × (List UInt8))) : ∀ (n i : Nat) (acc : List UInt8), i ≤ L.length → L.length - i < n →
    acc.length + sumL (L.drop i) + 100 * (L.length - i) ≤ 10000000000000 →
    strings_Join_v2.c45 k n sep L (L.length : Int) (i : Int) acc K = K (acc ++ ((L.drop i).map fun y => sep ++ y).flatten)
  | 0, i, a, _, h, _ => by omega
  | n + 1, i, acc, hi, hn, hm => by
    unfold strings_Join_v2.c45
    simp only [Int.toNat_natCast]
    rcases Nat.lt_or_ge i L.length with h1 | h1
    · have hd : L.drop i = L[i] :: L.drop (i + 1) := List.drop_eq_getElem_cons h1
      have hg : L.getD i [] = L[i] := by rw [List.getD_eq_getElem?_getD, List.getElem?_eq_getElem h1]; rfl
      have w1 : IntKind.wrap .i64 ((i : Int) + 1) = ((i + 1 : Nat) : Int) := by rw [wrap_i64 (by omega) (by omega)]; omega
      rw [hd, sumL_cons] at hm
      rw [cond_dec (by omega), cond_dec (by omega)]
      simp only [hg, w1]
      have e1 : f__strings_Builder__WriteString k sep acc = some ((sep.length : Int), acc ++ sep) := by
        unfold f__strings_Builder__WriteString; rw [wStr_ok acc sep (by unfold blMax; omega)]; rfl
      have e2 : f__strings_Builder__WriteString k L[i] (acc ++ sep) = some ((L[i].length : Int), acc ++ sep ++ L[i]) := by
        unfold f__strings_Builder__WriteString; rw [wStr_ok (acc ++ sep) L[i] (by unfold blMax; rw [List.length_append]; omega)]; rfl
      rw [e1]
      simp only [Option.bind_some]
      rw [e2]
      simp only [Option.bind_some]
      rw [join_put k L sep hl hs K n (i + 1) (acc ++ sep ++ L[i]) (by omega) (by omega) (by simp only [List.length_append]; omega), hd]
      simp only [List.map_cons, List.flatten_cons, List.append_assoc]
    · have : i = L.length := by omega
      subst this
      rw [cond_ndec (by omega), List.drop_length]
      simp

theorem Join_eq (k : Nat) (hk : 100001 < k) (L : List (List UInt8)) (sep : List UInt8) (hl : L.length ≤ 100000) (hs : 0 < sep.length ∧ sep.length ≤ 100) (hm : sumL L ≤ 100000000000) : strings_Join_v2 k L sep = some (false, [], joinP sep L) := by
  unfold strings_Join_v2
  match L, hl, hm with
  | [], _, _ => rfl
  | [x], _, _ =>
    have : joinP sep [x] = x := by unfold joinP; simp
    rw [this]
    rfl
  | x :: y :: r, hl, hm =>
    have e0 : (((x :: y :: r).length : Int) == (0 : Int)) = false := beq_eq_false_iff_ne.2 (by simp only [List.length_cons]; omega)
    have e1 : (((x :: y :: r).length : Int) == (1 : Int)) = false := beq_eq_false_iff_ne.2 (by simp only [List.length_cons]; omega)
    have e2 : decide ((sep.length : Int) > (0 : Int)) = true := decide_eq_true (by omega)
    have w6 : IntKind.wrap .i64 (((x :: y :: r).length : Int) - 1) = ((r.length + 1 : Nat) : Int) := by
      rw [wrap_i64 (by simp only [List.length_cons]; omega) (by simp only [List.length_cons] at hl ⊢; omega)]; simp only [List.length_cons]; omega
    simp only [List.length_cons] at hl
    have e3 : (((r.length + 1 : Nat) : Int) != 0) = true := by rw [bne_iff_ne]; omega
    have hdiv : Int.tdiv (9223372036854775807 : Int) ((r.length + 1 : Nat) : Int) = ((9223372036854775807 / (r.length + 1) : Nat) : Int) := rfl
    have hge : 1000 ≤ 9223372036854775807 / (r.length + 1) := by
      rw [Nat.le_div_iff_mul_le (by omega)]
      omega
    have hle : 9223372036854775807 / (r.length + 1) ≤ 9223372036854775807 := Nat.div_le_self _ _
    have w7 : IntKind.wrap .i64 (Int.tdiv (9223372036854775807 : Int) ((r.length + 1 : Nat) : Int)) = ((9223372036854775807 / (r.length + 1) : Nat) : Int) := by
      rw [hdiv, wrap_i64 (by omega) (by omega)]
    simp only [e0, e1, e2, w6, e3, w7, cond_true, cond_false]
    rw [cond_ndec (by omega)]
    unfold strings_Join_v2.c20
    simp only [w6]
    have hmul : (sep.length : Int) * ((r.length + 1 : Nat) : Int) = ((sep.length * (r.length + 1) : Nat) : Int) := by rw [Int.natCast_mul]
    have hb : sep.length * (r.length + 1) ≤ 100 * 100000 := Nat.mul_le_mul hs.2 (by omega)
    have w8 : IntKind.wrap .i64 ((sep.length : Int) * ((r.length + 1 : Nat) : Int)) = ((sep.length * (r.length + 1) : Nat) : Int) := by rw [hmul, wrap_i64 (by omega) (by omega)]
    have w9 : IntKind.wrap .i64 ((0 : Int) + ((sep.length * (r.length + 1) : Nat) : Int)) = ((sep.length * (r.length + 1) : Nat) : Int) := by rw [wrap_i64 (by omega) (by omega)]; omega
    simp only [w8, w9]
    unfold strings_Join_v2.c22
    generalize sep.length * (r.length + 1) = a at *
    rw [show (0 : Int) = ((0 : Nat) : Int) from rfl, join_sum k (x :: y :: r) sep (by simpa using hl) _ k 0 a (by omega) (by simp only [List.length_cons]; omega) (by rw [List.drop_zero]; omega)]
    rw [List.drop_zero]
    have eg : f__strings_Builder__Grow k ((a + sumL (x :: y :: r) : Nat) : Int) ([] : List UInt8) = some [] := by
      unfold f__strings_Builder__Grow growS
      rw [show (([] : List UInt8) == []) = true from rfl, show (decide (0 ≤ ((a + sumL (x :: y :: r) : Nat) : Int) ∧ ((a + sumL (x :: y :: r) : Nat) : Int) ≤ 70368744177664)) = true from decide_eq_true (by omega)]
      rfl
    rw [eg]
    simp only [Option.bind_some]
    rw [sumL_cons, sumL_cons] at hm
    rw [show ((0 : Nat) : Int) = (0 : Int) from rfl]
    have hg0 : (x :: y :: r).getD ((0 : Int).toNat) [] = x := rfl
    have ew : f__strings_Builder__WriteString k x ([] : List UInt8) = some ((x.length : Int), x) := by
      unfold f__strings_Builder__WriteString; rw [wStr_ok [] x (by unfold blMax; simp; omega)]; rfl
    have d0 : decide (0 ≤ (0 : Int) ∧ (0 : Int) < (((x :: y :: r).length : Nat) : Int)) = true := decide_eq_true (by simp only [List.length_cons]; omega)
    have d1 : decide (0 ≤ (1 : Int) ∧ (1 : Int) ≤ (((x :: y :: r).length : Nat) : Int)) = true := decide_eq_true (by simp only [List.length_cons]; omega)
    have hdr : (x :: y :: r).drop (1 : Int).toNat = y :: r := rfl
    simp only [d0, d1, hg0, hdr, cond_true]
    rw [ew]
    simp only [Option.bind_some]
    have := join_put k (y :: r) sep (by simp only [List.length_cons]; omega) hs.2 (fun (y59 : List UInt8) => (f__strings_Builder__String k y59).bind fun r60 => some (false, [], r60.1)) k 0 x (by omega) (by simp only [List.length_cons]; omega)
      (by rw [List.drop_zero, sumL_cons]; simp only [List.length_cons]; omega)
    rw [List.drop_zero] at this
    exact this

/-- The words of features that are asked with a colon. -/
def colW (n : Int) : List UInt8 :=
  bif n == 8 then [112, 114, 101, 102, 101, 114, 115, 45, 99, 111, 108, 111, 114, 45, 115, 99, 104, 101, 109, 101, 58, 32, 100, 97, 114, 107]
  else bif n == 9 then [112, 114, 101, 102, 101, 114, 115, 45, 99, 111, 108, 111, 114, 45, 115, 99, 104, 101, 109, 101, 58, 32, 108, 105, 103, 104, 116]
  else bif n == 10 then [111, 114, 105, 101, 110, 116, 97, 116, 105, 111, 110, 58, 32, 112, 111, 114, 116, 114, 97, 105, 116]
  else [111, 114, 105, 101, 110, 116, 97, 116, 105, 111, 110, 58, 32, 108, 97, 110, 100, 115, 99, 97, 112, 101]

/-- A feature's text. -/
def ftext (f : S38) : List UInt8 :=
  bif decide (1 ≤ f.Kind) && decide (f.Kind ≤ 3) then wordsL.getD f.Kind.toNat []
  else bif decide (4 ≤ f.Kind) && decide (f.Kind ≤ 7) then [40] ++ wordsL.getD f.Kind.toNat [] ++ [58, 32] ++ Lib.itoa f.Num ++ [112, 120, 41]
  else bif decide (8 ≤ f.Kind) && decide (f.Kind ≤ 11) then [40] ++ colW f.Kind ++ [41]
  else [40, 63, 41]

def K0 : Nat := 300011

theorem rep8 : strings_Replace 300011 g0_8 [58] [58, 32] 1 = some (colW 8) := by kernel_rfl
theorem rep9 : strings_Replace 300011 g0_9 [58] [58, 32] 1 = some (colW 9) := by kernel_rfl
theorem rep10 : strings_Replace 300011 g0_10 [58] [58, 32] 1 = some (colW 10) := by kernel_rfl
theorem rep11 : strings_Replace 300011 g0_11 [58] [58, 32] 1 = some (colW 11) := by kernel_rfl

end Go.Ev.Md

-- from EvMdD
set_option linter.unusedVariables false
set_option linter.unusedSimpArgs false
namespace Go.Ev.Md
open Go Go.Ev.Tok

/-- Features that are read. -/
def GoodF (f : S38) : Prop :=
  (f.Num = 0 ∧ (f.Kind = 1 ∨ f.Kind = 2 ∨ f.Kind = 3 ∨ f.Kind = 8 ∨ f.Kind = 9 ∨ f.Kind = 10 ∨ f.Kind = 11 ∨ f.Kind = 12)) ∨ (0 ≤ f.Num ∧ f.Num ≤ 1000000 ∧ (f.Kind = 4 ∨ f.Kind = 5 ∨ f.Kind = 6 ∨ f.Kind = 7))

theorem nd_le : ∀ (m u : Nat), u < 10 ^ (m + 1) → Lib.nDigits u ≤ m + 1
  | 0, u, h => by rw [Lib.nDigits]; rw [dif_pos (by simpa using h)]; exact Nat.le_refl _
  | m + 1, u, h => by
    rw [Lib.nDigits]
    split
    · omega
    · have := nd_le m (u / 10) (by rw [Nat.div_lt_iff_lt_mul (by decide)]; rw [Nat.pow_succ] at h; exact h)
      omega

theorem itoa_le (n : Int) (h0 : 0 ≤ n) (h1 : n ≤ 1000000) : Lib.itoa n = Lib.decDigits n.toNat ∧ (Lib.decDigits n.toNat).length ≤ 7 := by
  refine ⟨by unfold Lib.itoa; rw [if_neg (by omega)], ?_⟩
  rw [Lib.decDigits_length]
  exact nd_le 6 _ (by omega)

theorem g_all : (wordsL.all fun w => Nat.ble w.length 40) = true := by decide +kernel
theorem word_bd (i : Nat) : (wordsL.getD i []).length ≤ 40 := by
  rw [List.getD_eq_getElem?_getD]
  rcases Nat.lt_or_ge i wordsL.length with h | h
  · rw [List.getElem?_eq_getElem h]
    exact Nat.le_of_ble_eq_true (List.all_eq_true.1 g_all _ (List.getElem_mem h))
  · rw [List.getElem?_eq_none h]; exact Nat.zero_le _

theorem col_bd (n : Int) : (colW n).length ≤ 40 := by
  unfold colW
  cases n == 8 <;> cases n == 9 <;> cases n == 10 <;> decide

theorem ftext_eq (f : S38) (h : GoodF f) : media_featureText 300011 f.Kind f.Num = some (ftext f) ∧ (ftext f).length ≤ 100 := by
  obtain ⟨kd, num⟩ := f
  rcases h with ⟨h0, h1⟩ | ⟨h0, h1, h2⟩
  · simp only at h0 h1
    subst h0
    rcases h1 with rfl | rfl | rfl | rfl | rfl | rfl | rfl | rfl
    · exact ⟨by kernel_rfl, by decide +kernel⟩
    · exact ⟨by kernel_rfl, by decide +kernel⟩
    · exact ⟨by kernel_rfl, by decide +kernel⟩
    · exact ⟨by kernel_rfl, by decide +kernel⟩
    · exact ⟨by kernel_rfl, by decide +kernel⟩
    · exact ⟨by kernel_rfl, by decide +kernel⟩
    · exact ⟨by kernel_rfl, by decide +kernel⟩
    · exact ⟨by kernel_rfl, by decide +kernel⟩
  · simp only at h0 h1 h2
    have hk : 4 ≤ kd ∧ kd ≤ 7 := by omega
    obtain ⟨hi1, hi2⟩ := itoa_le num h0 h1
    have hw := word_bd kd.toNat
    have e1 : (decide (1 ≤ kd) && decide (kd ≤ 3)) = false := by rw [decide_eq_false (show ¬ kd ≤ 3 by omega)]; simp
    have e1' : (cond (decide (kd ≥ 1)) (decide (kd ≤ 3)) false) = false := by rw [decide_eq_true (show kd ≥ 1 by omega), decide_eq_false (show ¬ kd ≤ 3 by omega)]; rfl
    have e2 : (decide (4 ≤ kd) && decide (kd ≤ 7)) = true := by rw [decide_eq_true hk.1, decide_eq_true hk.2]; rfl
    have e2' : (cond (decide (kd ≥ 4)) (decide (kd ≤ 7)) false) = true := by rw [decide_eq_true (show kd ≥ 4 from hk.1), decide_eq_true hk.2]; rfl
    have hft : ftext ⟨kd, num⟩ = [40] ++ wordsL.getD kd.toNat [] ++ [58, 32] ++ Lib.itoa num ++ [112, 120, 41] := by
      unfold ftext
      simp only [e1, e2, cond_true, cond_false]
    refine ⟨?_, by rw [hft, hi1]; simp only [List.length_append, List.length_cons, List.length_nil]; omega⟩
    rw [hft]
    unfold media_featureText
    simp only [e1', e2', cond_true, cond_false]
    rw [cond_dec (show 0 ≤ kd ∧ kd < ((12 : Nat) : Int) by omega)]
    have hg : ([g0_0, g0_1, g0_2, g0_3, g0_4, g0_5, g0_6, g0_7, g0_8, g0_9, g0_10, g0_11] : List (List UInt8)).getD kd.toNat [] = wordsL.getD kd.toNat [] := rfl
    rw [hg]
    generalize wordsL.getD kd.toNat [] = W at *
    have b1 : Nat.ble (([40] : List UInt8).length + W.length) 9223372036854775807 = true := Nat.ble_eq_true_of_le (by simp only [List.length_cons, List.length_nil]; omega)
    have b2 : Nat.ble ((([40] : List UInt8) ++ W).length + ([58, 32] : List UInt8).length) 9223372036854775807 = true := Nat.ble_eq_true_of_le (by simp only [List.length_append, List.length_cons, List.length_nil]; omega)
    have hit : strconv_Itoa 300011 num = some (Lib.itoa num) := by
      unfold strconv_Itoa itoaS
      rw [cond_dec (by omega)]
    rw [hit, hi1]
    have b3 : Nat.ble (((([40] : List UInt8) ++ W) ++ [58, 32]).length + (Lib.decDigits num.toNat).length) 9223372036854775807 = true := Nat.ble_eq_true_of_le (by simp only [List.length_append, List.length_cons, List.length_nil]; omega)
    have b4 : Nat.ble ((((([40] : List UInt8) ++ W) ++ [58, 32]) ++ Lib.decDigits num.toNat).length + ([112, 120, 41] : List UInt8).length) 9223372036854775807 = true := Nat.ble_eq_true_of_le (by simp only [List.length_append, List.length_cons, List.length_nil]; omega)
    simp only [Option.bind_some, b1, b2, b3, b4, cond_true]

def AND_ : List UInt8 := [32, 97, 110, 100, 32]
def COM_ : List UInt8 := [44, 32]
def NOT_ : List UInt8 := [110, 111, 116, 32]

def ftexts (l : List S38) : List (List UInt8) := l.map ftext
/-- A query's text. -/
def qtext (q : S36) : List UInt8 := bif q.Not then NOT_ ++ joinP AND_ (ftexts q.Features) else joinP AND_ (ftexts q.Features)
def qtexts (l : List S36) : List (List UInt8) := l.map qtext
def textP (l : List S36) : List UInt8 := joinP COM_ (qtexts l)

def GoodQ (q : S36) : Prop := q.Features ≠ [] ∧ q.Features.length ≤ 1000 ∧ ∀ f ∈ q.Features, GoodF f
def GoodL (l : List S36) : Prop := l ≠ [] ∧ l.length ≤ 1000 ∧ ∀ q ∈ l, GoodQ q

theorem sum_bd (b : Nat) : ∀ (l : List (List UInt8)), (∀ x ∈ l, x.length ≤ b) → sumL l ≤ l.length * b
  | [], _ => by simp [sumL]
  | x :: r, h => by
    have := sum_bd b r (fun y hy => h y (by simp [hy]))
    have h1 := h x (by simp)
    rw [sumL_cons, List.length_cons, Nat.succ_mul]
    omega

theorem join_bd (sep : List UInt8) (l : List (List UInt8)) : (joinP sep l).length ≤ sumL l + l.length * sep.length := by
  match l with
  | [] => simp [joinP]
  | x :: r =>
    unfold joinP
    have : ∀ r : List (List UInt8), ((r.map fun y => sep ++ y).flatten).length = sumL r + r.length * sep.length := by
      intro r
      induction r with
      | nil => simp [sumL]
      | cons a b ih => rw [List.map_cons, List.flatten_cons, List.length_append, ih, sumL_cons, List.length_append, List.length_cons, Nat.succ_mul]; omega
    rw [List.length_append, this, sumL_cons, List.length_cons, Nat.succ_mul]
    omega

theorem ftexts_bd (q : S36) (h : GoodQ q) : sumL (ftexts q.Features) ≤ 100000 ∧ (ftexts q.Features).length = q.Features.length ∧ (qtext q).length ≤ 200000 := by
  have h1 : sumL (ftexts q.Features) ≤ 100000 := by
    have := sum_bd 100 (ftexts q.Features) (by
      intro x hx
      obtain ⟨f, hf, rfl⟩ := List.mem_map.1 hx
      exact (ftext_eq f (h.2.2 f hf)).2)
    rw [ftexts, List.length_map] at this
    have := h.2.1
    unfold ftexts
    omega
  have hl : (ftexts q.Features).length = q.Features.length := List.length_map _
  refine ⟨h1, hl, ?_⟩
  have hj := join_bd AND_ (ftexts q.Features)
  have h5 : AND_.length = 5 := rfl
  rw [h5] at hj
  have := h.2.1
  unfold qtext
  cases q.Not with
  | true => simp only [cond_true, List.length_append]; have : NOT_.length = 4 := rfl; omega
  | false => simp only [cond_false]; omega

theorem feats_loop (L : List S36) (a b : Int) (out : List (List UInt8)) (nt : Bool) (fs : List S38) (hl : fs.length ≤ 1000) (hf : ∀ f ∈ fs, GoodF f)
    (K : List S36 → Int → Int → List (List UInt8) → Bool → List S38 → List (List UInt8) → Option (Bool × (List UInt8) × (List UInt8))) : ∀ (n i : Nat) (acc : List (List UInt8)), i ≤ fs.length → fs.length - i < n → acc.length ≤ i →
    media_Text.c15 300011 n L a b fs (fs.length : Int) (i : Int) out nt fs acc K = K L a b out nt fs (acc ++ ftexts (fs.drop i))
  | 0, i, _, _, h, _ => by omega
  | n + 1, i, acc, hi, hn, ha => by
    unfold media_Text.c15
    simp only [Int.toNat_natCast]
    rcases Nat.lt_or_ge i fs.length with h1 | h1
    · have hd : fs.drop i = fs[i] :: fs.drop (i + 1) := List.drop_eq_getElem_cons h1
      have hg : fs.getD i S38.d = fs[i] := by rw [List.getD_eq_getElem?_getD, List.getElem?_eq_getElem h1]; rfl
      have w1 : IntKind.wrap .i64 ((i : Int) + 1) = ((i + 1 : Nat) : Int) := by rw [wrap_i64 (by omega) (by omega)]; omega
      rw [cond_dec (by omega), cond_dec (by omega), hg, (ftext_eq _ (hf _ (List.getElem_mem h1))).1]
      simp only [Option.bind_some, w1]
      rw [cond_dec (by simp only [List.length_append, List.length_cons, List.length_nil, most]; omega)]
      rw [feats_loop L a b out nt fs hl hf K n (i + 1) _ (by omega) (by omega) (by simp only [List.length_append, List.length_cons, List.length_nil]; omega), hd]
      unfold ftexts
      rw [List.map_cons, List.append_assoc]
      rfl
    · have : i = fs.length := by omega
      subst this
      rw [cond_ndec (by omega), List.drop_length]
      show _ = K L a b out nt fs (acc ++ [])
      rw [List.append_nil]

theorem texts_loop (L : List S36) (hl : L.length ≤ 1000) (hq : ∀ q ∈ L, GoodQ q) (K : List (List UInt8) → Option (Bool × (List UInt8) × (List UInt8))) : ∀ (n i : Nat) (acc : List (List UInt8)), i ≤ L.length → L.length - i < n → acc.length ≤ i →
    media_Text.c7 300011 n L (L.length : Int) (i : Int) acc K = K (acc ++ qtexts (L.drop i))
  | 0, i, _, _, h, _ => by omega
  | n + 1, i, acc, hi, hn, ha => by
    unfold media_Text.c7
    simp only [Int.toNat_natCast]
    rcases Nat.lt_or_ge i L.length with h1 | h1
    · have hd : L.drop i = L[i] :: L.drop (i + 1) := List.drop_eq_getElem_cons h1
      have hg : L.getD i S36.d = L[i] := by rw [List.getD_eq_getElem?_getD, List.getElem?_eq_getElem h1]; rfl
      have w1 : IntKind.wrap .i64 ((i : Int) + 1) = ((i + 1 : Nat) : Int) := by rw [wrap_i64 (by omega) (by omega)]; omega
      have hgq := hq _ (List.getElem_mem h1)
      obtain ⟨b1, b2, b3⟩ := ftexts_bd _ hgq
      rw [cond_dec (by omega), cond_dec (by omega), hg]
      rw [show media_Text.c15 300011 300011 L (L.length : Int) (i : Int) L[i].Features (L[i].Features.length : Int) (0 : Int) acc L[i].Not L[i].Features ([] : List (List UInt8)) =
        media_Text.c15 300011 300011 L (L.length : Int) (i : Int) L[i].Features (L[i].Features.length : Int) ((0 : Nat) : Int) acc L[i].Not L[i].Features ([] : List (List UInt8)) from rfl]
      have hfl := hgq.2.1
      rw [feats_loop L _ _ acc L[i].Not L[i].Features hfl hgq.2.2 _ 300011 0 [] (by omega) (by omega) (by simp), List.drop_zero, List.nil_append]
      have hj : strings_Join_v2 300011 (ftexts L[i].Features) ([32, 97, 110, 100, 32] : List UInt8) = some (false, [], joinP AND_ (ftexts L[i].Features)) :=
        Join_eq 300011 (by decide) _ AND_ (by omega) ⟨by decide, by decide⟩ (by omega)
      rw [hj]
      simp only [Option.bind_some, cond_false]
      have fin : ∀ x : List UInt8, x = qtext L[i] → media_Text.c28 300011 x L (L.length : Int) (i : Int) acc (fun (y34 : List S36) (y35 : Int) (y36 : Int) (y37 : List (List UInt8)) =>
          media_Text.c7 300011 n y34 y35 (IntKind.wrap .i64 (y36 + (1 : Int))) y37 K) = K (acc ++ qtexts (L[i] :: L.drop (i + 1))) := by
        intro x hx
        unfold media_Text.c28
        rw [cond_dec (by simp only [List.length_append, List.length_cons, List.length_nil, most]; omega)]
        simp only [w1]
        rw [texts_loop L hl hq K n (i + 1) _ (by omega) (by omega) (by simp only [List.length_append, List.length_cons, List.length_nil]; omega), hx]
        unfold qtexts
        rw [List.map_cons, List.append_assoc]
        rfl
      rw [hd]
      have hqt : qtext L[i] = bif L[i].Not then NOT_ ++ joinP AND_ (ftexts L[i].Features) else joinP AND_ (ftexts L[i].Features) := rfl
      cases hn' : L[i].Not with
      | true =>
        rw [hn', cond_true] at hqt
        have b4 : Nat.ble (([110, 111, 116, 32] : List UInt8).length + (joinP AND_ (ftexts L[i].Features)).length) 9223372036854775807 = true := by
          refine Nat.ble_eq_true_of_le ?_
          have : (qtext L[i]).length = NOT_.length + (joinP AND_ (ftexts L[i].Features)).length := by rw [hqt, List.length_append]
          have h4 : NOT_.length = 4 := rfl
          simp only [List.length_cons, List.length_nil]
          omega
        simp only [b4, cond_true]
        exact fin _ hqt.symm
      | false =>
        rw [hn', cond_false] at hqt
        simp only [cond_false]
        exact fin _ hqt.symm
    · have : i = L.length := by omega
      subst this
      rw [cond_ndec (by omega), List.drop_length]
      show _ = K (acc ++ [])
      rw [List.append_nil]

theorem text_bd (L : List S36) (h : GoodL L) : sumL (qtexts L) ≤ 200000000 ∧ (textP L).length ≤ 300000000 := by
  have h1 : sumL (qtexts L) ≤ 200000000 := by
    have := sum_bd 200000 (qtexts L) (by
      intro x hx
      obtain ⟨q, hq, rfl⟩ := List.mem_map.1 hx
      exact (ftexts_bd q (h.2.2 q hq)).2.2)
    rw [qtexts, List.length_map] at this
    have := h.2.1
    unfold qtexts
    omega
  refine ⟨h1, ?_⟩
  have hj := join_bd COM_ (qtexts L)
  have h2 : COM_.length = 2 := rfl
  rw [h2] at hj
  have hl : (qtexts L).length = L.length := List.length_map _
  have := h.2.1
  unfold textP
  omega

theorem Text_eq (L : List S36) (h : GoodL L) : media_Text 300011 L = some (false, [], textP L) := by
  obtain ⟨b1, b2⟩ := text_bd L h
  unfold media_Text
  rw [show media_Text.c7 300011 300011 L (L.length : Int) (0 : Int) ([] : List (List UInt8)) = media_Text.c7 300011 300011 L (L.length : Int) ((0 : Nat) : Int) ([] : List (List UInt8)) from rfl]
  have := h.2.1
  rw [texts_loop L h.2.1 h.2.2 _ 300011 0 [] (by omega) (by omega) (by simp), List.drop_zero, List.nil_append]
  have hj : strings_Join_v2 300011 (qtexts L) ([44, 32] : List UInt8) = some (false, [], joinP COM_ (qtexts L)) :=
    Join_eq 300011 (by decide) _ COM_ (by unfold qtexts; rw [List.length_map]; omega) ⟨by decide, by decide⟩ (by omega)
  rw [hj]
  rfl

theorem same_feats (k : Nat) (l : List S36) (hl : l.length ≤ 100000) (i : Nat) (h1 : i < l.length) (hf : l[i].Features.length ≤ 100000) (K : List S36 → List S36 → Int → Option Bool) : ∀ (n j : Nat), j ≤ l[i].Features.length → l[i].Features.length - j < n →
    clerestorykeep2_sameQueries.c19 k n l l (i : Int) (j : Int) K = K l l (i : Int)
  | 0, j, _, h => by omega
  | n + 1, j, hj, hn => by
    unfold clerestorykeep2_sameQueries.c19
    simp only [Int.toNat_natCast]
    have hg : l.getD i S36.d = l[i] := by rw [List.getD_eq_getElem?_getD, List.getElem?_eq_getElem h1]; rfl
    rw [cond_dec (by omega)]
    simp only [hg]
    rcases Nat.lt_or_ge j l[i].Features.length with h2 | h2
    · have w1 : IntKind.wrap .i64 ((j : Int) + 1) = ((j + 1 : Nat) : Int) := by rw [wrap_i64 (by omega) (by omega)]; omega
      rw [cond_dec (by omega), cond_dec (by omega), cond_dec (by omega), cond_dec (by omega), cond_dec (by omega)]
      have e : ∀ a b : Int, (!((a == a) && ((b == b) && true))) = false := by intro a b; simp
      rw [e]
      simp only [cond_false, w1]
      exact same_feats k l hl i h1 hf K n (j + 1) (by omega) (by omega)
    · rw [cond_ndec (by omega)]

theorem same_loop (k : Nat) (hk : 100001 < k) (l : List S36) (hl : l.length ≤ 100000) (hf : ∀ q ∈ l, q.Features.length ≤ 100000) : ∀ (n i : Nat), i ≤ l.length → l.length - i < n → clerestorykeep2_sameQueries.c9 k n l l (i : Int) (some true) = some true
  | 0, i, _, h => by omega
  | n + 1, i, hi, hn => by
    unfold clerestorykeep2_sameQueries.c9
    simp only [Int.toNat_natCast]
    rcases Nat.lt_or_ge i l.length with h1 | h1
    · have hg : l.getD i S36.d = l[i] := by rw [List.getD_eq_getElem?_getD, List.getElem?_eq_getElem h1]; rfl
      have w1 : IntKind.wrap .i64 ((i : Int) + 1) = ((i + 1 : Nat) : Int) := by rw [wrap_i64 (by omega) (by omega)]; omega
      have hfl := hf _ (List.getElem_mem h1)
      have d1 : decide ((i : Int) < (l.length : Int)) = true := decide_eq_true (by omega)
      have d2 : decide (0 ≤ (i : Int) ∧ (i : Int) < (l.length : Int)) = true := decide_eq_true (by omega)
      simp only [d1, d2, hg, cond_true, Bool.true_or]
      have e1 : (!(l[i].Not == l[i].Not)) = false := by simp
      have e2 : ((l[i].Features.length : Int) != (l[i].Features.length : Int)) = false := by simp
      rw [e1, e2]
      simp only [cond_false]
      rw [show clerestorykeep2_sameQueries.c19 k k l l (i : Int) (0 : Int) = clerestorykeep2_sameQueries.c19 k k l l (i : Int) ((0 : Nat) : Int) from rfl, same_feats k l hl i h1 hfl _ k 0 (by omega) (by omega)]
      simp only [w1]
      exact same_loop k hk l hl hf n (i + 1) (by omega) (by omega)
    · rw [show decide ((i : Int) < (l.length : Int)) = false from decide_eq_false (by omega)]
      rfl

theorem same_eq (k : Nat) (hk : 100001 < k) (l : List S36) (hl : l.length ≤ 100000) (hf : ∀ q ∈ l, q.Features.length ≤ 100000) : clerestorykeep2_sameQueries k l l = some true := by
  unfold clerestorykeep2_sameQueries
  have e2 : ((l.length : Int) != (l.length : Int)) = false := by simp
  rw [e2]
  simp only [cond_false]
  exact same_loop k hk l hl hf k 0 (by omega) (by omega)

theorem same_nil (k : Nat) (l : List S36) (h : l ≠ []) : clerestorykeep2_sameQueries k l [] = some false := by
  unfold clerestorykeep2_sameQueries
  have hp := List.length_pos_iff.2 h
  have e2 : ((l.length : Int) != ((([] : List S36).length : Nat) : Int)) = true := by rw [bne_iff_ne]; simp only [List.length_nil]; omega
  rw [e2]
  rfl

end Go.Ev.Md
