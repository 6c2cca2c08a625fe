/- The laws on media queries, in plain words. No condition beyond those that each theorem names. -/
import Derived.Test.YtmiipooplgcelaaGreatDoorEvMdE
set_option linter.unusedVariables false
set_option linter.unusedSimpArgs false
namespace Go.Ev.Md
open Go Go.Ev.Tok

theorem wide_ok : clerestorykeep2_wide 300011 = some true := by kernel_rfl

theorem Read_eq' (s : List UInt8) : media_Read 300011 s = some (readP s) := Read_eq 300011 (by decide) s

theorem good_bd {l : List S36} (h : GoodL l) : l.length ≤ 100000 ∧ ∀ q ∈ l, q.Features.length ≤ 100000 := by
  refine ⟨by have := h.2.1; omega, fun q hq => by have := (h.2.2 q hq).2.1; omega⟩

theorem read_bd (s : List UInt8) : (readP s).2.length ≤ 200000 ∧ ∀ q ∈ (readP s).2, q.Features.length ≤ 200000 := by
  rcases read_err s with h | ⟨h, _⟩
  · obtain ⟨h1, h2⟩ := good_bd (read_good s h)
    exact ⟨by omega, fun q hq => by have := h2 q hq; omega⟩
  · rw [h]; exact ⟨by simp, fun q hq => by cases hq⟩

theorem Holds_eq' (s : List UInt8) (e : Env) : media_Holds 300011 s e.w e.h e.dark e.print = some (holdsP s e) :=
  Holds_eq 300011 (by decide) s e (read_bd s).1 (read_bd s).2

/-- What is told of queries is read, if it is not too long. -/
theorem read_text (l : List S36) (h : GoodL l) : (readP (textP l) = (0, l)) ∨ (readP (textP l) = (2, []) ∧ 400 < (textP l).length) := by
  rcases Nat.lt_or_ge 400 (textP l).length with h1 | h1
  · rcases read_err (textP l) with h2 | h2
    · exfalso
      unfold readP at h2
      rw [decide_eq_true (show ((textP l).length : Int) > 400 by omega)] at h2
      cases h2
    · exact .inr h2
  · exact .inl (read_toks _ l h (rel_text l h) h1)

theorem back_of (k : Nat) (s t : List UInt8) (l m : List S36) (x : Int) (b : Bool) (h0 : clerestorykeep2_wide k = some true) (h1 : media_Read k s = some (0, l)) (h2 : media_Text k l = some (false, [], t)) (h3 : media_Read k t = some (x, m))
    (h4 : clerestorykeep2_sameQueries k l m = some b) (hl : l ≠ []) (h5 : (400 < t.length) ∨ (x = 0 ∧ b = true)) : clerestorykeep2_MediaBack k s = some (false, [], true) := by
  have hp := List.length_pos_iff.2 hl
  unfold clerestorykeep2_MediaBack
  rw [h0, Option.bind_some, h1, Option.bind_some]
  show (media_Text k l).bind _ = _
  rw [h2, Option.bind_some]
  show (media_Read k t).bind _ = _
  rw [h3, Option.bind_some]
  show (clerestorykeep2_sameQueries k l m).bind _ = _
  rw [h4, Option.bind_some]
  have e1 : decide ((l.length : Int) > 0) = true := decide_eq_true (by omega)
  simp only [e1]
  rcases h5 with h5 | ⟨rfl, rfl⟩
  · rw [decide_eq_true (show ((t.length : Int) > 400) by omega)]
    rfl
  · cases decide ((t.length : Int) > 400) <;> rfl

theorem back_ex (s : List UInt8) : ∃ k, clerestorykeep2_MediaBack k s = some (false, [], true) := by
  refine ⟨300011, ?_⟩
  rcases read_err s with h | ⟨h, hs⟩
  · have hg := read_good s h
    have hr : media_Read 300011 s = some (0, (readP s).2) := by rw [Read_eq', ← h]
    obtain ⟨b1, b2⟩ := good_bd hg
    rcases read_text _ hg with ht | ⟨ht, hl⟩
    · exact back_of _ s _ _ _ 0 true wide_ok hr (Text_eq _ hg) (by rw [Read_eq', ht]) (same_eq _ (by decide) _ b1 b2) hg.1 (.inr ⟨rfl, rfl⟩)
    · exact back_of _ s _ _ [] 2 false wide_ok hr (Text_eq _ hg) (by rw [Read_eq', ht]) (same_nil _ _ hg.1) hg.1 (.inl hl)
  · unfold clerestorykeep2_MediaBack
    rw [wide_ok, Option.bind_some, Read_eq', h, Option.bind_some]
    have : decide ((s.length : Int) > 400) = true := decide_eq_true (by omega)
    rw [this]
    rfl

-- NOT

theorem known_loop (k : Nat) (q : S36) (hl : q.Features.length ≤ 100000) (a b : Bool) (w h : Int) (d p : Bool) (K : Bool → Bool → Bool → Int → Int → Bool → Bool → List S36 → Option Bool) : ∀ (n i : Nat) (c : Bool), i ≤ q.Features.length → q.Features.length - i < n →
    clerestorykeep2_MediaNot.c17 k n a b c (i : Int) w h d p [q] K = K a b (c && (q.Features.drop i).all fun f => f.Kind != 12) w h d p [q]
  | 0, i, c, _, h => by omega
  | n + 1, i, c, hi, hn => by
    unfold clerestorykeep2_MediaNot.c17
    simp only [Int.toNat_natCast]
    have hg0 : ([q] : List S36).getD (0 : Int).toNat S36.d = q := rfl
    have d0 : decide (0 ≤ (0 : Int) ∧ (0 : Int) < ((([q] : List S36).length : Nat) : Int)) = true := rfl
    simp only [hg0, d0, Bool.true_or, cond_true]
    rcases Nat.lt_or_ge i q.Features.length with h1 | h1
    · have hd : q.Features.drop i = q.Features[i] :: q.Features.drop (i + 1) := List.drop_eq_getElem_cons h1
      have hg : q.Features.getD i S38.d = q.Features[i] := by rw [List.getD_eq_getElem?_getD, List.getElem?_eq_getElem h1]; rfl
      have w1 : IntKind.wrap .i64 ((i : Int) + 1) = ((i + 1 : Nat) : Int) := by rw [wrap_i64 (by omega) (by omega)]; omega
      have d1 : decide ((i : Int) < (q.Features.length : Int)) = true := decide_eq_true (by omega)
      have d2 : decide (0 ≤ (i : Int) ∧ (i : Int) < (q.Features.length : Int)) = true := decide_eq_true (by omega)
      simp only [d1, d2, hg, w1, Bool.true_or, cond_true]
      rw [known_loop k q hl a b w h d p K n (i + 1) _ (by omega) (by omega), hd, List.all_cons]
      cases c <;> simp
    · have : i = q.Features.length := by omega
      subst this
      rw [show decide ((q.Features.length : Int) < (q.Features.length : Int)) = false from decide_eq_false (by omega), List.drop_length]
      simp

theorem min_known (e : Env) : ∀ (l : List S38) (n : Int), (n = 1 ∨ n = -1) → (∀ f ∈ l, soP f e ≠ 0) → (minP e l n = 1 ∨ minP e l n = -1)
  | [], n, h, _ => h
  | f :: r, n, h, hf => by
    unfold minP
    have hb := so_bd f e
    have h0 := hf f (by simp)
    split
    · exact min_known e r _ (by omega) (fun g hg => hf g (by simp [hg]))
    · exact min_known e r n h (fun g hg => hf g (by simp [hg]))

theorem known_so {l : List S38} (hg : ∀ f ∈ l, GoodF f) (hk : (l.all fun f => f.Kind != 12) = true) (e : Env) : ∀ f ∈ l, soP f e ≠ 0 := by
  intro f hf h0
  have h1 := so_zero f e h0
  have h2 := List.all_eq_true.1 hk f hf
  simp only [bne_iff_ne] at h2
  rcases hg f hf with ⟨_, h⟩ | ⟨_, _, h⟩ <;> omega

theorem holds_one (s : List UInt8) (e : Env) (q : S36) (h : readP s = (0, [q])) (hb : badE e = false) : holdsP s e = (allP q e == 1, 0) := by
  unfold holdsP
  rw [h, hb]
  simp

theorem not_of (k : Nat) (s t : List UInt8) (e : Env) (q : S36) (b : Bool × Int) (hq : q.Not = false) (hl : q.Features.length ≤ 100000) (hk : 100001 < k) (h0 : clerestorykeep2_wide k = some true) (h1 : media_Read k s = some (0, [q]))
    (h2 : media_Holds k s e.w e.h e.dark e.print = some (allP q e == 1, 0)) (h3 : media_Text k [q] = some (false, [], t)) (ht : t.length ≤ 1000000000) (h4 : media_Holds k (NOT_ ++ t) e.w e.h e.dark e.print = some b)
    (h5 : b.2 ≠ 0 ∨ (((allP q e == 1) && b.1) = false ∧ ((q.Features.all fun f => f.Kind != 12) = true → (allP q e == 1) ≠ b.1))) :
    clerestorykeep2_MediaNot k s e.w e.h e.dark e.print = some true := by
  unfold clerestorykeep2_MediaNot
  rw [h0, Option.bind_some, h1, Option.bind_some, h2, Option.bind_some]
  have hg0 : ([q] : List S36).getD (0 : Int).toNat S36.d = q := rfl
  have d0 : decide (0 ≤ (0 : Int) ∧ (0 : Int) < ((([q] : List S36).length : Nat) : Int)) = true := rfl
  have e1 : ((0 : Int) != 0) = false := rfl
  have e2 : (((([q] : List S36).length : Nat) : Int) != (1 : Int)) = false := rfl
  simp only [hg0, d0, e1, e2, hq, Bool.true_or, cond_true, cond_false]
  rw [show clerestorykeep2_MediaNot.c17 k k true (allP q e == 1) true (0 : Int) = clerestorykeep2_MediaNot.c17 k k true (allP q e == 1) true ((0 : Nat) : Int) from rfl, known_loop k q hl _ _ _ _ _ _ _ k 0 true (by omega) (by omega)]
  rw [h3, Option.bind_some, List.drop_zero]
  have hb : Nat.ble (([110, 111, 116, 32] : List UInt8).length + t.length) 9223372036854775807 = true := Nat.ble_eq_true_of_le (by simp only [List.length_cons, List.length_nil]; omega)
  simp only [cond_false, hb, cond_true, Bool.true_and]
  rw [show ([110, 111, 116, 32] ++ t : List UInt8) = NOT_ ++ t from rfl, h4, Option.bind_some]
  rcases h5 with h5 | ⟨h5, h6⟩
  · have : (b.2 != 0) = true := by rw [bne_iff_ne]; exact h5
    rw [this]
    rfl
  · cases b.2 != 0 with
    | true => rfl
    | false =>
      simp only [cond_false]
      cases hA : (allP q e == 1) <;> cases hB : b.1 <;> rw [hA, hB] at h5 h6
      · cases hK : (q.Features.all fun f => f.Kind != 12) with
        | true => exact absurd rfl (h6 hK)
        | false => rfl
      · cases (q.Features.all fun f => f.Kind != 12) <;> rfl
      · cases (q.Features.all fun f => f.Kind != 12) <;> rfl
      · cases h5

theorem skip_of (k : Nat) (s : List UInt8) (e : Env) (x : Int) (l : List S36) (b : Bool × Int) (h0 : clerestorykeep2_wide k = some true) (h1 : media_Read k s = some (x, l)) (h2 : media_Holds k s e.w e.h e.dark e.print = some b)
    (h3 : x ≠ 0 ∨ b.2 ≠ 0 ∨ ∀ q, l = [q] → q.Not = true) : clerestorykeep2_MediaNot k s e.w e.h e.dark e.print = some true := by
  unfold clerestorykeep2_MediaNot
  rw [h0, Option.bind_some, h1, Option.bind_some, h2, Option.bind_some]
  have key : (cond (cond (x != (0 : Int)) true (b.2 != (0 : Int))) true ((l.length : Int) != (1 : Int))) = true ∨ ∃ q, l = [q] ∧ q.Not = true := by
    rcases h3 with h | h | h
    · left; rw [(by rw [bne_iff_ne]; exact h : (x != (0 : Int)) = true)]; rfl
    · left; rw [(by rw [bne_iff_ne]; exact h : (b.2 != (0 : Int)) = true)]; cases x != (0 : Int) <;> rfl
    · match l, h with
      | [], _ => left; cases (cond (x != (0 : Int)) true (b.2 != (0 : Int))) <;> rfl
      | [q], h => exact .inr ⟨q, rfl, h q rfl⟩
      | a :: c :: r, _ =>
        left
        have : ((((a :: c :: r).length : Nat) : Int) != (1 : Int)) = true := by rw [bne_iff_ne]; simp only [List.length_cons]; omega
        rw [this]
        cases (cond (x != (0 : Int)) true (b.2 != (0 : Int))) <;> rfl
  rcases key with h | ⟨q, rfl, hq⟩
  · simp only [h, Bool.not_true, Bool.not_false, Bool.or_true, cond_true]
  · have hg0 : ([q] : List S36).getD (0 : Int).toNat S36.d = q := rfl
    have d0 : decide (0 ≤ (0 : Int) ∧ (0 : Int) < ((([q] : List S36).length : Nat) : Int)) = true := rfl
    simp only [hg0, d0, hq, Bool.true_or, cond_true]
    cases (cond (cond (x != (0 : Int)) true (b.2 != (0 : Int))) true ((([q] : List S36).length : Int) != (1 : Int))) <;> rfl

theorem holds_err (s : List UInt8) (e : Env) : (holdsP s e).2 = 0 → (readP s).1 = 0 ∧ badE e = false := by
  unfold holdsP
  intro h
  cases hr : (readP s).1 != 0 with
  | true => rw [hr] at h; rw [bne_iff_ne] at hr; exact absurd h hr
  | false =>
    rw [hr] at h
    refine ⟨by simpa using hr, ?_⟩
    cases hb : badE e with
    | false => rfl
    | true => rw [hb] at h; cases h

theorem holds_ok (s : List UInt8) (e : Env) (l : List S36) (h : readP s = (0, l)) (hb : badE e = false) : holdsP s e = (l.any fun q => allP q e == 1, 0) := by
  unfold holdsP
  rw [h, hb]
  rfl

theorem not_ex (s : List UInt8) (w h : Int) (d p : Bool) : ∃ k, clerestorykeep2_MediaNot k s w h d p = some true := by
  refine ⟨300011, ?_⟩
  obtain ⟨e, rfl, rfl, rfl, rfl⟩ : ∃ e : Env, e.w = w ∧ e.h = h ∧ e.dark = d ∧ e.print = p := ⟨⟨w, h, d, p⟩, rfl, rfl, rfl, rfl⟩
  by_cases hsk : (readP s).1 ≠ 0 ∨ (holdsP s e).2 ≠ 0 ∨ ∀ q, (readP s).2 = [q] → q.Not = true
  · exact skip_of _ s e _ _ _ wide_ok (Read_eq' s) (Holds_eq' s e) hsk
  · simp only [not_or, ne_eq, Decidable.not_not] at hsk
    obtain ⟨h1, h2, h3⟩ := hsk
    obtain ⟨q, hq, hnt⟩ : ∃ q, (readP s).2 = [q] ∧ q.Not = false := by
      match hl : (readP s).2, h3 with
      | [], h3 => exact absurd (fun q e => by cases e) h3
      | [q], h3 => refine ⟨q, rfl, ?_⟩; cases hn : q.Not with | false => rfl | true => exact absurd (fun x e => by cases e; exact hn) h3
      | a :: b :: r, h3 => exact absurd (fun q e => by cases e) h3
    have hg := read_good s h1
    rw [hq] at hg
    have hgq := hg.2.2 q (by simp)
    have hbad := (holds_err s e h2).2
    have hrd : readP s = (0, [q]) := by rw [← h1, ← hq]
    obtain ⟨b1, b2⟩ := text_bd [q] hg
    -- the same with not ahead
    have hn : textP [q] = qtext q := by unfold textP qtexts joinP; simp
    have hn2 : NOT_ ++ textP [q] = textP [⟨true, q.Features⟩] := by
      rw [hn]
      have : textP [⟨true, q.Features⟩] = qtext ⟨true, q.Features⟩ := by unfold textP qtexts joinP; simp
      rw [this]
      unfold qtext
      rw [hnt]
      rfl
    have hg2 : GoodL [⟨true, q.Features⟩] := ⟨by simp, by simp, fun x hx => by simp at hx; subst hx; exact hgq⟩
    refine not_of _ s _ e q (holdsP (textP [⟨true, q.Features⟩]) e) hnt (by have := hgq.2.1; omega) (by decide) wide_ok (by rw [Read_eq', hrd]) (by rw [Holds_eq', holds_one s e q hrd hbad]) (Text_eq _ hg) (by omega) (by rw [hn2, Holds_eq']) ?_
    rcases read_text _ hg2 with ht | ⟨ht, _⟩
    · rw [holds_one _ e _ ht hbad]
      refine .inr ?_
      have hbd := min_bd e q.Features 1 (by decide) (by decide)
      have a1 : allP q e = minP e q.Features 1 := by unfold allP; rw [hnt]; rfl
      have a2 : allP ⟨true, q.Features⟩ e = 0 - minP e q.Features 1 := rfl
      rw [a1, a2]
      refine ⟨?_, fun hk => ?_⟩
      · cases hc : (minP e q.Features 1 == 1) with
        | false => rfl
        | true =>
          have := eq_of_beq hc
          rw [this]; rfl
      · rcases min_known e q.Features 1 (.inl rfl) (known_so hgq.2.2 hk e) with h | h <;> rw [h] <;> decide
    · refine .inl ?_
      unfold holdsP
      rw [ht]
      exact (by decide : (2 : Int) ≠ 0)

-- A LIST

theorem text_two (l m : List S36) (hl : GoodL l) (hm : GoodL m) : Rel (textP l ++ [32, 44] ++ textP m) (toksL (l ++ m)) := by
  have := (rel_text l hl).comma' (rel_text m hm)
  have e : toksL (l ++ m) = toksL l ++ COMt :: toksL m := by
    match l, hl.1, m, hm.1 with
    | a :: r, _, b :: q, _ =>
      show qT a ++ ((r ++ b :: q).map fun g => COMt :: qT g).flatten = (qT a ++ (r.map fun g => COMt :: qT g).flatten) ++ COMt :: (qT b ++ (q.map fun g => COMt :: qT g).flatten)
      simp [List.append_assoc]
  rw [e]
  simpa [List.append_assoc] using this

theorem list_of (k : Nat) (s t u v : List UInt8) (e : Env) (l m : List S36) (a b c : Bool × Int) (h0 : clerestorykeep2_wide k = some true) (h1 : media_Read k s = some (0, l)) (h2 : media_Read k t = some (0, m))
    (h3 : media_Text k l = some (false, [], u)) (h4 : media_Text k m = some (false, [], v)) (hu : u.length ≤ 1000000000) (hv : v.length ≤ 1000000000) (h5 : media_Holds k u e.w e.h e.dark e.print = some a)
    (h6 : media_Holds k v e.w e.h e.dark e.print = some b) (h7 : media_Holds k (u ++ [32, 44] ++ v) e.w e.h e.dark e.print = some c) (h8 : a.2 ≠ 0 ∨ b.2 ≠ 0 ∨ c.2 ≠ 0 ∨ c.1 = (a.1 || b.1)) :
    clerestorykeep2_MediaList k s t e.w e.h e.dark e.print = some true := by
  unfold clerestorykeep2_MediaList
  rw [h0, Option.bind_some, h1, Option.bind_some, h2, Option.bind_some]
  have e1 : ((0 : Int) != 0) = false := rfl
  have hb1 : Nat.ble (u.length + ([32, 44] : List UInt8).length) 9223372036854775807 = true := Nat.ble_eq_true_of_le (by simp only [List.length_cons, List.length_nil]; omega)
  have hb2 : Nat.ble ((u ++ [32, 44]).length + v.length) 9223372036854775807 = true := Nat.ble_eq_true_of_le (by simp only [List.length_append, List.length_cons, List.length_nil]; omega)
  simp only [e1, cond_false]
  rw [h3, Option.bind_some]
  simp only [cond_false]
  rw [h5, Option.bind_some, h4, Option.bind_some]
  simp only [cond_false]
  rw [h6, Option.bind_some, Option.bind_some]
  simp only [cond_false, hb1, hb2, cond_true]
  rw [Option.bind_some]
  simp only [cond_false, hb2, cond_true]
  rw [h7, Option.bind_some]
  congr 1
  cases ha : (a.2 != 0) <;> cases hb : (b.2 != 0) <;> cases hc : (c.2 != 0) <;> try rfl
  simp only [bne_eq_false_iff_eq] at ha hb hc
  rcases h8 with h | h | h | h
  · exact absurd ha h
  · exact absurd hb h
  · exact absurd hc h
  · rw [h]
    cases a.1 <;> cases b.1 <;> rfl

theorem list_ex (s t : List UInt8) (w h : Int) (d p : Bool) : ∃ k, clerestorykeep2_MediaList k s t w h d p = some true := by
  refine ⟨300011, ?_⟩
  obtain ⟨e, rfl, rfl, rfl, rfl⟩ : ∃ e : Env, e.w = w ∧ e.h = h ∧ e.dark = d ∧ e.print = p := ⟨⟨w, h, d, p⟩, rfl, rfl, rfl, rfl⟩
  have err : ∀ x y : Int, (x ≠ 0 ∨ y ≠ 0) → ∀ (l m : List S36), media_Read 300011 s = some (x, l) → media_Read 300011 t = some (y, m) → clerestorykeep2_MediaList 300011 s t e.w e.h e.dark e.print = some true := by
    intro x y hxy l m h1 h2
    unfold clerestorykeep2_MediaList
    rw [wide_ok, Option.bind_some, h1, Option.bind_some, h2, Option.bind_some]
    have : (cond (x != (0 : Int)) true (y != (0 : Int))) = true := by
      rcases hxy with h | h
      · rw [(by rw [bne_iff_ne]; exact h : (x != (0 : Int)) = true)]; rfl
      · rw [(by rw [bne_iff_ne]; exact h : (y != (0 : Int)) = true)]; cases x != (0 : Int) <;> rfl
    simp only [this, cond_true]
  rcases read_err s with hs | ⟨hs, _⟩
  · rcases read_err t with ht | ⟨ht, _⟩
    · have hg1 := read_good s hs
      have hg2 := read_good t ht
      obtain ⟨b1, b2⟩ := text_bd _ hg1
      obtain ⟨b3, b4⟩ := text_bd _ hg2
      refine list_of _ s t _ _ e _ _ (holdsP (textP (readP s).2) e) (holdsP (textP (readP t).2) e) (holdsP (textP (readP s).2 ++ [32, 44] ++ textP (readP t).2) e) wide_ok (by rw [Read_eq', ← hs]) (by rw [Read_eq', ← ht]) (Text_eq _ hg1) (Text_eq _ hg2)
        (by omega) (by omega) (Holds_eq' _ e) (Holds_eq' _ e) (Holds_eq' _ e) ?_
      generalize (readP s).2 = l at *
      generalize (readP t).2 = m at *
      by_cases h1 : (holdsP (textP l) e).2 = 0
      · by_cases h2 : (holdsP (textP m) e).2 = 0
        · by_cases h3 : (holdsP (textP l ++ [32, 44] ++ textP m) e).2 = 0
          · refine .inr (.inr (.inr ?_))
            obtain ⟨p1, p2⟩ := holds_err _ _ h1
            obtain ⟨p3, _⟩ := holds_err _ _ h2
            obtain ⟨p4, _⟩ := holds_err _ _ h3
            have q1 : readP (textP l) = (0, l) := (read_text l hg1).resolve_right fun h => by rw [h.1] at p1; cases p1
            have q2 : readP (textP m) = (0, m) := (read_text m hg2).resolve_right fun h => by rw [h.1] at p3; cases p3
            have hlen : (textP l ++ [32, 44] ++ textP m).length ≤ 400 := by
              rcases Nat.lt_or_ge 400 (textP l ++ [32, 44] ++ textP m).length with h | h
              · exfalso
                have hgt : (((textP l ++ [32, 44] ++ textP m : List UInt8).length : Nat) : Int) > 400 := by omega
                unfold readP at p4
                rw [decide_eq_true hgt] at p4
                cases p4
              · exact h
            have hlm : (l ++ m).length ≤ 1000 := by
              -- each of them tells a byte at least
              have c1 : ∀ l : List S36, GoodL l → l.length ≤ (textP l).length := by
                intro l hl
                have hq : ∀ x ∈ l, 1 ≤ (qtext x).length := fun x hx => List.length_pos_iff.2 (rel_query x (hl.2.2 x hx)).ne
                have hf : ∀ r : List S36, (∀ x ∈ r, 1 ≤ (qtext x).length) → r.length ≤ (((qtexts r).map fun y => COM_ ++ y).flatten).length := by
                  intro r
                  induction r with
                  | nil => intro _; simp
                  | cons a b ih =>
                    intro h
                    have := ih (fun x hx => h x (by simp [hx]))
                    unfold qtexts at this ⊢
                    rw [List.map_cons, List.map_cons, List.flatten_cons, List.length_append, List.length_append]
                    simp only [List.length_cons]
                    have := h a (by simp)
                    omega
                match l, hl.1 with
                | a :: r, _ =>
                  have e0 : textP (a :: r) = qtext a ++ ((qtexts r).map fun y => COM_ ++ y).flatten := rfl
                  rw [e0, List.length_append, List.length_cons]
                  have := hq a (by simp)
                  have := hf r (fun x hx => hq x (by simp [hx]))
                  omega
              have := c1 l hg1
              have := c1 m hg2
              simp only [List.length_append, List.length_cons, List.length_nil] at hlen ⊢
              omega
            have q3 : readP (textP l ++ [32, 44] ++ textP m) = (0, l ++ m) := read_toks _ (l ++ m) ⟨by simp [hg1.1], hlm, fun q hq => by
              rcases List.mem_append.1 hq with hq | hq
              · exact hg1.2.2 q hq
              · exact hg2.2.2 q hq⟩ (text_two l m hg1 hg2) hlen
            rw [holds_ok _ e _ q1 p2, holds_ok _ e _ q2 p2, holds_ok _ e _ q3 p2, List.any_append]
          · exact .inr (.inr (.inl h3))
        · exact .inr (.inl h2)
      · exact .inl h1
    · exact err (readP s).1 2 (.inr (by decide)) (readP s).2 [] (Read_eq' s) (by rw [Read_eq', ht])
  · exact err 2 (readP t).1 (.inl (by decide)) [] (readP t).2 (by rw [Read_eq', hs]) (Read_eq' t)

-- WIDER

theorem pair_min (e : Env) (f g : S38) (x y : Bool) (hf : soP f e = sgnB x) (hg : soP g e = sgnB y) : (allP ⟨false, [f, g]⟩ e == 1) = (x && y) := by
  have : allP ⟨false, [f, g]⟩ e = minP e [f, g] 1 := rfl
  rw [this]
  unfold minP minP minP
  rw [hf, hg]
  cases x <;> cases y <;> decide

theorem tmod_bd (a b : Int) (hb : 0 < b) (ha : 0 ≤ a) : 0 ≤ Int.tmod a b ∧ Int.tmod a b < b := ⟨Int.tmod_nonneg _ ha, Int.tmod_lt_of_pos _ hb⟩

theorem u64_pos (a : Int) : 0 ≤ IntKind.wrap .u64 a := by rw [IntKind.wrap_u64]; exact Int.emod_nonneg _ (by decide)

theorem wide_of (k : Nat) (e e' : Env) (a1 a2 a7 n m : Int) (t u : List UInt8) (A B C D : Bool × Int) (h0 : clerestorykeep2_wide k = some true)
    (hn : IntKind.wrap .i64 (Int.tmod (IntKind.wrap .u64 a1) 5000) = n) (hm : IntKind.wrap .i64 (Int.tmod (IntKind.wrap .u64 a2) 5000) = m)
    (hw : IntKind.wrap .i64 ((if (4000 : Int) < (if (0 : Int) > e.w then (0 : Int) else e.w) then (4000 : Int) else (if (0 : Int) > e.w then (0 : Int) else e.w)) + IntKind.wrap .i64 (Int.tmod (IntKind.wrap .u64 a7) 500)) = e'.w)
    (hh : IntKind.wrap .i64 ((if (4000 : Int) < (if (0 : Int) > e.h then (0 : Int) else e.h) then (4000 : Int) else (if (0 : Int) > e.h then (0 : Int) else e.h)) + IntKind.wrap .i64 (Int.tmod (IntKind.wrap .u64 a7) 300)) = e'.h)
    (hd : e'.dark = e.dark) (hp : e'.print = e.print)
    (h1 : media_Text k [⟨false, [⟨4, n⟩, ⟨6, m⟩]⟩] = some (false, [], t)) (h2 : media_Text k [⟨false, [⟨5, n⟩, ⟨7, m⟩]⟩] = some (false, [], u))
    (hA : media_Holds k t e.w e.h e.dark e.print = some A) (hB : media_Holds k t e'.w e'.h e'.dark e'.print = some B) (hC : media_Holds k u e'.w e'.h e'.dark e'.print = some C) (hD : media_Holds k u e.w e.h e.dark e.print = some D)
    (h3 : A.2 ≠ 0 ∨ B.2 ≠ 0 ∨ C.2 ≠ 0 ∨ D.2 ≠ 0 ∨ ((A.1 = true → B.1 = true) ∧ (C.1 = true → D.1 = true))) : clerestorykeep2_MediaWider k a1 a2 e.w e.h e.dark e.print a7 = some (false, [], true) := by
  unfold clerestorykeep2_MediaWider
  rw [h0, Option.bind_some]
  have n5 : ((5000 : Int) != 0) = true := rfl
  have n6 : ((500 : Int) != 0) = true := rfl
  have n7 : ((300 : Int) != 0) = true := rfl
  rw [hd, hp] at hB hC
  simp only [n5, n6, n7, cond_true, hn, hm, hw, hh]
  rw [h1, Option.bind_some]
  simp only [cond_false]
  rw [h2, Option.bind_some]
  simp only [cond_false]
  rw [hA, Option.bind_some, hB, Option.bind_some, hC, Option.bind_some, hD, Option.bind_some]
  cases ha : (A.2 != 0) <;> cases hb : (B.2 != 0) <;> cases hc : (C.2 != 0) <;> cases hd' : (D.2 != 0) <;> try rfl
  simp only [bne_eq_false_iff_eq] at ha hb hc hd'
  rcases h3 with h | h | h | h | ⟨h, h'⟩
  · exact absurd ha h
  · exact absurd hb h
  · exact absurd hc h
  · exact absurd hd' h
  · cases hA1 : A.1 <;> cases hB1 : B.1 <;> cases hC1 : C.1 <;> cases hD1 : D.1 <;> rw [hA1, hB1] at h <;> rw [hC1, hD1] at h' <;> first | rfl | exact absurd (h rfl) (by decide) | exact absurd (h' rfl) (by decide)

theorem wider_ex (a1 a2 w h : Int) (d p : Bool) (a7 : Int) : ∃ k, clerestorykeep2_MediaWider k a1 a2 w h d p a7 = some (false, [], true) := by
  refine ⟨300011, ?_⟩
  obtain ⟨e, rfl, rfl, rfl, rfl⟩ : ∃ e : Env, e.w = w ∧ e.h = h ∧ e.dark = d ∧ e.print = p := ⟨⟨w, h, d, p⟩, rfl, rfl, rfl, rfl⟩
  obtain ⟨t1, t2⟩ := tmod_bd (IntKind.wrap .u64 a1) 5000 (by decide) (u64_pos a1)
  obtain ⟨t3, t4⟩ := tmod_bd (IntKind.wrap .u64 a2) 5000 (by decide) (u64_pos a2)
  obtain ⟨t5, t6⟩ := tmod_bd (IntKind.wrap .u64 a7) 500 (by decide) (u64_pos a7)
  obtain ⟨t7, t8⟩ := tmod_bd (IntKind.wrap .u64 a7) 300 (by decide) (u64_pos a7)
  generalize hn : Int.tmod (IntKind.wrap .u64 a1) 5000 = n at *
  generalize hm : Int.tmod (IntKind.wrap .u64 a2) 5000 = m at *
  generalize hx : Int.tmod (IntKind.wrap .u64 a7) 500 = x at *
  generalize hy : Int.tmod (IntKind.wrap .u64 a7) 300 = y at *
  have g1 : GoodL [⟨false, [⟨4, n⟩, ⟨6, m⟩]⟩] := ⟨by simp, by simp, fun q hq => by
    simp at hq; subst hq
    refine ⟨by simp, by simp, fun f hf => ?_⟩
    simp at hf
    rcases hf with rfl | rfl
    · exact .inr ⟨t1, by show n ≤ 1000000; omega, .inl rfl⟩
    · exact .inr ⟨t3, by show m ≤ 1000000; omega, .inr (.inr (.inl rfl))⟩⟩
  have g2 : GoodL [⟨false, [⟨5, n⟩, ⟨7, m⟩]⟩] := ⟨by simp, by simp, fun q hq => by
    simp at hq; subst hq
    refine ⟨by simp, by simp, fun f hf => ?_⟩
    simp at hf
    rcases hf with rfl | rfl
    · exact .inr ⟨t1, by show n ≤ 1000000; omega, .inr (.inl rfl)⟩
    · exact .inr ⟨t3, by show m ≤ 1000000; omega, .inr (.inr (.inr rfl))⟩⟩
  obtain ⟨e', hw', hh', hd', hp'⟩ : ∃ e' : Env, IntKind.wrap .i64 ((if (4000 : Int) < (if (0 : Int) > e.w then (0 : Int) else e.w) then (4000 : Int) else (if (0 : Int) > e.w then (0 : Int) else e.w)) + IntKind.wrap .i64 x) = e'.w ∧
      IntKind.wrap .i64 ((if (4000 : Int) < (if (0 : Int) > e.h then (0 : Int) else e.h) then (4000 : Int) else (if (0 : Int) > e.h then (0 : Int) else e.h)) + IntKind.wrap .i64 y) = e'.h ∧ e'.dark = e.dark ∧ e'.print = e.print :=
    ⟨⟨_, _, e.dark, e.print⟩, rfl, rfl, rfl, rfl⟩
  refine wide_of _ e e' a1 a2 a7 n m _ _ _ _ _ _ wide_ok (by rw [hn, wrap_i64 (by omega) (by omega)]) (by rw [hm, wrap_i64 (by omega) (by omega)]) (by rw [hx]; exact hw') (by rw [hy]; exact hh') hd' hp'
    (Text_eq _ g1) (Text_eq _ g2) (Holds_eq' _ e) (Holds_eq' _ e') (Holds_eq' _ e') (Holds_eq' _ e) ?_
  by_cases z1 : (holdsP (textP [⟨false, [⟨4, n⟩, ⟨6, m⟩]⟩]) e).2 = 0
  · by_cases z2 : (holdsP (textP [⟨false, [⟨4, n⟩, ⟨6, m⟩]⟩]) e').2 = 0
    · by_cases z3 : (holdsP (textP [⟨false, [⟨5, n⟩, ⟨7, m⟩]⟩]) e').2 = 0
      · refine .inr (.inr (.inr (.inr ?_)))
        obtain ⟨p1, p2⟩ := holds_err _ _ z1
        obtain ⟨_, p3⟩ := holds_err _ _ z2
        obtain ⟨p4, _⟩ := holds_err _ _ z3
        have q1 := (read_text _ g1).resolve_right fun h => by rw [h.1] at p1; cases p1
        have q2 := (read_text _ g2).resolve_right fun h => by rw [h.1] at p4; cases p4
        rw [holds_one _ e _ q1 p2, holds_one _ e' _ q1 p3, holds_one _ e _ q2 p2, holds_one _ e' _ q2 p3]
        rw [pair_min e ⟨4, n⟩ ⟨6, m⟩ (decide (e.w ≥ n)) (decide (e.h ≥ m)) rfl rfl, pair_min e' ⟨4, n⟩ ⟨6, m⟩ (decide (e'.w ≥ n)) (decide (e'.h ≥ m)) rfl rfl,
          pair_min e ⟨5, n⟩ ⟨7, m⟩ (decide (e.w ≤ n)) (decide (e.h ≤ m)) rfl rfl, pair_min e' ⟨5, n⟩ ⟨7, m⟩ (decide (e'.w ≤ n)) (decide (e'.h ≤ m)) rfl rfl]
        unfold badE at p2
        simp only [Bool.or_eq_false_iff, decide_eq_false_iff_not] at p2
        have gw : e.w ≤ e'.w := by
          rw [← hw', if_neg (show ¬ (0 : Int) > e.w by omega), if_neg (by omega), wrap_i64 (n := x) (by omega) (by omega), wrap_i64 (by omega) (by omega)]
          omega
        have gh : e.h ≤ e'.h := by
          rw [← hh', if_neg (show ¬ (0 : Int) > e.h by omega), if_neg (by omega), wrap_i64 (n := y) (by omega) (by omega), wrap_i64 (by omega) (by omega)]
          omega
        simp only [Bool.and_eq_true, decide_eq_true_eq]
        exact ⟨fun ⟨u1, u2⟩ => ⟨by omega, by omega⟩, fun ⟨u1, u2⟩ => ⟨by omega, by omega⟩⟩
      · exact .inr (.inr (.inl z3))
    · exact .inr (.inl z2)
  · exact .inl z1

end Go.Ev.Md
