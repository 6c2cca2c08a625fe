/- A part of the evaluator of Go code over small heaps and of its proof: no condition beyond those that each theorem names. -/
import Derived.Test.YtafbhggbkhckaaaEvCs
import Derived.Test.YtafbhggbkhckaaaEvNum
set_option linter.unusedVariables false
namespace Go.Ev.Cs
noncomputable section
open Go.Proofs

def rk (g : S23) : Int := if g.Important = false then g.Origin else if g.Origin = 1 then 3 else if g.Origin = 2 then 4 else 5

def cm (a b : Int) : Int := if a < b then -1 else if a > b then 1 else 0

def cmpr (g h : S23) : Int := if cm (rk g) (rk h) ≠ 0 then cm (rk g) (rk h) else if cm g.Weight h.Weight ≠ 0 then cm g.Weight h.Weight else cm g.Place h.Place

/-- Does the one count at least as much? -/
def Ge (g h : S23) : Prop := rk g > rk h ∨ (rk g = rk h ∧ (g.Weight > h.Weight ∨ (g.Weight = h.Weight ∧ g.Place ≥ h.Place)))

theorem cmpr_ge (g h : S23) : cmpr g h ≥ 0 ↔ Ge g h := by
  unfold cmpr cm Ge
  repeat' split
  all_goals omega

theorem Ge.trans {a b c : S23} (h : Ge a b) (h' : Ge b c) : Ge a c := by unfold Ge at *; omega
theorem Ge.refl (a : S23) : Ge a a := by unfold Ge; omega
theorem Ge.total (a b : S23) : Ge a b ∨ Ge b a := by unfold Ge; omega
theorem Ge.place {a b : S23} (h : Ge a b) (h' : Ge b a) : a.Place = b.Place := by unfold Ge at *; omega

def rank_ (k : Nat) (g : S23) : Option Int := cascade_rank k g.Name g.Value g.Origin g.Important g.Weight g.Place

theorem rank_eq (k : Nat) (g : S23) : cascade_rank k g.Name g.Value g.Origin g.Important g.Weight g.Place = some (rk g) := by
  unfold cascade_rank rk
  cases g.Important with
  | false => rfl
  | true =>
    by_cases h1 : g.Origin = 1
    · simp [h1]
    · by_cases h2 : g.Origin = 2
      · simp [h2]
      · have e1 : (g.Origin == 1) = false := by simpa using h1
        have e2 : (g.Origin == 2) = false := by simpa using h2
        simp [e1, e2, h1, h2]

theorem Compare_eq (k : Nat) (a b : Int) : cmp_Compare_int_ k a b = some (cm a b) := by
  unfold cmp_Compare_int_ cmp_isNaN_int_ cm
  simp only [Option.bind_some, bne_self_eq_false, cond_false]
  by_cases h1 : a < b
  · simp [h1]
  · by_cases h2 : a > b
    · simp [h1, h2]
    · simp [h1, h2]

theorem Or_eq (k : Nat) (a b c : Int) : cmp_Or_int_ (k + 4) [a, b, c] = some (if a ≠ 0 then a else if b ≠ 0 then b else c) := by
  unfold cmp_Or_int_
  have w0 : IntKind.wrap .i64 (0 + 1) = 1 := rfl
  have w1 : IntKind.wrap .i64 (1 + 1) = 2 := rfl
  have w2 : IntKind.wrap .i64 (2 + 1) = 3 := rfl
  simp only [cmp_Or_int_.c7, w0, w1, w2]
  by_cases ha : a = 0
  · by_cases hb : b = 0
    · by_cases hc : c = 0
      · simp [ha, hb, hc]
      · have c1 : (c != 0) = true := by simpa using hc
        simp [ha, hb, hc, c1]
    · have b1 : (b != 0) = true := by simpa using hb
      simp [ha, hb, b1]
  · have a1 : (a != 0) = true := by simpa using ha
    simp [ha, a1]

theorem compare_eq (k : Nat) (g h : S23) : cascade_compare (k + 4) g.Name g.Value g.Origin g.Important g.Weight g.Place h.Name h.Value h.Origin h.Important h.Weight h.Place = some (cmpr g h) := by
  unfold cascade_compare
  simp only [rank_eq, Compare_eq, Or_eq, Option.bind_some]
  rfl

theorem Less_eq (k : Nat) (g h : S23) : cascade_Less (k + 4) g.Name g.Value g.Origin g.Important g.Weight g.Place h.Name h.Value h.Origin h.Important h.Weight h.Place = some (decide (cmpr g h < 0)) := by
  unfold cascade_Less
  rw [compare_eq, Option.bind_some]

theorem own_eq (k : Nat) : clerestorykeep2_own (k + 4) = some true := by
  unfold clerestorykeep2_own
  have e1 := Less_eq k ⟨[], [], 1, false, 0, 0⟩ ⟨[], [], 2, false, 0, 0⟩
  have e2 := Less_eq k ⟨[], [], 1, true, 0, 0⟩ ⟨[], [], 2, false, 0, 0⟩
  simp only at e1 e2
  rw [e1, e2]; rfl

def el (l : List S23) (i : Nat) : S23 := l.getD i S23.d

theorem el_mem {l : List S23} {i : Nat} (h : i < l.length) : el l i ∈ l := by simp [el, List.getD_eq_getElem?_getD, List.getElem?_eq_getElem h]
theorem mem_el {l : List S23} {x : S23} (h : x ∈ l) : ∃ i, i < l.length ∧ el l i = x := by
  obtain ⟨i, hi, rfl⟩ := List.mem_iff_getElem.1 h
  exact ⟨i, hi, by simp [el, List.getD_eq_getElem?_getD, List.getElem?_eq_getElem hi]⟩

theorem el_set {l : List S23} {i j : Nat} (hi : i < l.length) (x : S23) : el (l.set i x) j = if j = i then x else el l j := by
  unfold el
  simp only [List.getD_eq_getElem?_getD, List.getElem?_set]
  by_cases h : i = j
  · subst h; simp [hi]
  · simp [h, Ne.symm h]

theorem el_app {l : List S23} {x : S23} {j : Nat} (hj : j < l.length + 1) : el (l ++ [x]) j = if j = l.length then x else el l j := by
  unfold el
  simp only [List.getD_eq_getElem?_getD]
  by_cases h : j = l.length
  · subst h; simp
  · rw [List.getElem?_append_left (by omega), if_neg h]

/-- What is known of those that count, of the first ones of a list. -/
structure Wn (l : List S23) (n : Nat) (m : List (List UInt8 × Int)) (o : List S23) : Prop where
  len : o.length ≤ n
  one : ∀ i j, i < o.length → j < o.length → (el o i).Name = (el o j).Name → i = j
  mem : ∀ i, i < o.length → ∃ j, j < n ∧ el o i = el l j
  top : ∀ j, j < n → ∃ i, i < o.length ∧ (el o i).Name = (el l j).Name ∧ Ge (el o i) (el l j)
  map : ∀ s i, mget none s m = some i → ∃ j : Nat, i = j ∧ j < o.length ∧ (el o j).Name = s
  all : ∀ i, i < o.length → mget none (el o i).Name m = some (i : Int)

theorem mget_mput {α : Type} (k k' : List UInt8) (x : α) : ∀ (m : List (List UInt8 × α)), mget none k' (mput none k x m) = if k' = k then some x else mget none k' m
  | [] => by
    simp only [mput, mget, kbeq]
    by_cases h : k' = k
    · simp [h]
    · have : (k == k') = false := by simpa using fun h' => h h'.symm
      simp [h, this]
  | e :: m => by
    simp only [mput]
    cases hb : kbeq none e.1 k with
    | true =>
      simp only [cond_true, mget]
      have he : e.1 = k := by simpa [kbeq] using hb
      by_cases h : k' = k
      · subst h; simp [kbeq]
      · have h1 : kbeq none k k' = false := by simp only [kbeq]; simpa using fun h' => h h'.symm
        have h2 : kbeq none e.1 k' = false := by rw [he]; exact h1
        simp [h1, h2, h]
    | false =>
      simp only [cond_false, mget]
      have he : e.1 ≠ k := by simpa [kbeq] using hb
      rw [mget_mput k k' x m]
      cases hb2 : kbeq none e.1 k' with
      | true =>
        have he2 : e.1 = k' := by simpa [kbeq] using hb2
        have hne : k' ≠ k := fun h => he (he2.trans h)
        simp [hne]
      | false => simp

theorem win_loop (k : Nat) (l : List S23) (k0 : List S23 → Option (List S23)) (hl : l.length ≤ 1000) : ∀ (n i : Nat) (m : List (List UInt8 × Int)) (o : List S23), i ≤ l.length → i + n > l.length → Wn l i m o →
    ∃ m' o', Wn l l.length m' o' ∧ cascade_Win.c9 (k + 4) n l (l.length : Int) (i : Int) m o k0 = k0 o'
  | 0, i, m, o, h', h, hw => by omega
  | n + 1, i, m, o, h', h, hw => by
    rw [cascade_Win.c9]
    by_cases hlt : (i : Int) < (l.length : Int)
    · have hi : i < l.length := by omega
      have g : 0 ≤ (i : Int) ∧ (i : Int) < (l.length : Int) := by omega
      simp only [cond_dec hlt, cond_dec g, Int.toNat_natCast]
      have hg : l.getD i S23.d = el l i := rfl
      simp only [hg]
      rw [wrap_i64 (n := (i : Int) + 1) (by omega) (by omega), show (i : Int) + 1 = ((i + 1 : Nat) : Int) by omega]
      have hlen := hw.len
      cases hm : mget none (el l i).Name m with
      | none =>
        simp only [Option.isSome_none, Bool.not_false, cond_true]
        have hmost : ∀ x : S23, (o ++ [x]).length < most := fun x => by simp [most]; omega
        rw [cond_dec (hmost _)]
        have hx : (⟨(el l i).Name, (el l i).Value, (el l i).Origin, (el l i).Important, (el l i).Weight, (el l i).Place⟩ : S23) = el l i := rfl
        rw [hx]
        refine win_loop k l k0 hl n (i + 1) _ _ (by omega) (by omega) ⟨by simp; omega, ?_, ?_, ?_, ?_, ?_⟩
        · have hfr : ∀ j, j < o.length → (el o j).Name ≠ (el l i).Name := fun j hj he => by
            have := hw.all j hj
            rw [he, hm] at this; cases this
          intro a b ha hb hab
          simp at ha hb
          rw [el_app ha, el_app hb] at hab
          split at hab <;> split at hab
          · omega
          · exact (hfr b (by omega) hab.symm).elim
          · exact (hfr a (by omega) hab).elim
          · exact hw.one a b (by omega) (by omega) hab
        · intro a ha
          simp at ha
          rw [el_app ha]
          split
          · exact ⟨i, by omega, rfl⟩
          · obtain ⟨j, h1, h2⟩ := hw.mem a (by omega); exact ⟨j, by omega, h2⟩
        · intro j hj
          by_cases hji : j = i
          · subst hji
            exact ⟨o.length, by simp, by rw [el_app (by omega), if_pos rfl], by rw [el_app (by omega), if_pos rfl]; exact Ge.refl _⟩
          · obtain ⟨a, h1, h2, h3⟩ := hw.top j (by omega)
            exact ⟨a, by simp; omega, by rw [el_app (by omega), if_neg (by omega)]; exact h2, by rw [el_app (by omega), if_neg (by omega)]; exact h3⟩
        · intro s a ha
          rw [mget_mput] at ha
          split at ha
          · rename_i hs; cases ha
            exact ⟨o.length, rfl, by simp, by rw [el_app (by omega), if_pos rfl, hs]⟩
          · obtain ⟨j, h1, h2, h3⟩ := hw.map s a ha
            exact ⟨j, h1, by simp; omega, by rw [el_app (by omega), if_neg (by omega)]; exact h3⟩
        · intro a ha
          simp at ha
          rw [el_app ha, mget_mput]
          split
          · rename_i h1; rw [if_pos rfl, h1]
          · rename_i h1
            have := hw.all a (by omega)
            rw [if_neg (fun he => by rw [he, hm] at this; cases this)]
            exact this
      | some i' =>
        obtain ⟨j, rfl, hj, hn⟩ := hw.map _ _ hm
        simp only [Option.isSome_some, Bool.not_true, cond_false, Option.getD_some]
        have g2 : 0 ≤ (j : Int) ∧ (j : Int) < (o.length : Int) := by omega
        have hgo : o.getD j S23.d = el o j := rfl
        simp only [cond_dec g2, Int.toNat_natCast, hgo]
        rw [compare_eq, Option.bind_some]
        by_cases hc : cmpr (el l i) (el o j) ≥ 0
        · rw [cond_dec hc]
          have hx : (⟨(el l i).Name, (el l i).Value, (el l i).Origin, (el l i).Important, (el l i).Weight, (el l i).Place⟩ : S23) = el l i := rfl
          rw [hx]
          have hge := (cmpr_ge _ _).1 hc
          have hnm : ∀ a, (el (o.set j (el l i)) a).Name = (el o a).Name := fun a => by
            rw [el_set hj]; split
            · rename_i h1; rw [h1, hn]
            · rfl
          refine win_loop k l k0 hl n (i + 1) _ _ (by omega) (by omega) ⟨by simp; omega, ?_, ?_, ?_, ?_, ?_⟩
          · intro a b ha hb hab
            simp at ha hb
            rw [hnm, hnm] at hab
            exact hw.one a b ha hb hab
          · intro a ha
            simp at ha
            rw [el_set hj]
            split
            · exact ⟨i, by omega, rfl⟩
            · obtain ⟨q, h1, h2⟩ := hw.mem a ha; exact ⟨q, by omega, h2⟩
          · intro q hq
            by_cases hqi : q = i
            · subst hqi
              exact ⟨j, by simpa using hj, by rw [el_set hj, if_pos rfl], by rw [el_set hj, if_pos rfl]; exact Ge.refl _⟩
            · obtain ⟨a, h1, h2, h3⟩ := hw.top q (by omega)
              refine ⟨a, by simpa using h1, by rw [hnm]; exact h2, ?_⟩
              rw [el_set hj]; split
              · rename_i h4; subst h4; exact hge.trans h3
              · exact h3
          · intro s a ha
            obtain ⟨q, h1, h2, h3⟩ := hw.map s a ha
            exact ⟨q, h1, by simpa using h2, by rw [hnm]; exact h3⟩
          · intro a ha
            simp at ha
            rw [hnm]; exact hw.all a ha
        · rw [cond_ndec hc]
          have hge : Ge (el o j) (el l i) := by
            rcases Ge.total (el o j) (el l i) with h1 | h1
            · exact h1
            · exact (hc ((cmpr_ge _ _).2 h1)).elim
          refine win_loop k l k0 hl n (i + 1) _ _ (by omega) (by omega) ⟨by omega, hw.one, ?_, ?_, hw.map, hw.all⟩
          · intro a ha
            obtain ⟨q, h1, h2⟩ := hw.mem a ha; exact ⟨q, by omega, h2⟩
          · intro q hq
            by_cases hqi : q = i
            · subst hqi; exact ⟨j, hj, hn, hge⟩
            · exact hw.top q (by omega)
    · rw [cond_ndec hlt]
      have : i = l.length := by omega
      subst this
      exact ⟨m, o, hw, rfl⟩

theorem Win_eq (k : Nat) (l : List S23) (hl : l.length ≤ 20) : ∃ m o, Wn l l.length m o ∧ cascade_Win (k + 40) l = some o := by
  unfold cascade_Win
  obtain ⟨m, o, h1, h2⟩ := win_loop (k + 36) l (fun y23 => some y23) (by omega) (k + 40) 0 [] [] (by omega) (by omega)
    ⟨by simp, fun i j h => by simp at h, fun i h => by simp at h, fun j h => by omega, fun s i h => by simp [mget] at h, fun i h => by simp at h⟩
  exact ⟨m, o, h1, h2⟩

theorem take20 (a : List S23) : (if (20 : Int) < (a.length : Int) then (20 : Int) else (a.length : Int)).toNat = min 20 a.length ∧ 0 ≤ (if (20 : Int) < (a.length : Int) then (20 : Int) else (a.length : Int)) ∧ (if (20 : Int) < (a.length : Int) then (20 : Int) else (a.length : Int)) ≤ (a.length : Int) := by
  split <;> omega

/-- How many have a name, from a place on. -/
theorem one_loop (k : Nat) (l o : List S23) (i : Nat) (k2 : List S23 → Bool → Int → Int → List S23 → Option Bool) {m : List (List UInt8 × Int)} (hw : Wn l l.length m o) (hi : i < l.length) (hl : l.length ≤ 1000)
    {a : Nat} (ha : a < o.length) (hn : (el o a).Name = (el l i).Name) (hge : Ge (el o a) (el l i)) : ∀ (n q : Nat), q ≤ o.length → q + n > o.length →
    clerestorykeep2_CascadeOne.c19 (k + 4) n l true (i : Int) (if a < q then 1 else 0) (q : Int) o k2 = k2 l true (i : Int) 1 o
  | 0, q, h', h => by omega
  | n + 1, q, h', h => by
    rw [clerestorykeep2_CascadeOne.c19]
    have hol := hw.len
    by_cases hlt : (q : Int) < (o.length : Int)
    · have hq : q < o.length := by omega
      have g1 : 0 ≤ (q : Int) ∧ (q : Int) < (o.length : Int) := by omega
      have g2 : 0 ≤ (i : Int) ∧ (i : Int) < (l.length : Int) := by omega
      have e1 : o.getD q S23.d = el o q := rfl
      have e2 : l.getD i S23.d = el l i := rfl
      simp only [cond_dec hlt, cond_dec g1, cond_dec g2, Int.toNat_natCast, e1, e2, Less_eq, Option.bind_some]
      rw [wrap_i64 (n := (q : Int) + 1) (by omega) (by omega), show (q : Int) + 1 = ((q + 1 : Nat) : Int) by omega]
      have ih := one_loop k l o i k2 hw hi hl ha hn hge n (q + 1) (by omega) (by omega)
      by_cases hqa : q = a
      · subst hqa
        have hb : ((el o q).Name == (el l i).Name) = true := by simp [hn]
        have hc : ¬ cmpr (el o q) (el l i) < 0 := by have := (cmpr_ge _ _).2 hge; omega
        rw [hb, cond_true, cond_ndec hc, if_neg (by omega), wrap_i64 (by omega) (by omega)]
        rw [if_pos (by omega)] at ih
        exact ih
      · have hb : ((el o q).Name == (el l i).Name) = false := by
          simp only [beq_eq_false_iff_ne, ne_eq]
          intro h1
          exact hqa (hw.one q a hq ha (h1.trans hn.symm))
        rw [hb, cond_false]
        have : (if a < q then (1 : Int) else 0) = if a < q + 1 then 1 else 0 := by
          by_cases h1 : a < q
          · rw [if_pos h1, if_pos (by omega)]
          · rw [if_neg h1, if_neg (by omega)]
        rw [this]; exact ih
    · simp only [cond_ndec hlt]
      rw [if_pos (by omega)]

theorem ones_loop (k : Nat) (l o : List S23) (k0 : List S23 → Bool → List S23 → Option Bool) {m : List (List UInt8 × Int)} (hw : Wn l l.length m o) (hl : l.length ≤ 20) : ∀ (n i : Nat), i ≤ l.length → i + n > l.length →
    clerestorykeep2_CascadeOne.c11 (k + 40) n l true (i : Int) o k0 = k0 l true o
  | 0, i, h', h => by omega
  | n + 1, i, h', h => by
    rw [clerestorykeep2_CascadeOne.c11]
    by_cases hlt : (i : Int) < (l.length : Int)
    · have hi : i < l.length := by omega
      have hol := hw.len
      obtain ⟨a, ha, hn, hge⟩ := hw.top i hi
      simp only [cond_dec hlt]
      have := one_loop (k + 36) l o i (fun (y35 : List S23) (y36 : Bool) (y37 : Int) (y38 : Int) (y39 : List S23) =>
        cond (y38 != (1 : Int)) (some false) (clerestorykeep2_CascadeOne.c11 (k + 40) n y35 y36 (IntKind.wrap .i64 (y37 + (1 : Int))) y39 k0)) hw hi (by omega) ha hn hge (k + 40) 0 (by omega) (by omega)
      simp only [Nat.not_lt_zero, if_false] at this
      refine this.trans ?_
      have e : ((1 : Int) != 1) = false := rfl
      simp only [e, cond_false]
      rw [wrap_i64 (by omega) (by omega), show (i : Int) + 1 = ((i + 1 : Nat) : Int) by omega]
      exact ones_loop k l o k0 hw hl n (i + 1) (by omega) (by omega)
    · simp only [cond_ndec hlt]

theorem one_law (a : List S23) : ∃ k, clerestorykeep2_CascadeOne k a = some true := by
  refine ⟨40, ?_⟩
  unfold clerestorykeep2_CascadeOne
  obtain ⟨t1, t2⟩ := take20 a
  have ho := own_eq 36
  simp only [Nat.reduceAdd] at ho
  simp only [ho, Option.bind_some, cond_dec t2, t1]
  have hlen : (a.take (min 20 a.length)).length ≤ 20 := by simp; omega
  generalize a.take (min 20 a.length) = l at hlen
  obtain ⟨m, o, h1, h2⟩ := Win_eq 0 l hlen
  rw [Nat.zero_add] at h2
  rw [h2, Option.bind_some]
  have := ones_loop 0 l o (fun (y41 : List S23) (y42 : Bool) (y43 : List S23) => some (cond y42 (decide ((y43.length : Int) ≤ (y41.length : Int))) false)) h1 hlen 40 0 (by omega) (by omega)
  rw [Nat.zero_add] at this
  refine this.trans ?_
  have := h1.len
  simp; omega

/-- In the loop through those that follow: two of one place, or none. -/
theorem place_loop (k : Nat) (l : List S23) (i : Nat) (x14 : List S23) (k2 : List S23 → Bool → Int → List S23 → Option Bool) (hi : i < l.length) (hl : l.length ≤ 1000) : ∀ (n q : Nat), q ≤ i → q + n > i →
    clerestorykeep2_CascadeTurned.c17 k n l true (i : Int) (q : Int) x14 k2 = some true ∨
    (clerestorykeep2_CascadeTurned.c17 k n l true (i : Int) (q : Int) x14 k2 = k2 l true (i : Int) x14 ∧ ∀ j, q ≤ j → j < i → (el l j).Place ≠ (el l i).Place)
  | 0, q, h', h => by omega
  | n + 1, q, h', h => by
    rw [clerestorykeep2_CascadeTurned.c17]
    by_cases hlt : (q : Int) < (i : Int)
    · have g1 : 0 ≤ (q : Int) ∧ (q : Int) < (l.length : Int) := by omega
      have g2 : 0 ≤ (i : Int) ∧ (i : Int) < (l.length : Int) := by omega
      have e1 : l.getD q S23.d = el l q := rfl
      have e2 : l.getD i S23.d = el l i := rfl
      simp only [cond_dec hlt, cond_dec g1, cond_dec g2, Int.toNat_natCast, e1, e2]
      by_cases hp : (el l q).Place = (el l i).Place
      · left; simp [hp]
      · have hb : ((el l q).Place == (el l i).Place) = false := by simpa using hp
        rw [hb, cond_false, wrap_i64 (by omega) (by omega), show (q : Int) + 1 = ((q + 1 : Nat) : Int) by omega]
        rcases place_loop k l i x14 k2 hi hl n (q + 1) (by omega) (by omega) with h1 | ⟨h1, h2⟩
        · exact .inl h1
        · refine .inr ⟨h1, fun j hj hji => ?_⟩
          by_cases hjq : j = q
          · subst hjq; exact hp
          · exact h2 j (by omega) hji
    · rw [cond_ndec hlt]
      exact .inr ⟨rfl, fun j hj hji => by omega⟩

theorem back_loop (k : Nat) (l : List S23) (k0 : List S23 → Bool → List S23 → Option Bool) (hl : l.length ≤ 20) : ∀ (i : Nat) (n : Nat) (acc : List S23), i ≤ l.length → n > i → acc = (l.drop i).reverse →
    (∀ a b, i ≤ a → a < l.length → b < a → (el l b).Place ≠ (el l a).Place) →
    clerestorykeep2_CascadeTurned.c11 (k + 40) n l true ((i : Int) - 1) acc k0 = some true ∨
    (clerestorykeep2_CascadeTurned.c11 (k + 40) n l true ((i : Int) - 1) acc k0 = k0 l true l.reverse ∧ ∀ a b, a < l.length → b < a → (el l b).Place ≠ (el l a).Place)
  | 0, n, acc, h', h, ha, hd => by
    obtain ⟨n, rfl⟩ : ∃ m, n = m + 1 := ⟨n - 1, by omega⟩
    rw [clerestorykeep2_CascadeTurned.c11]
    have g : ¬ (((0 : Nat) : Int) - 1 ≥ 0) := by omega
    rw [cond_ndec g]
    refine .inr ⟨by rw [ha]; simp, fun a b h1 h2 => hd a b (by omega) h1 h2⟩
  | i + 1, n, acc, h', h, ha, hd => by
    obtain ⟨n, rfl⟩ : ∃ m, n = m + 1 := ⟨n - 1, by omega⟩
    rw [clerestorykeep2_CascadeTurned.c11]
    have hi : i < l.length := by omega
    have e : (((i + 1 : Nat) : Int) - 1) = (i : Int) := by omega
    have g : (i : Int) ≥ 0 := by omega
    rw [e, cond_dec g]
    rcases place_loop (k + 40) l i acc (fun (y18 : List S23) (y19 : Bool) (y20 : Int) (y21 : List S23) =>
      cond (decide (0 ≤ y20 ∧ y20 < (y18.length : Int))) (
      let v22 : List UInt8 := (y18.getD y20.toNat S23.d).Name
      let v23 : List UInt8 := (y18.getD y20.toNat S23.d).Value
      let v24 : Int := (y18.getD y20.toNat S23.d).Origin
      let v25 : Bool := (y18.getD y20.toNat S23.d).Important
      let v26 : Int := (y18.getD y20.toNat S23.d).Weight
      let v27 : Int := (y18.getD y20.toNat S23.d).Place
      let v28 : List S23 := [(⟨v22, v23, v24, v25, v26, v27⟩ : S23)]
      cond (decide ((y21 ++ v28).length < most)) (
      let v29 : Int := (IntKind.wrap .i64 (y20 - (1 : Int)))
      clerestorykeep2_CascadeTurned.c11 (k + 40) n y18 y19 v29 (y21 ++ v28) k0) none) none) hi (by omega) (k + 40) 0 (by omega) (by omega) with h1 | ⟨h1, h2⟩
    · exact .inl h1
    · have hp : ∀ a b, i ≤ a → a < l.length → b < a → (el l b).Place ≠ (el l a).Place := by
        intro a b h3 h4 h5
        by_cases ha' : a = i
        · subst ha'; exact h2 b (Nat.zero_le _) h5
        · exact hd a b (by omega) h4 h5
      have hal : acc.length ≤ 20 := by rw [ha]; simp; omega
      have hm : (acc ++ [el l i]).length < most := by simp [most]; omega
      have g2 : 0 ≤ (i : Int) ∧ (i : Int) < (l.length : Int) := by omega
      have hr : acc ++ [el l i] = (l.drop i).reverse := by
        rw [ha, List.drop_eq_getElem_cons hi, List.reverse_cons]
        simp [el, List.getD_eq_getElem?_getD, List.getElem?_eq_getElem hi]
      have ih := back_loop k l k0 hl i n (acc ++ [el l i]) (by omega) (by omega) hr (fun a b h3 h4 h5 => hp a b h3 h4 h5)
      have hkk : clerestorykeep2_CascadeTurned.c17 (k + 40) (k + 40) l true (i : Int) 0 acc (fun (y18 : List S23) (y19 : Bool) (y20 : Int) (y21 : List S23) =>
          cond (decide (0 ≤ y20 ∧ y20 < (y18.length : Int))) (
          let v22 : List UInt8 := (y18.getD y20.toNat S23.d).Name
          let v23 : List UInt8 := (y18.getD y20.toNat S23.d).Value
          let v24 : Int := (y18.getD y20.toNat S23.d).Origin
          let v25 : Bool := (y18.getD y20.toNat S23.d).Important
          let v26 : Int := (y18.getD y20.toNat S23.d).Weight
          let v27 : Int := (y18.getD y20.toNat S23.d).Place
          let v28 : List S23 := [(⟨v22, v23, v24, v25, v26, v27⟩ : S23)]
          cond (decide ((y21 ++ v28).length < most)) (
          let v29 : Int := (IntKind.wrap .i64 (y20 - (1 : Int)))
          clerestorykeep2_CascadeTurned.c11 (k + 40) n y18 y19 v29 (y21 ++ v28) k0) none) none) = clerestorykeep2_CascadeTurned.c11 (k + 40) n l true ((i : Int) - 1) (acc ++ [el l i]) k0 := by
        refine h1.trans ?_
        rw [cond_dec g2]
        have e1 : l.getD (i : Int).toNat S23.d = el l i := rfl
        simp only [e1]
        have hx : (⟨(el l i).Name, (el l i).Value, (el l i).Origin, (el l i).Important, (el l i).Weight, (el l i).Place⟩ : S23) = el l i := rfl
        rw [hx, cond_dec hm, wrap_i64 (by omega) (by omega)]
      rcases ih with h3 | ⟨h3, h4⟩
      · exact .inl (hkk.trans h3)
      · exact .inr ⟨hkk.trans h3, h4⟩

theorem eqS (x y : S23) : ((x.Name == y.Name) && ((x.Value == y.Value) && ((x.Origin == y.Origin) && ((x.Important == y.Important) && ((x.Weight == y.Weight) && ((x.Place == y.Place) && true)))))) = true ↔ x = y := by
  obtain ⟨a1, a2, a3, a4, a5, a6⟩ := x
  obtain ⟨b1, b2, b3, b4, b5, b6⟩ := y
  simp

/-- Is one among others? -/
theorem in_loop (k : Nat) (a b : List S23) (x40 : Bool) (i : Nat) (k6 : Bool → Int → Bool → List S23 → List S23 → Option Bool) (hi : i < a.length) (hal : a.length ≤ 1000) (hbl : b.length ≤ 1000) : ∀ (n q : Nat) (s : Bool), q ≤ b.length → q + n > b.length →
    (s = true ∨ ∃ j, q ≤ j ∧ j < b.length ∧ el a i = el b j) →
    clerestorykeep2_CascadeTurned.c41 k n x40 (i : Int) s (q : Int) a b k6 = k6 x40 (i : Int) true a b
  | 0, q, s, h', h, hs => by omega
  | n + 1, q, s, h', h, hs => by
    rw [clerestorykeep2_CascadeTurned.c41]
    by_cases hlt : (q : Int) < (b.length : Int)
    · have g1 : 0 ≤ (q : Int) ∧ (q : Int) < (b.length : Int) := by omega
      have g2 : 0 ≤ (i : Int) ∧ (i : Int) < (a.length : Int) := by omega
      have e1 : a.getD i S23.d = el a i := rfl
      have e2 : b.getD q S23.d = el b q := rfl
      have d1 := decide_eq_true g1
      have d2 := decide_eq_true g2
      simp only [cond_dec hlt, d1, d2, Bool.true_or, cond_true, Int.toNat_natCast, e1, e2]
      rw [wrap_i64 (by omega) (by omega), show (q : Int) + 1 = ((q + 1 : Nat) : Int) by omega]
      refine in_loop k a b x40 i k6 hi hal hbl n (q + 1) _ (by omega) (by omega) ?_
      rcases hs with hs | ⟨j, h1, h2, h3⟩
      · left; rw [hs]; rfl
      · by_cases hjq : j = q
        · subst hjq
          left
          rw [(eqS _ _).2 h3]; cases s <;> rfl
        · exact .inr ⟨j, by omega, h2, h3⟩
    · simp only [cond_ndec hlt]
      rcases hs with hs | ⟨j, h1, h2, _⟩
      · rw [hs]
      · omega

theorem ins_loop (k : Nat) (a b : List S23) (k4 : Bool → List S23 → List S23 → Option Bool) (hal : a.length ≤ 30) (hbl : b.length ≤ 30) (hab : ∀ i, i < a.length → ∃ j, j < b.length ∧ el a i = el b j) : ∀ (n i : Nat), i ≤ a.length → i + n > a.length →
    clerestorykeep2_CascadeTurned.c33 (k + 40) n true (i : Int) a b k4 = k4 true a b
  | 0, i, h', h => by omega
  | n + 1, i, h', h => by
    rw [clerestorykeep2_CascadeTurned.c33]
    by_cases hlt : (i : Int) < (a.length : Int)
    · have hi : i < a.length := by omega
      obtain ⟨j, h1, h2⟩ := hab i hi
      simp only [cond_dec hlt]
      have := in_loop (k + 40) a b true i (fun (y61 : Bool) (y62 : Int) (y63 : Bool) (y64 : List S23) (y65 : List S23) =>
        cond (!y63) (some false) (clerestorykeep2_CascadeTurned.c33 (k + 40) n y61 (IntKind.wrap .i64 (y62 + (1 : Int))) y64 y65 k4)) hi (by omega) (by omega) (k + 40) 0 false (by omega) (by omega) (.inr ⟨j, Nat.zero_le _, h1, h2⟩)
      refine this.trans ?_
      simp only [Bool.not_true, cond_false]
      rw [wrap_i64 (by omega) (by omega), show (i : Int) + 1 = ((i + 1 : Nat) : Int) by omega]
      exact ins_loop k a b k4 hal hbl hab n (i + 1) (by omega) (by omega)
    · simp only [cond_ndec hlt]

theorem Wn.within {l a b : List S23} {m m' : List (List UInt8 × Int)} (ha : Wn l l.length m a) (hb : Wn l.reverse l.reverse.length m' b) (hp : ∀ i j, i < l.length → j < l.length → (el l i).Place = (el l j).Place → i = j)
    (hr : ∀ i, i < l.length → ∃ j, j < l.reverse.length ∧ el l.reverse j = el l i) (hr' : ∀ j, j < l.reverse.length → ∃ i, i < l.length ∧ el l.reverse j = el l i) :
    (∀ i, i < a.length → ∃ j, j < b.length ∧ el a i = el b j) ∧ ∀ j, j < b.length → ∃ i, i < a.length ∧ el b j = el a i := by
  have key : ∀ i j, i < a.length → j < b.length → (el a i).Name = (el b j).Name → el a i = el b j := by
    intro i j hi hj hn
    obtain ⟨p, hp1, hp2⟩ := ha.mem i hi
    obtain ⟨q, hq1, hq2⟩ := hb.mem j hj
    obtain ⟨q', hq3, hq4⟩ := hr' q hq1
    obtain ⟨p', hp3, hp4⟩ := hr p hp1
    obtain ⟨i', h1, h2, h3⟩ := ha.top q' hq3
    obtain ⟨j', h4, h5, h6⟩ := hb.top p' hp3
    have hii : i' = i := ha.one i' i h1 hi (by rw [h2, hn, hq2, hq4])
    have hjj : j' = j := hb.one j' j h4 hj (by rw [h5, hp4, ← hp2, hn])
    subst hii; subst hjj
    have hpl := Ge.place (show Ge (el a i') (el b j') by rw [hq2, hq4]; exact h3) (show Ge (el b j') (el a i') by rw [hp2, ← hp4]; exact h6)
    rw [hp2, hq2, hq4] at hpl ⊢
    rw [hp p q' hp1 hq3 hpl]
  constructor
  · intro i hi
    obtain ⟨p, hp1, hp2⟩ := ha.mem i hi
    obtain ⟨p', hp3, hp4⟩ := hr p hp1
    obtain ⟨j, h4, h5, _⟩ := hb.top p' hp3
    exact ⟨j, h4, key i j hi h4 (by rw [h5, hp4, ← hp2])⟩
  · intro j hj
    obtain ⟨q, hq1, hq2⟩ := hb.mem j hj
    obtain ⟨q', hq3, hq4⟩ := hr' q hq1
    obtain ⟨i, h1, h2, _⟩ := ha.top q' hq3
    exact ⟨i, h1, (key i j h1 hj (by rw [h2, ← hq4, ← hq2])).symm⟩

/-- Where each goes to another place there are not more. -/
theorem inj_le : ∀ (n m : Nat) (f : Nat → Nat), (∀ i, i < n → f i < m) → (∀ i j, i < n → j < n → f i = f j → i = j) → n ≤ m
  | 0, m, f, _, _ => Nat.zero_le _
  | n + 1, m, f, h1, h2 => by
    have h0 := h1 n (by omega)
    obtain ⟨m, rfl⟩ : ∃ q, m = q + 1 := ⟨m - 1, by omega⟩
    refine Nat.succ_le_succ (inj_le n m (fun i => if f i = m then f n else f i) (fun i hi => ?_) (fun i j hi hj he => ?_))
    · have := h1 i (by omega)
      by_cases hm : f i = m
      · simp only [hm, if_true]
        have : f n ≠ m := fun h => by have := h2 i n (by omega) (by omega) (hm.trans h.symm); omega
        omega
      · simp only [hm, if_false]; omega
    · by_cases hi' : f i = m <;> by_cases hj' : f j = m
      · exact h2 i j (by omega) (by omega) (hi'.trans hj'.symm)
      · rw [if_pos hi', if_neg hj'] at he
        have := h2 n j (by omega) (by omega) he; omega
      · rw [if_neg hi', if_pos hj'] at he
        have := h2 i n (by omega) (by omega) he; omega
      · rw [if_neg hi', if_neg hj'] at he
        exact h2 i j (by omega) (by omega) he

theorem Wn.le {l a b : List S23} {m : List (List UInt8 × Int)} (ha : Wn l l.length m a) (h : ∀ i, i < a.length → ∃ j, j < b.length ∧ el a i = el b j) : a.length ≤ b.length := by
  classical
  refine inj_le a.length b.length (fun i => if hi : i < a.length then Classical.choose (h i hi) else 0) (fun i hi => ?_) (fun i j hi hj he => ?_)
  · rw [dif_pos hi]; exact (Classical.choose_spec (h i hi)).1
  · rw [dif_pos hi, dif_pos hj] at he
    have h1 := (Classical.choose_spec (h i hi)).2
    have h2 := (Classical.choose_spec (h j hj)).2
    rw [he] at h1
    exact ha.one i j hi hj (by rw [h1, ← h2])

theorem el_reverse {l : List S23} {i : Nat} (h : i < l.length) : el l.reverse i = el l (l.length - 1 - i) := by
  unfold el
  simp only [List.getD_eq_getElem?_getD, List.getElem?_reverse h]

theorem turned_law (a : List S23) : ∃ k, clerestorykeep2_CascadeTurned k a = some true := by
  refine ⟨40, ?_⟩
  unfold clerestorykeep2_CascadeTurned
  obtain ⟨t1, t2⟩ := take20 a
  have ho := own_eq 36
  simp only [Nat.reduceAdd] at ho
  simp only [ho, Option.bind_some, cond_dec t2, t1]
  have hlen : (a.take (min 20 a.length)).length ≤ 20 := by simp; omega
  generalize a.take (min 20 a.length) = l at hlen
  rw [wrap_i64 (by omega) (by omega)]
  rcases back_loop 0 l (fun (y30 : List S23) (y31 : Bool) (y32 : List S23) =>
    (cascade_Win 40 y30).bind fun r33 =>
    (cascade_Win 40 y32).bind fun r34 =>
    clerestorykeep2_CascadeTurned.c33 40 40 y31 (0 : Int) r33 r34 (fun (y67 : Bool) (y68 : List S23) (y69 : List S23) =>
    let v70 : Bool := ((y68.length : Int) == (y69.length : Int))
    some (cond y67 v70 false))) hlen l.length 40 [] (by omega) (by omega) (by simp) (fun a b h1 h2 => by omega) with h | ⟨h, hp⟩
  · exact h
  · refine h.trans ?_
    obtain ⟨m, o, h1, h2⟩ := Win_eq 0 l hlen
    obtain ⟨m', o', h3, h4⟩ := Win_eq 0 l.reverse (by simpa using hlen)
    rw [Nat.zero_add] at h2 h4
    rw [h2, Option.bind_some, h4, Option.bind_some]
    have hpl : ∀ i j, i < l.length → j < l.length → (el l i).Place = (el l j).Place → i = j := by
      intro i j hi hj he
      rcases Nat.lt_trichotomy i j with h | h | h
      · exact (hp j i hj h he).elim
      · exact h
      · exact (hp i j hi h he.symm).elim
    obtain ⟨w1, w2⟩ := h1.within h3 hpl (fun i hi => ⟨l.length - 1 - i, by simp; omega, by rw [el_reverse (by omega), show l.length - 1 - (l.length - 1 - i) = i by omega]⟩)
      (fun j hj => ⟨l.length - 1 - j, by simp at hj; omega, by simp at hj; rw [el_reverse hj]⟩)
    have l1 := h1.len
    have l3 := h3.len
    simp at l3
    have := ins_loop 0 o o' (fun (y67 : Bool) (y68 : List S23) (y69 : List S23) => some (cond y67 ((y68.length : Int) == (y69.length : Int)) false)) (by omega) (by omega) w1 40 0 (by omega) (by omega)
    rw [Nat.zero_add] at this
    refine this.trans ?_
    have e1 := h1.le w1
    have e2 := h3.le w2
    simp; omega
end
end Go.Ev.Cs
