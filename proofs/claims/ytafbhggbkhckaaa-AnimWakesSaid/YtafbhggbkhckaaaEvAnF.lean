/- A part of the evaluator of Go code over small heaps and of its proof: no condition beyond those that each theorem names. -/
import Derived.Test.YtafbhggbkhckaaaEvAnE
set_option linter.unusedVariables false
namespace Go.Ev.An
noncomputable section
open Go.Proofs

/-- Where a change ends. -/
def en (a : S50) : Int := a.From + a.Times * a.Length

/-- When a change's value may be another one. -/
def nx (a : S50) (now : Int) : Int := if now < a.From then a.From else if now < en a then now + 1 else 0

def up (now t : Int) (a : S50) : Int := if nx a now > 0 ∧ (t = 0 ∨ nx a now < t) then nx a now else t

def wk (now : Int) : List S50 → Int → Int
  | [], t => t
  | a :: l, t => wk now l (up now t a)

theorem en_rng {a : S50} (ha : Ok a) : a.From ≤ en a ∧ en a ≤ 100100000000 ∧ 0 ≤ a.Times * a.Length ∧ a.Times * a.Length ≤ 100000000000 := by
  have hp := mul_bd (x := a.Times) (X := 1000) (y := a.Length) (Y := 100000000) (by have := ha.tms; omega) ha.tms.2 (by have := ha.len; omega) ha.len.2
  have := ha.frm
  unfold en
  omega

theorem end_eq (k : Nat) {a : S50} (ha : Ok a) : anim_end k a.From a.Length a.Times a.Turn a.Stays a.Ease_Kind a.Ease_Curve_0 a.Ease_Curve_1 a.Ease_Curve_2 a.Ease_Curve_3 a.Ease_N a.Frames = some (en a) := by
  have := en_rng ha
  have := ha.frm
  unfold anim_end
  simp only
  rw [wrap_i64 (n := a.Times * a.Length) (by omega) (by omega), wrap_i64 (by unfold en at *; omega) (by unfold en at *; omega)]
  rfl

theorem waking_loop (k : Nat) (l : List S50) (now : Int) (k0 : Int → Option Int) (hl : l.length ≤ 1000) (ha : ∀ a ∈ l, Ok a) (h0 : 0 ≤ now) (h1 : now ≤ 200000000000) :
    ∀ (n i : Nat) (t : Int), i ≤ l.length → i + n > l.length → clerestorykeep2_waking.c7 k n l now t (i : Int) k0 = k0 (wk now (l.drop i) t)
  | 0, i, t, h', h => by omega
  | n + 1, i, t, h', h => by
    rw [clerestorykeep2_waking.c7]
    by_cases hlt : (i : Int) < (l.length : Int)
    · have hi : i < l.length := by omega
      have g : 0 ≤ (i : Int) ∧ (i : Int) < (l.length : Int) := by omega
      simp only [cond_dec hlt, cond_dec g, Int.toNat_natCast]
      have hm : l.getD i S50.d ∈ l := by simp [List.getD_eq_getElem?_getD, List.getElem?_eq_getElem hi]
      have hok := ha _ hm
      rw [drop_at hi S50.d]
      obtain ⟨a, hae⟩ : ∃ a, a = l.getD i S50.d := ⟨_, rfl⟩
      simp only [← hae] at hok ⊢
      have hen := en_rng hok
      have hf := hok.frm
      rw [wrap_i64 (n := a.Times * a.Length) (by omega) (by omega), wrap_i64 (n := a.From + a.Times * a.Length) (by unfold en at hen; omega) (by unfold en at hen; omega),
        wrap_i64 (n := now + 1) (by omega) (by omega)]
      have ih := fun t => waking_loop k l now k0 hl ha h0 h1 n (i + 1) t (by omega) (by omega)
      simp only [show ((i + 1 : Nat) : Int) = (i : Int) + 1 by omega] at ih
      simp only [wk]
      have fin : ∀ x : Int, x = nx a now → clerestorykeep2_waking.c22 k l now t i x (fun y19 y20 y21 y22 => clerestorykeep2_waking.c7 k n y19 y20 y21 (IntKind.wrap .i64 (y22 + 1)) k0) = k0 (wk now (l.drop (i + 1)) (up now t a)) := by
        rintro x rfl
        unfold clerestorykeep2_waking.c22 up
        simp only [wrap_i64 (n := (i : Int) + 1) (by omega) (by omega)]
        by_cases c : nx a now > 0 ∧ (t = 0 ∨ nx a now < t)
        · have : (cond (decide (nx a now > 0)) (cond (t == 0) true (decide (nx a now < t))) false) = true := by
            rw [decide_eq_true c.1, cond_true]
            rcases c.2 with h | h
            · simp [h]
            · simp [h]
          rw [this, cond_true, if_pos c]; exact ih _
        · have : (cond (decide (nx a now > 0)) (cond (t == 0) true (decide (nx a now < t))) false) = false := by
            by_cases c1 : nx a now > 0
            · rw [decide_eq_true c1, cond_true]
              have c2 : ¬ (t = 0 ∨ nx a now < t) := fun h => c ⟨c1, h⟩
              have c3 : ¬ t = 0 := fun h => c2 (.inl h)
              have c4 : ¬ nx a now < t := fun h => c2 (.inr h)
              simp [c3, c4]
            · rw [decide_eq_false c1]; rfl
          rw [this, cond_false, if_neg c]; exact ih _
      by_cases c1 : now < a.From
      · rw [cond_dec c1]; exact fin _ (by unfold nx; rw [if_pos c1])
      · rw [cond_ndec c1]
        by_cases c2 : now < a.From + a.Times * a.Length
        · rw [cond_dec c2]; exact fin _ (by unfold nx en; rw [if_neg c1, if_pos c2])
        · rw [cond_ndec c2]; exact fin _ (by unfold nx en; rw [if_neg c1, if_neg c2])
    · simp only [cond_ndec hlt]
      rw [List.drop_eq_nil_of_le (by omega)]; rfl

/-- Does a time count, where another one may be known? -/
def acc (now F E v t : Int) (is : Bool) : Prop := v > now ∧ (is = false ∨ v < t) ∧ (v ≠ now + 1 ∨ (now ≥ F - 1 ∧ now < E))

instance (now F E v t : Int) (is : Bool) : Decidable (acc now F E v t is) := by unfold acc; infer_instance

theorem wake_step (k n : Nat) {now : Int} {a : S50} (ha : Ok a) (h0 : 0 ≤ now) (h1 : now ≤ 200000000000) (t : Int) (is : Bool) (l : List S50) (x24 x25 p0 p1 p2 : Int) (i : Nat) (hi : i < 3)
    (k2 : Int → Int → Bool → List S50 → Int → Int → Option (Int × Bool × Int)) :
    anim_Wake.c19 k (n + 1) now t is l x24 x25 p0 p1 p2 (i : Int) a.From a.Length a.Times a.Turn a.Stays a.Ease_Kind a.Ease_Curve_0 a.Ease_Curve_1 a.Ease_Curve_2 a.Ease_Curve_3 a.Ease_N a.Frames k2 =
      if acc now a.From (en a) ([p0, p1, p2].getD i 0) t is then
        anim_Wake.c19 k n now ([p0, p1, p2].getD i 0) true l x24 x25 p0 p1 p2 ((i + 1 : Nat) : Int) a.From a.Length a.Times a.Turn a.Stays a.Ease_Kind a.Ease_Curve_0 a.Ease_Curve_1 a.Ease_Curve_2 a.Ease_Curve_3 a.Ease_N a.Frames k2
      else anim_Wake.c19 k n now t is l x24 x25 p0 p1 p2 ((i + 1 : Nat) : Int) a.From a.Length a.Times a.Turn a.Stays a.Ease_Kind a.Ease_Curve_0 a.Ease_Curve_1 a.Ease_Curve_2 a.Ease_Curve_3 a.Ease_N a.Frames k2 := by
  rw [anim_Wake.c19]
  have g1 : (i : Int) < 3 := by omega
  have g2 : 0 ≤ (i : Int) ∧ (i : Int) < ((3 : Nat) : Int) := by omega
  have hf := ha.frm
  simp only [cond_dec g1, cond_dec g2, Int.toNat_natCast, end_eq k ha]
  rw [wrap_i64 (n := now + 1) (by omega) (by omega), wrap_i64 (n := a.From - 1) (by omega) (by omega), wrap_i64 (n := (i : Int) + 1) (by omega) (by omega)]
  rw [show (i : Int) + 1 = ((i + 1 : Nat) : Int) by omega]
  obtain ⟨v, hve⟩ : ∃ v, v = [p0, p1, p2].getD i 0 := ⟨_, rfl⟩
  simp only [← hve]
  have hb : ∀ (b : Bool) (f : Int → Option (Int × Bool × Int)), ((cond b (some (en a)) (some 0)).bind f) = f (cond b (en a) 0) := fun b f => by cases b <;> rfl
  rw [hb]
  by_cases c1 : v > now
  · by_cases c2 : is = false ∨ v < t
    · have e2 : (cond (!is) true (decide (v < t))) = true := by
        rcases c2 with h | h
        · rw [h]; rfl
        · cases is <;> simp [h]
      rw [e2, decide_eq_true c1]
      by_cases c3 : v = now + 1
      · have e3 : (v != now + 1) = false := by simp [c3]
        rw [e3]
        by_cases c4 : now ≥ a.From - 1
        · rw [decide_eq_true c4]
          by_cases c5 : now < en a
          · have : acc now a.From (en a) v t is := ⟨c1, c2, .inr ⟨c4, c5⟩⟩
            rw [if_pos this]; simp [c5]
          · have : ¬ acc now a.From (en a) v t is := fun h => by rcases h.2.2 with h | h; exact h c3; exact c5 h.2
            rw [if_neg this]; simp [c5]
        · rw [decide_eq_false c4]
          have : ¬ acc now a.From (en a) v t is := fun h => by rcases h.2.2 with h | h; exact h c3; exact c4 h.1
          rw [if_neg this]; simp
      · have e3 : (v != now + 1) = true := by simp [c3]
        have : acc now a.From (en a) v t is := ⟨c1, c2, .inl c3⟩
        rw [e3, if_pos this]; simp
    · have e2 : (cond (!is) true (decide (v < t))) = false := by
        have h1 : is = true := by cases is; exact (c2 (.inl rfl)).elim; rfl
        have h2 : ¬ v < t := fun h => c2 (.inr h)
        simp [h1, h2]
      have : ¬ acc now a.From (en a) v t is := fun h => c2 h.2.1
      rw [e2, if_neg this]; simp
  · have : ¬ acc now a.From (en a) v t is := fun h => c1 h.1
    rw [decide_eq_false c1, if_neg this]; simp

/-- Is a time later? -/
def gtB (x now : Int) : Bool := decide (x > now)

/-- What is known: the least time, if there is one. -/
def Inv (now t : Int) (is : Bool) : Prop := (is = false ∧ t = 0) ∨ (is = true ∧ t > now)

theorem wake_three (k n : Nat) {now : Int} {a : S50} (ha : Ok a) (h0 : 0 ≤ now) (h1 : now ≤ 200000000000) (t : Int) (is : Bool) (hI : Inv now t is) (l : List S50) (x24 x25 : Int)
    (k2 : Int → Int → Bool → List S50 → Int → Int → Option (Int × Bool × Int)) :
    anim_Wake.c19 k (n + 4) now t is l x24 x25 a.From (en a) (now + 1) 0 a.From a.Length a.Times a.Turn a.Stays a.Ease_Kind a.Ease_Curve_0 a.Ease_Curve_1 a.Ease_Curve_2 a.Ease_Curve_3 a.Ease_N a.Frames k2 =
      k2 now (up now t a) (gtB (up now t a) now) l x24 x25 ∧ Inv now (up now t a) (gtB (up now t a) now) := by
  have hen := en_rng ha
  have hf := ha.frm
  have w0 := fun t is => wake_step k (n + 3) ha h0 h1 t is l x24 x25 a.From (en a) (now + 1) 0 (by omega) k2
  have w1 := fun t is => wake_step k (n + 2) ha h0 h1 t is l x24 x25 a.From (en a) (now + 1) 1 (by omega) k2
  have w2 := fun t is => wake_step k (n + 1) ha h0 h1 t is l x24 x25 a.From (en a) (now + 1) 2 (by omega) k2
  have w3 : ∀ t is, anim_Wake.c19 k (n + 1) now t is l x24 x25 a.From (en a) (now + 1) ((3 : Nat) : Int) a.From a.Length a.Times a.Turn a.Stays a.Ease_Kind a.Ease_Curve_0 a.Ease_Curve_1 a.Ease_Curve_2 a.Ease_Curve_3 a.Ease_N a.Frames k2 = k2 now t is l x24 x25 := fun t is => by
    rw [anim_Wake.c19]; rfl
  have e0 : [a.From, en a, now + 1].getD 0 0 = a.From := rfl
  have e1 : [a.From, en a, now + 1].getD 1 0 = en a := rfl
  have e2 : [a.From, en a, now + 1].getD 2 0 = now + 1 := rfl
  simp only [e0, e1, e2, Nat.zero_add, Nat.reduceAdd, w3] at w0 w1 w2
  have key : anim_Wake.c19 k (n + 4) now t is l x24 x25 a.From (en a) (now + 1) 0 a.From a.Length a.Times a.Turn a.Stays a.Ease_Kind a.Ease_Curve_0 a.Ease_Curve_1 a.Ease_Curve_2 a.Ease_Curve_3 a.Ease_N a.Frames k2 =
      k2 now (up now t a) (gtB (up now t a) now) l x24 x25 := by
    refine (w0 t is).trans ?_
    have hd : ∀ x : Int, x > now → gtB x now = true := fun x h => decide_eq_true h
    have hdt : gtB t now = is := by
      rcases hI with ⟨rfl, rfl⟩ | ⟨rfl, h⟩
      · exact decide_eq_false (by omega)
      · exact decide_eq_true h
    by_cases c1 : now < a.From
    · have hnx : nx a now = a.From := by unfold nx; rw [if_pos c1]
      have no1 : ¬ acc now a.From (en a) (en a) a.From true := fun h => by rcases h.2.1 with h | h; cases h; omega
      have no2 : ¬ acc now a.From (en a) (now + 1) a.From true := fun h => by rcases h.2.1 with h' | h'; cases h'; rcases h.2.2 with h'' | h''; exact h'' rfl; omega
      by_cases c2 : is = false ∨ a.From < t
      · have y0 : acc now a.From (en a) a.From t is := ⟨c1, c2, by omega⟩
        have hu : up now t a = a.From := by
          have hcc : a.From > 0 ∧ (t = 0 ∨ a.From < t) := by
            refine ⟨by omega, ?_⟩
            rcases hI with h | h
            · exact .inl h.2
            · rcases c2 with h' | h'
              · rw [h.1] at h'; cases h'
              · exact .inr h'
          unfold up; rw [hnx, if_pos hcc]
        rw [if_pos y0, w1, if_neg no1, w2, if_neg no2, hu, hd _ c1]
      · have hit : is = true := by cases is; exact (c2 (.inl rfl)).elim; rfl
        have htt : ¬ a.From < t := fun h => c2 (.inr h)
        have ht : t > now := by rcases hI with h | h; rw [hit] at h; cases h.1; exact h.2
        have n0 : ¬ acc now a.From (en a) a.From t is := fun h => c2 h.2.1
        have n1 : ¬ acc now a.From (en a) (en a) t is := fun h => by rcases h.2.1 with h | h; rw [hit] at h; cases h; omega
        have n2 : ¬ acc now a.From (en a) (now + 1) t is := fun h => by
          rcases h.2.1 with h' | h'
          · rw [hit] at h'; cases h'
          · rcases h.2.2 with h'' | h''
            · exact h'' rfl
            · omega
        have hu : up now t a = t := by unfold up; rw [hnx, if_neg (by omega)]
        rw [if_neg n0, w1, if_neg n1, w2, if_neg n2, hu, hdt]
    · have n0 : ¬ acc now a.From (en a) a.From t is := fun h => c1 h.1
      rw [if_neg n0, w1]
      by_cases c2 : now < en a
      · have hnx : nx a now = now + 1 := by unfold nx; rw [if_neg c1, if_pos c2]
        by_cases c3 : is = false ∨ now + 1 < t
        · have hu : up now t a = now + 1 := by
            have hcc : now + 1 > 0 ∧ (t = 0 ∨ now + 1 < t) := by
              refine ⟨by omega, ?_⟩
              rcases hI with h | h
              · exact .inl h.2
              · rcases c3 with h' | h'
                · rw [h.1] at h'; cases h'
                · exact .inr h'
            unfold up; rw [hnx, if_pos hcc]
          rw [hu, hd _ (by omega)]
          by_cases c4 : acc now a.From (en a) (en a) t is
          · rw [if_pos c4, w2]
            by_cases c5 : now + 1 < en a
            · have : acc now a.From (en a) (now + 1) (en a) true := ⟨by omega, .inr c5, .inr ⟨by omega, c2⟩⟩
              rw [if_pos this]
            · have : ¬ acc now a.From (en a) (now + 1) (en a) true := fun h => by rcases h.2.1 with h | h; cases h; omega
              rw [if_neg this, show en a = now + 1 by omega]
          · rw [if_neg c4, w2]
            have : acc now a.From (en a) (now + 1) t is := ⟨by omega, c3, .inr ⟨by omega, c2⟩⟩
            rw [if_pos this]
        · have hit : is = true := by cases is; exact (c3 (.inl rfl)).elim; rfl
          have htt : ¬ now + 1 < t := fun h => c3 (.inr h)
          have ht : t > now := by rcases hI with h | h; rw [hit] at h; cases h.1; exact h.2
          have n1 : ¬ acc now a.From (en a) (en a) t is := fun h => by rcases h.2.1 with h | h; rw [hit] at h; cases h; omega
          have n2 : ¬ acc now a.From (en a) (now + 1) t is := fun h => c3 h.2.1
          have hu : up now t a = t := by unfold up; rw [hnx, if_neg (by omega)]
          rw [if_neg n1, w2, if_neg n2, hu, hdt]
      · have hnx : nx a now = 0 := by unfold nx; rw [if_neg c1, if_neg c2]
        have n1 : ¬ acc now a.From (en a) (en a) t is := fun h => c2 h.1
        have n2 : ¬ acc now a.From (en a) (now + 1) t is := fun h => by rcases h.2.2 with h' | h'; exact h' rfl; exact c2 h'.2
        have hu : up now t a = t := by unfold up; rw [hnx, if_neg (by omega)]
        rw [if_neg n1, w2, if_neg n2, hu, hdt]
  refine ⟨key, ?_⟩
  by_cases c : up now t a > now
  · exact .inr ⟨decide_eq_true c, c⟩
  · refine .inl ⟨decide_eq_false c, ?_⟩
    unfold up at c ⊢
    split
    · rename_i h
      rw [if_pos h] at c
      unfold nx at c h
      split at c
      · omega
      · split at c
        · omega
        · rename_i h3 h4; rw [if_neg h3, if_neg h4] at h; omega
    · rename_i h
      rw [if_neg h] at c
      rcases hI with h' | h'
      · exact h'.2
      · omega

theorem wake_loop (k : Nat) (l : List S50) (now : Int) (k0 : Int → Bool → Option (Int × Bool × Int)) (hl : l.length ≤ 1000) (ha : ∀ a ∈ l, Ok a) (h0 : 0 ≤ now) (h1 : now ≤ 200000000000) :
    ∀ (n i : Nat) (t : Int) (is : Bool), Inv now t is → i ≤ l.length → i + n > l.length →
      anim_Wake.c13 (k + 4) n now t is l (l.length : Int) (i : Int) k0 = k0 (wk now (l.drop i) t) (gtB (wk now (l.drop i) t) now) ∧ Inv now (wk now (l.drop i) t) (gtB (wk now (l.drop i) t) now)
  | 0, i, t, is, hI, h', h => by omega
  | n + 1, i, t, is, hI, h', h => by
    rw [anim_Wake.c13]
    by_cases hlt : (i : Int) < (l.length : Int)
    · have hi : i < l.length := by omega
      have g : 0 ≤ (i : Int) ∧ (i : Int) < (l.length : Int) := by omega
      simp only [cond_dec hlt, cond_dec g, Int.toNat_natCast]
      have hm : l.getD i S50.d ∈ l := by simp [List.getD_eq_getElem?_getD, List.getElem?_eq_getElem hi]
      have hok := ha _ hm
      rw [drop_at hi S50.d]
      obtain ⟨a, hae⟩ : ∃ a, a = l.getD i S50.d := ⟨_, rfl⟩
      simp only [← hae] at hok ⊢
      rw [end_eq (k + 4) hok, Option.bind_some, wrap_i64 (n := now + 1) (by omega) (by omega)]
      simp only [wk]
      obtain ⟨e1, e2⟩ := wake_three (k + 4) k hok h0 h1 t is hI l (l.length : Int) (i : Int) (fun y52 y53 y54 y55 y56 y57 => anim_Wake.c13 (k + 4) n y52 y53 y54 y55 y56 (IntKind.wrap .i64 (y57 + 1)) k0)
      rw [e1, wrap_i64 (n := (i : Int) + 1) (by omega) (by omega)]
      have ih := wake_loop k l now k0 hl ha h0 h1 n (i + 1) (up now t a) _ e2 (by omega) (by omega)
      rw [show ((i + 1 : Nat) : Int) = (i : Int) + 1 by omega] at ih
      exact ih
    · rw [cond_ndec hlt, List.drop_eq_nil_of_le (by omega)]
      have hdt : gtB t now = is := by
        rcases hI with ⟨rfl, rfl⟩ | ⟨rfl, h⟩
        · exact decide_eq_false (by omega)
        · exact decide_eq_true h
      simp only [wk, hdt]
      exact ⟨trivial, hI⟩

theorem wk_spec (now : Int) (h0 : 0 ≤ now) : ∀ (l : List S50) (t : Int), (∀ a ∈ l, Ok a) → t ≥ 0 → (∀ a ∈ l, nx a now = 0 ∨ (wk now l t > 0 ∧ wk now l t ≤ nx a now)) ∧ (t > 0 → wk now l t > 0 ∧ wk now l t ≤ t) ∧ wk now l t ≥ 0
  | [], t, _, ht => ⟨fun a h => by simp at h, fun h => ⟨h, Int.le_refl _⟩, ht⟩
  | b :: l, t, ha, ht => by
    have hb := ha b (by simp)
    have hn : nx b now ≥ 0 := by unfold nx; split; omega; split <;> omega
    have hu : up now t b ≥ 0 := by unfold up; split <;> omega
    obtain ⟨h1, h2, h3⟩ := wk_spec now h0 l (up now t b) (fun a h => ha a (by simp [h])) hu
    simp only [wk]
    refine ⟨fun a hm => ?_, fun h => ?_, h3⟩
    · rcases List.mem_cons.1 hm with rfl | hm
      · by_cases hz : nx a now = 0
        · exact .inl hz
        · right
          have hle : up now t a > 0 ∧ up now t a ≤ nx a now := by
            unfold up; split
            · omega
            · rename_i hc; omega
          have := h2 hle.1
          omega
      · exact h1 a hm
    · have hle : up now t b > 0 ∧ up now t b ≤ t := by unfold up; split <;> omega
      have := h2 hle.1
      omega

theorem wk_le (now : Int) (h0 : 0 ≤ now) (h1 : now ≤ 200000000000) : ∀ (l : List S50) (t : Int), (∀ a ∈ l, Ok a) → t ≤ 200000000001 → wk now l t ≤ 200000000001
  | [], t, _, ht => ht
  | b :: l, t, ha, ht => by
    have hb := (ha b (by simp)).frm
    simp only [wk]
    refine wk_le now h0 h1 l _ (fun a h => ha a (by simp [h])) ?_
    unfold up
    split
    · unfold nx; split
      · omega
      · split <;> omega
    · exact ht

theorem tl_same {a : S50} (ha : Ok a) {now x : Int} (h0 : 0 ≤ now) (hx : now ≤ x) (h : nx a now = 0 ∨ x < nx a now) : tl a x = tl a now := by
  have hen := en_rng ha
  by_cases c1 : now < a.From
  · have hn : nx a now = a.From := by unfold nx; rw [if_pos c1]
    rw [hn] at h
    have := ha.frm
    unfold tl
    rw [if_pos c1, if_pos (by omega)]
  · by_cases c2 : now < en a
    · have hn : nx a now = now + 1 := by unfold nx; rw [if_neg c1, if_pos c2]
      rw [hn] at h
      rw [show x = now by omega]
    · unfold en at c2 hen
      have i1 : ¬ x < a.From := by omega
      have i2 : x ≥ a.From + a.Times * a.Length := by omega
      have i3 : now ≥ a.From + a.Times * a.Length := by omega
      unfold tl
      rw [if_neg i1, if_pos i2, if_neg c1, if_pos i3]

theorem fold_same {now x : Int} (h0 : 0 ≤ now) (hx : now ≤ x) : ∀ (l : List S50) (b : Int × Int), (∀ a ∈ l, Ok a) → (∀ a ∈ l, nx a now = 0 ∨ x < nx a now) → fold x l b = fold now l b
  | [], b, _, _ => rfl
  | a :: l, b, h, h' => by
    simp only [fold]
    rw [tl_same (h a (by simp)) h0 hx (h' a (by simp)), fold_same h0 hx l _ (fun y hy => h y (by simp [hy])) (fun y hy => h' y (by simp [hy]))]

theorem wakes_law (l : List S50) (b1 b2 now at_ : Int) : ∃ k, clerestorykeep2_AnimWakes k l b1 b2 now at_ = some true := by
  refine ⟨40, ?_⟩
  unfold clerestorykeep2_AnimWakes
  rw [stepped_eq 20]
  have e := fun l b1 b2 now => At_eq 0 l b1 b2 now
  simp only [Nat.zero_add] at e
  simp only [e, Option.bind_some]
  by_cases h : re 40 l now = 0
  rotate_left
  · have hw : anim_Wake 40 l now = some (0, false, re 40 l now) := by
      unfold anim_Wake
      have := right_eq 20 l now
      simp only [Nat.reduceAdd] at this
      rw [this, Option.bind_some]
      have : (re 40 l now != 0) = true := by simpa using h
      rw [this]; rfl
    rw [hw, Option.bind_some]
    unfold atv
    have : (re 40 l now != 0) = true := by simpa using h
    rw [if_pos h]
    simp [this]
  · obtain ⟨hlen, hok, hn0, hn1⟩ := re_ok (k := 20) h
    have hne : (re 40 l now != 0) = false := by simpa using h
    obtain ⟨w1, w2⟩ := wake_loop 36 l now (fun y59 y60 => some (y59, y60, 0)) (by omega) hok hn0 hn1 40 0 0 false (.inl ⟨rfl, rfl⟩) (by omega) (by omega)
    simp only [List.drop_zero, Nat.reduceAdd] at w1 w2
    have hw : anim_Wake 40 l now = some (wk now l 0, gtB (wk now l 0) now, 0) := by
      unfold anim_Wake
      have := right_eq 20 l now
      simp only [Nat.reduceAdd] at this
      rw [this, Option.bind_some, hne, cond_false]
      exact w1
    have hk : clerestorykeep2_waking 40 l now = some (wk now l 0) := by
      unfold clerestorykeep2_waking
      have := waking_loop 40 l now (fun y35 => some y35) (by omega) hok hn0 hn1 40 0 0 (by omega) (by omega)
      simpa using this
    obtain ⟨p1, _, p3⟩ := wk_spec now hn0 l 0 hok (Int.le_refl 0)
    have ha0 : atv 40 l b1 b2 now = ((fold now l (b1, b2)).1, (fold now l (b1, b2)).2, 0) := by unfold atv; rw [if_neg (by simpa using h)]
    have hw2 := wk_le now hn0 hn1 l 0 hok (by omega)
    rw [hw, hk, ha0]
    generalize wk now l 0 = t at w2 p1 p3 hw2
    have key : ∀ span : Int, 0 < span → span ≤ 1000000000000 → (∀ a ∈ l, nx a now = 0 ∨ now + span ≤ nx a now) →
        clerestorykeep2_AnimWakes.c22 40 l now at_ true span b1 b2 (fold now l (b1, b2)).1 (fold now l (b1, b2)).2 = some true := by
      intro span s0 s1 hs
      unfold clerestorykeep2_AnimWakes.c22
      have hws : IntKind.wrap .u64 span = span := by rw [wrap_u64]; omega
      have hwz : (span != 0) = true := by rw [bne_iff_ne]; omega
      rw [hws, hwz, cond_true]
      simp only [e]
      have hm : 0 ≤ Int.tmod (IntKind.wrap .u64 at_) span ∧ Int.tmod (IntKind.wrap .u64 at_) span < span := by
        rw [wrap_u64, tmod_u _ (by omega)]; exact ⟨Int.emod_nonneg _ (by omega), Int.emod_lt_of_pos _ s0⟩
      generalize Int.tmod (IntKind.wrap .u64 at_) span = x at hm
      simp only [Option.bind_some]
      generalize hX : IntKind.wrap .i64 (now + IntKind.wrap .i64 x) = X
      by_cases hr : re 40 l X = 0
      · have hrx := re_ok (k := 20) hr
        unfold atv
        rw [if_neg (by simpa using hr)]
        have hXn : now ≤ X ∧ X < now + span := by
          rw [wrap_i64 (n := x) (by omega) (by omega), wrap_i64 (by omega) (by omega)] at hX; omega
        have hfs : fold X l (b1, b2) = fold now l (b1, b2) := by
          exact fold_same hn0 hXn.1 l _ hok fun a hm => by
            rcases hs a hm with h | h
            · exact .inl h
            · exact .inr (by omega)
        rw [hfs]; simp
      · have : (re 40 l X != 0) = true := by simpa using hr
        unfold atv
        rw [if_pos hr]
        simp [this]
    rcases w2 with ⟨q1, q2⟩ | ⟨q1, q2⟩
    · subst q2
      have := key 1000000 (by omega) (by omega) (fun a hm => by rcases p1 a hm with h | h; exact .inl h; omega)
      simp only [q1]
      simpa using this
    · have hd : decide (t > 0) = true := decide_eq_true (by omega)
      have hle : ¬ t ≤ now := by omega
      have := key (t - now) (by omega) (by omega) (fun a hm => by rcases p1 a hm with h | h; exact .inl h; exact .inr (by omega))
      simp only [q1, hd, Option.bind_some]
      rw [wrap_i64 (n := t - now) (by omega) (by omega)]
      simp [hle, this]
end
end Go.Ev.An
