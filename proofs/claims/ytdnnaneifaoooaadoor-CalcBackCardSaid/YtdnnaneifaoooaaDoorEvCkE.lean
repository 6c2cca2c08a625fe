/- CalcBack: a term that was read is told, and read the same. No condition beyond those that each theorem names. -/
import Derived.Test.YtdnnaneifaoooaaDoorEvCkW
set_option linter.unusedVariables false
set_option linter.unusedSimpArgs false
set_option maxRecDepth 10000
namespace Go.Ev.Ck
open Go Go.Ev.Tok

/-- What Read gives of an outcome. -/
def endP : Out → Int × Int × (List UInt8) × (List S52) × Int
  | .err e => (0, 0, [], [], e)
  | .ok t l n g => bif (gapP l).isEmpty then (t.Kind, t.Dim_Num, t.Dim_Unit, t.Subs, 0) else (0, 0, [], [], 4)

theorem endP_ok (t : S52) (l : List Tk) (n : Int) (g : Bool) : endP (.ok t l n g) = bif (gapP l).isEmpty then (t.Kind, t.Dim_Num, t.Dim_Unit, t.Subs, 0) else (0, 0, [], [], 4) := rfl

theorem Read_long (k : Nat) (s : List UInt8) (h : 400 < s.length) : calc_Read k s = some (0, 0, [], [], 2) := by
  unfold calc_Read
  rw [decide_eq_true (show (s.length : Int) > 400 by omega)]
  rfl

theorem Read_short (k : Nat) (hk : 100010 < k) (s : List UInt8) (h : s.length ≤ 400) : ∃ o, (recP k k).val false (gapP (cutP s)) 0 false = some o ∧ calc_Read k s = some (endP o) ∧
    (∀ e, o = .err e → e = 4 ∨ e = 2) ∧ ∀ t l n g, o = .ok t l n g → ∃ m : Nat, GoodT t m ∧ m ≤ 30 := by
  have hf := (Fit.cut s (by omega)).gap
  have hc := (Fit.cut s (by omega))
  have hlen : (gapP (cutP s)).length ≤ 400 := Nat.le_trans (gapP_le _) (Nat.le_trans (cutP_len _ s (Nat.le_refl _)) h)
  obtain ⟨o, ho, hok⟩ := (rec_ends k (by omega) k).val false (gapP (cutP s)) 0 false hf (by omega)
  obtain ⟨v1, v2⟩ := (rec_eq k hk k).val false (gapP (cutP s)) 0 false hf (by decide) (by decide)
  rw [ho] at v1 v2
  refine ⟨o, ho, ?_, fun e he => by subst he; exact hok, fun t l n g he => ?_⟩
  · unfold calc_Read
    rw [decide_eq_false (show ¬ (s.length : Int) > 400 by omega)]
    simp only [cond_false]
    rw [Cut_eq k s (by omega) (by omega)]
    simp only [Option.bind_some]
    rw [show toks s = (cutP s).map mk from rfl, gap1_eq k (by omega) _ hc.len]
    simp only [Option.bind_some]
    unfold calc_reader__value
    rw [v1]
    cases o with
    | err e => rfl
    | ok t l n g =>
      obtain ⟨⟨j, hj⟩, _, _⟩ := v2 t l n g rfl
      have hfl : Fit l := by rw [hj]; exact hf.drop j
      simp only [Option.map_some, Option.bind_some, Out.rep, cond_false]
      rw [gap2_eq k (by omega) l hfl.len]
      simp only [Option.bind_some, List.length_map]
      rw [need_eq]
      simp only [Option.bind_some]
      rw [endP_ok]
      cases hg : gapP l with
      | nil => rfl
      | cons u r =>
        have : ((((u :: r).length : Nat) : Int) == (0 : Int)) = false := beq_eq_false_iff_ne.2 (by simp only [List.length_cons]; omega)
        rw [this]
        rfl
  · subst he
    obtain ⟨_, m, h1, h2⟩ := hok
    obtain ⟨_, _, b2⟩ := v2 t l n g rfl
    exact ⟨m, h1, by omega⟩

/-- What is told in calc( ) is read as the term. -/
theorem read_told (k : Nat) (hk : 100010 < k) (t : S52) (m : Nat) (hm : m ≤ 30) (s : List UInt8) (T : List Tk) (h : Told k t m s T) (hl : ([99, 97, 108, 99, 40] ++ s ++ [41]).length ≤ 400) :
    calc_Read k ([99, 97, 108, 99, 40] ++ s ++ [41]) = some (t.Kind, t.Dim_Num, t.Dim_Unit, t.Subs, 0) := by
  have hr := h.rc.close.fn (w := [99, 97, 108, 99]) (cut_calc _) rfl
  have e : ([99, 97, 108, 99, 40] ++ s ++ [41] : List UInt8) = [99, 97, 108, 99] ++ 40 :: (s ++ [41]) := by simp
  obtain ⟨o, h1, h2, _⟩ := Read_short k hk _ hl
  rw [h2]
  rw [e, hr.cu] at h1
  have hg : gapP (FNt [99, 97, 108, 99] :: (T ++ [CLt])) = FNt [99, 97, 108, 99] :: (T ++ [CLt]) := rfl
  rw [hg] at h1
  obtain ⟨f, hf⟩ : ∃ f, k = f + 3 := ⟨k - 3, by omega⟩
  have hv : (recP k k).val = valP k (recP k (f + 2)) := by rw [show recP k k = recP k (f + 3) by rw [← hf]]; rfl
  rw [hv] at h1
  have hp : valP k (recP k (f + 2)) false (FNt [99, 97, 108, 99] :: (T ++ [CLt])) 0 false = parenP (recP k (f + 2)) (T ++ [CLt]) 0 false := rfl
  rw [hp] at h1
  unfold parenP at h1
  rw [sum_one (by omega) h f (by omega) (T ++ [CLt]) [CLt] 0 false (by decide) (by omega) (gap_hd h.hd) (stp_cl [])] at h1
  have : some (Out.ok t [] (0 + m) false) = some o := h1
  cases this
  rfl

theorem same_loop (k : Nat) (r : clerestorykeep2_sameTerm_v2.G.R) (l : List S52) (hl : l.length ≤ 1000) (hr : ∀ x ∈ l, r.clerestorykeep2_sameTerm_v2 x.Kind x.Dim_Num x.Dim_Unit x.Subs x.Kind x.Dim_Num x.Dim_Unit x.Subs = some true) (a b : Int) (c : List UInt8) (d e : Int) (g : List UInt8) :
    ∀ (n i : Nat), i ≤ l.length → l.length - i < n → clerestorykeep2_sameTerm_v2.c9 k r n (i : Int) a b c l d e g l (some true) = some true
  | 0, i, _, h => by omega
  | n + 1, i, hi, hn => by
    unfold clerestorykeep2_sameTerm_v2.c9
    simp only [Int.toNat_natCast]
    rcases Nat.lt_or_ge i l.length with h1 | h1
    · have hg : l.getD i S52.d = l[i] := by rw [List.getD_eq_getElem?_getD, List.getElem?_eq_getElem h1]; rfl
      have w1 : IntKind.wrap .i64 ((i : Int) + 1) = ((i + 1 : Nat) : Int) := by rw [wrap_i64 (by omega) (by omega)]; omega
      have d1 : decide ((i : Int) < (l.length : Int)) = true := decide_eq_true (by omega)
      have d2 : decide (0 ≤ (i : Int) ∧ (i : Int) < (l.length : Int)) = true := decide_eq_true (by omega)
      simp only [d1, d2, hg, cond_true]
      rw [hr _ (List.getElem_mem h1)]
      simp only [Option.bind_some, Bool.not_true, cond_false, w1]
      exact same_loop k r l hl hr a b c d e g n (i + 1) (by omega) (by omega)
    · rw [show decide ((i : Int) < (l.length : Int)) = false from decide_eq_false (by omega)]
      rfl

theorem same_of (k : Nat) (hk : 2000 < k) (r : clerestorykeep2_sameTerm_v2.G.R) (a b : Int) (c : List UInt8) (l : List S52) (hl : l.length ≤ 1000)
    (hr : ∀ x ∈ l, r.clerestorykeep2_sameTerm_v2 x.Kind x.Dim_Num x.Dim_Unit x.Subs x.Kind x.Dim_Num x.Dim_Unit x.Subs = some true) : clerestorykeep2_sameTerm_v2.nat k r a b c l a b c l = some true := by
  unfold clerestorykeep2_sameTerm_v2.nat
  have e1 : (!((b == b) && ((c == c) && true))) = false := by simp
  have e2 : ((l.length : Int) != (l.length : Int)) = false := by simp
  have e3 : (a != a) = false := by simp
  simp only [e1, e2, e3, cond_false]
  exact same_loop k r l hl hr a b c a b c k 0 (by omega) (by omega)

theorem goodL_each : ∀ {l : List S52} {m : Nat}, GoodL l m → l.length ≤ m ∧ ∀ x ∈ l, ∃ n, n ≤ m ∧ GoodT x n
  | [], m, h => by cases h; exact ⟨by simp, fun x hx => by cases hx⟩
  | t :: l, m, h => by
    cases h with
    | cons _ _ m1 n1 ht hl =>
      obtain ⟨h1, h2⟩ := goodL_each hl
      have : 1 ≤ m1 := by cases ht <;> omega
      refine ⟨by simp only [List.length_cons]; omega, fun x hx => ?_⟩
      rcases List.mem_cons.1 hx with rfl | hx
      · exact ⟨m1, by omega, ht⟩
      · obtain ⟨n, h3, h4⟩ := h2 x hx
        exact ⟨n, by omega, h4⟩

theorem same_ok (k : Nat) (hk : 2000 < k) : ∀ (N : Nat) (t : S52) (m : Nat), m ≤ N → m ≤ 30 → GoodT t m → ∀ f, m ≤ f → (clerestorykeep2_sameTerm_v2.G.rec k f).clerestorykeep2_sameTerm_v2 t.Kind t.Dim_Num t.Dim_Unit t.Subs t.Kind t.Dim_Num t.Dim_Unit t.Subs = some true
  | 0, t, m, hN, _, h, f, hf => by
    exfalso
    cases h <;> omega
  | N + 1, t, m, hN, h30, h, f, hf => by
    obtain ⟨j, rfl⟩ : ∃ j, f = j + 1 := ⟨f - 1, by cases h <;> omega⟩
    cases h with
    | num x u h => exact same_of k hk _ _ _ _ _ (by simp) (fun x hx => by cases hx)
    | bin kd a b m1 m2 hkd ha hb =>
      refine same_of k hk _ _ _ _ _ (by simp) (fun x hx => ?_)
      simp at hx
      rcases hx with rfl | rfl
      · exact same_ok k hk N _ m1 (by omega) (by omega) ha j (by omega)
      · exact same_ok k hk N _ m2 (by omega) (by omega) hb j (by omega)
    | fn kd l m' hkd hs hl =>
      obtain ⟨h1, h2⟩ := goodL_each hl
      refine same_of k hk _ _ _ _ _ (by show l.length ≤ 1000; omega) (fun x hx => ?_)
      obtain ⟨n, h3, h4⟩ := h2 x hx
      exact same_ok k hk N _ n (by omega) (by omega) h4 j (by omega)

theorem twice_ok : clerestorykeep2_twice 300011 = some true := by kernel_rfl

theorem same_zero : clerestorykeep2_sameTerm 300011 0 0 [] [] 0 0 [] = some true := by kernel_rfl

theorem kind_pos {t : S52} {m : Nat} (h : GoodT t m) : (0 != t.Kind) = true := by
  cases h with
  | num => rfl
  | bin k a b m n hk ha hb => rcases hk with rfl | rfl | rfl | rfl <;> rfl
  | fn k l m hk hs hl => rcases hk with rfl | rfl | rfl <;> rfl

theorem same_no {t : S52} {m : Nat} (h : GoodT t m) : clerestorykeep2_sameTerm_v2 300011 0 0 [] [] t.Kind t.Dim_Num t.Dim_Unit t.Subs = some false := by
  show clerestorykeep2_sameTerm_v2.nat 300011 (clerestorykeep2_sameTerm_v2.G.rec 300011 300010) 0 0 [] [] t.Kind t.Dim_Num t.Dim_Unit t.Subs = _
  unfold clerestorykeep2_sameTerm_v2.nat
  simp only [kind_pos h, cond_true]

theorem err_of (k : Nat) (s : List UInt8) (e : Int) (he : e = 4 ∨ e = 2) (h0 : clerestorykeep2_twice k = some true) (h1 : calc_Read k s = some (0, 0, [], [], e)) (h2 : clerestorykeep2_sameTerm k 0 0 [] [] 0 0 [] = some true) : clerestorykeep2_CalcBack k s = some true := by
  unfold clerestorykeep2_CalcBack
  rw [h0, Option.bind_some, h1, Option.bind_some]
  have e1 : (e != 0) = true := by rw [bne_iff_ne]; omega
  have e2 : (cond (e == (4 : Int)) true (e == (2 : Int))) = true := by rcases he with rfl | rfl <;> rfl
  simp only [e1, e2, cond_true]
  rw [h2]
  rfl

theorem ok_of (k : Nat) (s u : List UInt8) (t : S52) (x : Int × Int × (List UInt8) × (List S52) × Int) (b : Bool) (h0 : clerestorykeep2_twice k = some true) (h1 : calc_Read k s = some (t.Kind, t.Dim_Num, t.Dim_Unit, t.Subs, 0))
    (h2 : calc_Text k t.Kind t.Dim_Num t.Dim_Unit t.Subs = some u) (hu : u.length ≤ 100000) (h3 : calc_Read k ([99, 97, 108, 99, 40] ++ u ++ [41]) = some x)
    (h4 : clerestorykeep2_sameTerm_v2 k x.1 x.2.1 x.2.2.1 x.2.2.2.1 t.Kind t.Dim_Num t.Dim_Unit t.Subs = some b) (h5 : 400 < ([99, 97, 108, 99, 40] ++ u ++ [41]).length ∨ (x.2.2.2.2 = 0 ∧ b = true)) : clerestorykeep2_CalcBack k s = some true := by
  unfold clerestorykeep2_CalcBack
  rw [h0, Option.bind_some, h1, Option.bind_some]
  have b1 : Nat.ble (([99, 97, 108, 99, 40] : List UInt8).length + u.length) 9223372036854775807 = true := Nat.ble_eq_true_of_le (by simp only [List.length_cons, List.length_nil]; omega)
  have b2 : Nat.ble (([99, 97, 108, 99, 40] ++ u : List UInt8).length + ([41] : List UInt8).length) 9223372036854775807 = true := Nat.ble_eq_true_of_le (by simp only [List.length_append, List.length_cons, List.length_nil]; omega)
  have e1 : ((0 : Int) != 0) = false := rfl
  simp only [e1, cond_false]
  rw [h2, Option.bind_some]
  simp only [b1, b2, cond_true]
  rw [h3, Option.bind_some, h4, Option.bind_some]
  congr 1
  rcases h5 with h5 | ⟨h5, rfl⟩
  · have : decide ((([99, 97, 108, 99, 40] ++ u ++ [41] : List UInt8).length : Int) > 400) = true := decide_eq_true (by omega)
    rw [this]
    rfl
  · rw [h5]
    cases decide ((([99, 97, 108, 99, 40] ++ u ++ [41] : List UInt8).length : Int) > 400) <;> rfl

theorem back_ex (s : List UInt8) : ∃ k, clerestorykeep2_CalcBack k s = some true := by
  refine ⟨300011, ?_⟩
  rcases Nat.lt_or_ge 400 s.length with hs | hs
  · exact err_of _ s 2 (.inr rfl) twice_ok (Read_long _ s hs) same_zero
  · obtain ⟨o, h1, h2, h3, h4⟩ := Read_short 300011 (by decide) s hs
    cases o with
    | err e => exact err_of _ s e (h3 e rfl) twice_ok h2 same_zero
    | ok t l n g =>
      obtain ⟨m, hm, hm30⟩ := h4 t l n g rfl
      cases hg : (gapP l).isEmpty with
      | false =>
        have : endP (.ok t l n g) = (0, 0, [], [], 4) := by rw [endP_ok, hg]; rfl
        rw [this] at h2
        exact err_of _ s 4 (.inl rfl) twice_ok h2 same_zero
      | true =>
        have : endP (.ok t l n g) = (t.Kind, t.Dim_Num, t.Dim_Unit, t.Subs, 0) := by rw [endP_ok, hg]; rfl
        rw [this] at h2
        obtain ⟨u, T, hT⟩ := told 300011 (by decide) m t m (Nat.le_refl _) hm30 hm
        have hln := hT.ln
        rcases Nat.lt_or_ge 400 ([99, 97, 108, 99, 40] ++ u ++ [41]).length with hl | hl
        · exact ok_of _ s u t _ false twice_ok h2 (hT.tx 300011 (by omega)) (by omega) (Read_long _ _ hl) (same_no hm) (.inl hl)
        · exact ok_of _ s u t _ true twice_ok h2 (hT.tx 300011 (by omega)) (by omega) (read_told 300011 (by decide) t m hm30 u T hT hl) (same_ok 300011 (by decide) m t m (Nat.le_refl _) hm30 hm 300011 (by omega)) (.inr ⟨rfl, rfl⟩)

end Go.Ev.Ck
