/- What is told of media queries is read the same. No condition beyond those that each theorem names. -/
import Derived.Test.YtmiipooplgcelaaGreatDoorEvMdW
import Derived.Test.YtmiipooplgcelaaGreatDoorEvDbP
set_option linter.unusedVariables false
set_option linter.unusedSimpArgs false
set_option maxRecDepth 10000
namespace Go.Ev.Md
open Go Go.Ev.Tok

/-- A text and its tokens without blanks; its end wants no more. -/
structure Rel (s : List UInt8) (T : List Tk) : Prop where
  ne : s ≠ []
  hb : cnt isBlank s = 0
  so : solP (cutP s) = T
  nu : ∀ u, (cutP s).getLast? = some u → u.1 ≠ 6 ∧ u.1 ≠ 8 ∧ u.1 ≠ 9

def SPt : Tk := (8, [32], [], 0)
def COMt : Tk := (12, [44], [], 0)
def ANDt : Tk := (1, [97, 110, 100], [97, 110, 100], 0)
def NOTt : Tk := (1, [110, 111, 116], [110, 111, 116], 0)

theorem stop32 : Stop 32 := ⟨by decide, by decide, by decide, by decide, by decide, by decide⟩
theorem stop44 : Stop 44 := ⟨by decide, by decide, by decide, by decide, by decide, by decide⟩
theorem stp41 : Stop 41 := ⟨by decide, by decide, by decide, by decide, by decide, by decide⟩

theorem Rel.fin {s : List UInt8} {T : List Tk} (h : Rel s T) (z : UInt8) : ¬ Unfin z s := by
  rintro ⟨u, hu, hk⟩
  have := h.nu u hu
  rcases hk with hk | ⟨hk, _⟩ | hk
  · exact this.1 hk
  · exact this.2.1 hk
  · exact this.2.2 hk

theorem cut_ne {s : List UInt8} (h : s ≠ []) : cutP s ≠ [] := by rw [cutP_cons s h]; simp

theorem cnt_head {s t : List UInt8} (h : s ≠ []) (hb : cnt isBlank s = 0) : cnt isBlank (s ++ t) = 0 := by
  match s, h with
  | a :: r, _ =>
    have : isBlank a = false := by
      cases ha : isBlank a with
      | false => rfl
      | true => unfold cnt at hb; rw [List.takeWhile_cons, ha] at hb; simp at hb
    unfold cnt
    rw [List.cons_append, List.takeWhile_cons, this]; rfl

theorem solP_app (a b : List Tk) : solP (a ++ b) = solP a ++ solP b := by unfold solP; rw [List.filter_append]

theorem last_app {α : Type} {a b : List α} (h : b ≠ []) : (a ++ b).getLast? = b.getLast? := by
  rw [List.getLast?_append]
  match hb : b.getLast? with
  | none => exact absurd (List.getLast?_eq_none_iff.1 hb) h
  | some x => rfl

theorem tok1_comma (t : List UInt8) : tok1 (44 :: t) = (12, 1, [], 0) := by
  have h1 : cnt isBlank (44 :: t) = 0 := rfl
  have h2 : nlen (44 :: t) = 0 := rfl
  have h3 : bg (44 :: t) = false := by cases t <;> rfl
  unfold tok1
  rw [h1, h2, h3]
  rfl
theorem cut_comma (t : List UInt8) : cutP (44 :: t) = COMt :: cutP t := by
  rw [cutP_cons _ (by simp), tok1_comma]
  rfl

theorem Rel.blank {s s' : List UInt8} {T T' : List Tk} (h : Rel s T) (h' : Rel s' T') : Rel (s ++ 32 :: s') (T ++ T') := by
  have hc : cutP (s ++ 32 :: s') = cutP s ++ (SPt :: cutP s') := by rw [cut_apart' stop32 s' _ s (Nat.le_refl _) (h.fin 32), cut_blank s' h'.hb]; rfl
  refine ⟨by simp, cnt_head h.ne h.hb, ?_, fun u hu => ?_⟩
  · rw [hc, solP_app, h.so, ← h'.so]
    rfl
  · rw [hc, last_app (by simp), List.getLast?_cons, Option.some_inj] at hu
    refine h'.nu u ?_
    rw [← hu]
    match hg : (cutP s').getLast? with
    | none => exact absurd (List.getLast?_eq_none_iff.1 hg) (cut_ne h'.ne)
    | some x => rfl

theorem Rel.comma {s s' : List UInt8} {T T' : List Tk} (h : Rel s T) (h' : Rel s' T') : Rel (s ++ 44 :: 32 :: s') (T ++ COMt :: T') := by
  have hc : cutP (s ++ 44 :: 32 :: s') = cutP s ++ (COMt :: SPt :: cutP s') := by rw [cut_apart' stop44 (32 :: s') _ s (Nat.le_refl _) (h.fin 44), cut_comma, cut_blank s' h'.hb]; rfl
  refine ⟨by simp, cnt_head h.ne h.hb, ?_, fun u hu => ?_⟩
  · rw [hc, solP_app, h.so, ← h'.so]
    rfl
  · rw [hc, last_app (by simp), List.getLast?_cons, List.getLast?_cons] at hu
    refine h'.nu u ?_
    rw [← hu]
    match hg : (cutP s').getLast? with
    | none => exact absurd (List.getLast?_eq_none_iff.1 hg) (cut_ne h'.ne)
    | some x => rfl

theorem Rel.comma' {s s' : List UInt8} {T T' : List Tk} (h : Rel s T) (h' : Rel s' T') : Rel (s ++ 32 :: 44 :: s') (T ++ COMt :: T') := by
  have hc : cutP (s ++ 32 :: 44 :: s') = cutP s ++ (SPt :: COMt :: cutP s') := by
    rw [cut_apart' stop32 (44 :: s') _ s (Nat.le_refl _) (h.fin 32), cut_blank (44 :: s') rfl, cut_comma]; rfl
  refine ⟨by simp, cnt_head h.ne h.hb, ?_, fun u hu => ?_⟩
  · rw [hc, solP_app, h.so, ← h'.so]
    rfl
  · rw [hc, last_app (by simp), List.getLast?_cons, List.getLast?_cons] at hu
    refine h'.nu u ?_
    rw [← hu]
    match hg : (cutP s').getLast? with
    | none => exact absurd (List.getLast?_eq_none_iff.1 hg) (cut_ne h'.ne)
    | some x => rfl

/-- A closed test for texts that are known. -/
def relB (s : List UInt8) (T : List Tk) : Bool :=
  (!s.isEmpty) && (cnt isBlank s == 0) && (solP (cutP s) == T) && (match (cutP s).getLast? with | some u => u.1 != 6 && u.1 != 8 && u.1 != 9 | none => false)
theorem rel_of {s : List UInt8} {T : List Tk} (h : relB s T = true) : Rel s T := by
  unfold relB at h
  simp only [Bool.and_eq_true, Bool.not_eq_true', beq_iff_eq] at h
  obtain ⟨⟨⟨h1, h2⟩, h3⟩, h4⟩ := h
  refine ⟨fun e => (by rw [e] at h1; cases h1), h2, h3, fun u hu => ?_⟩
  rw [hu] at h4
  simp only [Bool.and_eq_true, bne_iff_ne] at h4
  exact ⟨h4.1.1, h4.1.2, h4.2⟩

def OPt : Tk := (10, [40], [], 0)
def CLt : Tk := (11, [41], [], 0)
def COLt : Tk := (12, [58], [], 0)
def nmT (w : List UInt8) : Tk := (1, w, w, 0)
def pxT (n : Int) : Tk := (7, Lib.decDigits n.toNat ++ [112, 120], [112, 120], 1000 * n)

/-- A feature's tokens. -/
def fsol (f : S38) : List Tk :=
  bif decide (1 ≤ f.Kind) && decide (f.Kind ≤ 3) then [nmT (wordsL.getD f.Kind.toNat [])]
  else bif decide (4 ≤ f.Kind) && decide (f.Kind ≤ 7) then [OPt, nmT (wordsL.getD f.Kind.toNat []), COLt, pxT f.Num, CLt]
  else bif decide (8 ≤ f.Kind) && decide (f.Kind ≤ 11) then solP (cutP (ftext f))
  else [OPt, (12, [63], [], 0), CLt]

theorem cutP_px (n : Int) (h0 : 0 ≤ n) (h1 : n ≤ 1000000) : cutP (Lib.decDigits n.toNat ++ [112, 120]) = [pxT n] := by
  have hf : frT (1000 * n.toNat % 1000) = [] := by rw [Nat.mul_mod_right]; decide
  have hd : 1000 * n.toNat / 1000 = n.toNat := Nat.mul_div_cancel_left _ (by decide)
  have := tok_numS false (1000 * n.toNat) [112, 120] (fun c hc => by cases hc; exact ⟨by decide, by decide⟩) (by decide) (by omega)
  unfold numS at this
  rw [hf, hd] at this
  simp only [cond_false, List.nil_append, List.append_nil, Bool.false_eq_true, if_false] at this
  rw [this]
  unfold pxT
  have : ((1000 * n.toNat : Nat) : Int) = 1000 * n := by omega
  rw [this]

theorem Rel.stop41 {s : List UInt8} {T : List Tk} (h : Rel s T) : Rel (s ++ [41]) (T ++ [CLt]) := by
  have hc : cutP (s ++ [41]) = cutP s ++ [CLt] := by rw [cut_apart' stp41 [] _ s (Nat.le_refl _) (h.fin 41)]; rfl
  refine ⟨by simp, cnt_head h.ne h.hb, ?_, fun u hu => ?_⟩
  · rw [hc, solP_app, h.so]
    rfl
  · rw [hc, last_app (by simp)] at hu
    have : u = CLt := (Option.some.inj hu).symm
    subst this
    exact ⟨by decide, by decide, by decide⟩

theorem rel_num (w : List UInt8) (hw : relB ([40] ++ w ++ [58]) [OPt, nmT w, COLt] = true) (n : Int) (h0 : 0 ≤ n) (h1 : n ≤ 1000000) :
    Rel ([40] ++ w ++ [58, 32] ++ Lib.itoa n ++ [112, 120, 41]) [OPt, nmT w, COLt, pxT n, CLt] := by
  have hc := cutP_px n h0 h1
  have hd : Rel (Lib.decDigits n.toNat ++ [112, 120]) [pxT n] := by
    refine ⟨by simp, ?_, by rw [hc]; rfl, fun u hu => by
      rw [hc] at hu
      have : u = pxT n := (Option.some.inj hu).symm
      subst this
      exact ⟨show (7 : Int) ≠ 6 by decide, show (7 : Int) ≠ 8 by decide, show (7 : Int) ≠ 9 by decide⟩⟩
    match hx : Lib.decDigits n.toNat with
    | [] => exact absurd hx (dec_ne _)
    | c :: r =>
      have hcd := dec_dig n.toNat c (by rw [hx]; simp)
      have : isBlank c = false := by
        have := sg_not (c := c) (by unfold isSg; rw [hcd]; simp)
        exact this.1
      unfold cnt
      rw [List.cons_append, List.takeWhile_cons, this]; rfl
  have := (rel_of hw).blank hd.stop41
  rw [(itoa_le n h0 h1).1]
  simpa [List.append_assoc] using this

theorem frel (f : S38) (h : GoodF f) : Rel (ftext f) (fsol f) := by
  obtain ⟨kd, num⟩ := f
  rcases h with ⟨h0, h1⟩ | ⟨h0, h1, h2⟩
  · simp only at h0 h1
    subst h0
    rcases h1 with rfl | rfl | rfl | rfl | rfl | rfl | rfl | rfl <;> exact rel_of (by decide +kernel)
  · simp only at h0 h1 h2
    have w4 : relB ([40] ++ wordsL.getD (4 : Int).toNat [] ++ [58]) [OPt, nmT (wordsL.getD (4 : Int).toNat []), COLt] = true := by decide +kernel
    have w5 : relB ([40] ++ wordsL.getD (5 : Int).toNat [] ++ [58]) [OPt, nmT (wordsL.getD (5 : Int).toNat []), COLt] = true := by decide +kernel
    have w6 : relB ([40] ++ wordsL.getD (6 : Int).toNat [] ++ [58]) [OPt, nmT (wordsL.getD (6 : Int).toNat []), COLt] = true := by decide +kernel
    have w7 : relB ([40] ++ wordsL.getD (7 : Int).toNat [] ++ [58]) [OPt, nmT (wordsL.getD (7 : Int).toNat []), COLt] = true := by decide +kernel
    rcases h2 with rfl | rfl | rfl | rfl
    · exact rel_num _ w4 num h0 h1
    · exact rel_num _ w5 num h0 h1
    · exact rel_num _ w6 num h0 h1
    · exact rel_num _ w7 num h0 h1

/-- A query's tokens. -/
def qfT : List S38 → List Tk
  | [] => []
  | f :: r => fsol f ++ (r.map fun g => ANDt :: fsol g).flatten
def qT (q : S36) : List Tk := bif q.Not then NOTt :: qfT q.Features else qfT q.Features
def toksL : List S36 → List Tk
  | [] => []
  | q :: r => qT q ++ (r.map fun g => COMt :: qT g).flatten

theorem rel_and : Rel [97, 110, 100] [ANDt] := rel_of (by decide +kernel)
theorem rel_not : Rel [110, 111, 116] [NOTt] := rel_of (by decide +kernel)

theorem rel_feats : ∀ (r : List S38) (s : List UInt8) (T : List Tk), (∀ f ∈ r, GoodF f) → Rel s T → Rel (s ++ (r.map fun g => AND_ ++ ftext g).flatten) (T ++ (r.map fun g => ANDt :: fsol g).flatten)
  | [], s, T, _, h => by simpa using h
  | f :: r, s, T, hf, h => by
    have h1 := (h.blank rel_and).blank (frel f (hf f (by simp)))
    have := rel_feats r _ _ (fun g hg => hf g (by simp [hg])) h1
    simpa [AND_, List.append_assoc] using this

theorem rel_query (q : S36) (h : GoodQ q) : Rel (qtext q) (qT q) := by
  obtain ⟨h1, h2, h3⟩ := h
  have hj : Rel (joinP AND_ (ftexts q.Features)) (qfT q.Features) := by
    match hq : q.Features, h1 with
    | f :: r, _ =>
      rw [hq] at h3
      have := rel_feats r (ftext f) (fsol f) (fun g hg => h3 g (by simp [hg])) (frel f (h3 f (by simp)))
      unfold joinP ftexts qfT
      rw [List.map_cons]
      simp only [List.map_map]
      exact this
  unfold qtext qT
  cases q.Not with
  | false => exact hj
  | true => exact rel_not.blank hj

theorem rel_list : ∀ (r : List S36) (s : List UInt8) (T : List Tk), (∀ q ∈ r, GoodQ q) → Rel s T → Rel (s ++ (r.map fun g => COM_ ++ qtext g).flatten) (T ++ (r.map fun g => COMt :: qT g).flatten)
  | [], s, T, _, h => by simpa using h
  | f :: r, s, T, hf, h => by
    have h1 := h.comma (rel_query f (hf f (by simp)))
    have := rel_list r _ _ (fun g hg => hf g (by simp [hg])) h1
    simpa [COM_, List.append_assoc] using this

theorem rel_text (l : List S36) (h : GoodL l) : Rel (textP l) (toksL l) := by
  obtain ⟨h1, h2, h3⟩ := h
  match l, h1 with
  | q :: r, _ =>
    have := rel_list r (qtext q) (qT q) (fun g hg => h3 g (by simp [hg])) (rel_query q (h3 q (by simp)))
    unfold textP joinP qtexts toksL
    rw [List.map_cons]
    simp only [List.map_map]
    exact this

-- reading the tokens

/-- What stands behind a feature. -/
def qnext (f : S38) (rest : List Tk) (fs : List S38) (K : List Tk → List S38 → List S38 × Bool) : List S38 × Bool :=
  match rest with
  | [] => (fs ++ [f], true)
  | a :: r => bif !(wordP a == AND) then (fs ++ [f], false) else K r (fs ++ [f])

theorem qtail_app (f : S38) (l rest : List Tk) (m : Nat) (hm : m = l.length) (fs : List S38) (K : List Tk → List S38 → List S38 × Bool) : qtail m f (l ++ rest) fs K = qnext f rest fs K := by
  subst hm
  unfold qtail qnext
  rw [List.drop_left]
  cases rest <;> rfl

/-- A feature in brackets: where its block ends, and what it says. -/
structure Blk (f : S38) (A : List Tk) : Prop where
  en : ∀ rest, ends [] 0 ((OPt :: A ++ [CLt]) ++ rest) = A.length + 2
  fe : featP A = (f.Kind, f.Num)

theorem blk_qry {f : S38} {A : List Tk} (h : Blk f A) (n : Nat) (rest : List Tk) (fs : List S38) : qry (n + 1) ((OPt :: A ++ [CLt]) ++ rest) fs = qnext f rest fs (qry n) := by
  have he := h.en rest
  rw [List.cons_append, List.cons_append] at he ⊢
  unfold qry
  rw [show (OPt.2.1 == ([40] : List UInt8)) = true from rfl]
  simp only [cond_true, he]
  rw [show (A.length + 2 == 0) = false from rfl]
  simp only [cond_false]
  have e1 : ((OPt :: (A ++ [CLt] ++ rest)).take (A.length + 2 - 1)).drop 1 = A := by
    rw [show A.length + 2 - 1 = A.length + 1 by omega, List.take_succ_cons, List.append_assoc, List.take_left]
    rfl
  rw [e1, h.fe]
  exact qtail_app f (OPt :: A ++ [CLt]) rest (A.length + 2) (by simp) fs (qry n)

theorem take_end (A rest : List Tk) : True := trivial

/-- Tokens in which no comma stands outside of blocks, and whose blocks end. -/
def pc (l cur : List Tk) : List (List Tk) := pcs (l.length + 1) l cur
def Flat (T : List Tk) : Prop := ∀ rest cur, pc (T ++ rest) cur = pc rest (cur ++ T)

theorem pcs_fuel : ∀ (n m : Nat) (l cur : List Tk), l.length < n → l.length < m → pcs n l cur = pcs m l cur
  | 0, m, l, cur, h, _ => by omega
  | n + 1, 0, l, cur, _, h => by omega
  | n + 1, m + 1, [], cur, _, _ => rfl
  | n + 1, m + 1, t :: r, cur, hn, hm => by
    simp only [List.length_cons] at hn hm
    unfold pcs
    obtain ⟨e1, e2⟩ := ends_le (t :: r) [] 0
    simp only [List.length_cons] at e1
    have h1 : ∀ z, 0 < z → pcs n ((t :: r).drop z) (cur ++ (t :: r).take z) = pcs m ((t :: r).drop z) (cur ++ (t :: r).take z) := fun z hz =>
      pcs_fuel n m _ _ (by rw [List.length_drop]; simp only [List.length_cons]; omega) (by rw [List.length_drop]; simp only [List.length_cons]; omega)
    rw [pcs_fuel n m r [] (by omega) (by omega), pcs_fuel n m r (cur ++ [t]) (by omega) (by omega)]
    cases hz : ends [] 0 (t :: r) == 0 with
    | true => rw [cond_true, h1 _ (by omega)]
    | false =>
      have : ends [] 0 (t :: r) ≠ 0 := by intro e; rw [e] at hz; cases hz
      rw [cond_false, h1 _ (by omega)]

theorem pc_nil (cur : List Tk) : pc [] cur = [cur] := rfl
theorem pc_comma (r cur : List Tk) : pc (COMt :: r) cur = cur :: pc r [] := rfl

theorem Flat.nil : Flat [] := fun rest cur => by rw [List.append_nil]; rfl
theorem Flat.app {a b : List Tk} (ha : Flat a) (hb : Flat b) : Flat (a ++ b) := fun rest cur => by
  rw [List.append_assoc, ha, hb, List.append_assoc]

theorem Flat.one {t : Tk} (h1 : (t.1 == 10 || t.1 == 2) = false) (h2 : comT t = false) : Flat [t] := fun rest cur => by
  unfold pc
  rw [List.singleton_append, pcs, h1, h2]
  simp only [cond_false]
  exact pcs_fuel _ _ _ _ (by simp only [List.length_cons]; omega) (by omega)

theorem Blk.flat {f : S38} {A : List Tk} (h : Blk f A) : Flat (OPt :: A ++ [CLt]) := fun rest cur => by
  have he := h.en rest
  unfold pc
  rw [List.cons_append, List.cons_append] at he ⊢
  rw [pcs]
  rw [show (OPt.1 == 10 || OPt.1 == 2) = true from rfl]
  simp only [cond_true, he]
  rw [show (A.length + 2 == 0) = false from rfl]
  simp only [cond_false]
  have e2 : (OPt :: (A ++ [CLt] ++ rest)).drop (A.length + 2) = rest := by
    have : (OPt :: (A ++ [CLt] ++ rest)) = (OPt :: A ++ [CLt]) ++ rest := by simp
    rw [this, List.drop_left' (by simp)]
  have e3 : (OPt :: (A ++ [CLt] ++ rest)).take (A.length + 2) = OPt :: A ++ [CLt] := by
    have : (OPt :: (A ++ [CLt] ++ rest)) = (OPt :: A ++ [CLt]) ++ rest := by simp
    rw [this, List.take_left' (by simp)]
  rw [e2, e3]
  exact pcs_fuel _ _ _ _ (by simp only [List.length_cons, List.length_append]; omega) (by omega)

-- numbers

theorem parse_app (r : List UInt8) : ∀ (l : List UInt8) (acc : Nat), Lib.parseUint10 acc (l ++ r) = match Lib.parseUint10 acc l with
    | .ok a => Lib.parseUint10 a r
    | .syntax => .syntax
    | .range => .range
  | [], acc => rfl
  | c :: l, acc => by
    simp only [List.cons_append, Lib.parseUint10]
    split
    · split
      · rfl
      · split
        · rfl
        · exact parse_app r l _
    · rfl

theorem dig_nat {i : Nat} (h : i < 10) : (UInt8.ofNat (48 + i)).toNat = 48 + i := by
  have h : ∀ j : Fin 10, (UInt8.ofNat (48 + j.val)).toNat = 48 + j.val := by decide +kernel
  exact h ⟨i, by omega⟩

theorem parse_dec : ∀ (m u : Nat), u ≤ m → u ≤ 1000000000 → Lib.parseUint10 0 (Lib.decDigits u) = .ok u
  | m, u, hm, hu => by
    rw [Lib.decDigits]
    split
    · rename_i h
      simp only [Lib.parseUint10, dig_nat h]
      rw [if_pos (by omega), if_neg (by omega), if_neg (by omega)]
      congr 1; omega
    · rename_i h
      rw [parse_app]
      have hlt : u / 10 < u := Nat.div_lt_self (by omega) (by decide)
      obtain ⟨m', rfl⟩ : ∃ m', m = m' + 1 := ⟨m - 1, by omega⟩
      rw [parse_dec m' (u / 10) (by omega) (by omega)]
      simp only [Lib.parseUint10, dig_nat (Nat.mod_lt u (by decide : 0 < 10))]
      rw [if_pos (by omega), if_neg (by omega), if_neg (by omega)]
      congr 1; omega

theorem dig_bd {c : UInt8} (h : isDig c = true) : 48 ≤ c.toNat ∧ c.toNat ≤ 57 := by
  unfold isDig at h
  simp only [Bool.and_eq_true, decide_eq_true_eq] at h
  exact h

theorem atoi_dec (n : Int) (h0 : 0 ≤ n) (h1 : n ≤ 1000000) : atoiR (Lib.decDigits n.toNat) = (n, false) := by
  have hp := parse_dec n.toNat n.toNat (Nat.le_refl _) (by omega)
  have : Lib.atoiAll (Lib.decDigits n.toNat) = .ok n := by
    match hx : Lib.decDigits n.toNat with
    | [] => exact absurd hx (dec_ne _)
    | c :: r =>
      have hc := dig_bd (dec_dig n.toNat c (by rw [hx]; simp))
      rw [hx] at hp
      unfold Lib.atoiAll
      simp only
      rw [if_neg (by omega)]
      unfold Lib.parseMag
      rw [if_neg (by simp), hp]
      simp only
      rw [if_neg (by omega), if_neg (by omega), if_neg (by omega)]
      congr 1; omega
  unfold atoiR
  rw [this]

theorem dw_nil {p : UInt8 → Bool} : ∀ {l : List UInt8}, l.dropWhile p = [] → ∀ c ∈ l, p c = true
  | [], _, c, hc => by cases hc
  | a :: r, h, c, hc => by
    rw [List.dropWhile_cons] at h
    split at h
    · rename_i ha
      rcases List.mem_cons.1 hc with rfl | hc
      · exact ha
      · exact dw_nil h c hc
    · cases h

theorem dw_head {p : UInt8 → Bool} : ∀ {l : List UInt8} {a : UInt8} {r : List UInt8}, l.dropWhile p = a :: r → p a = false
  | [], _, _, h => by cases h
  | b :: l, a, r, h => by
    rw [List.dropWhile_cons] at h
    split at h
    · exact dw_head h
    · rename_i hb
      cases h
      simpa using hb

theorem dw_all {p : UInt8 → Bool} : ∀ {l : List UInt8}, (∀ c ∈ l, p c = true) → l.dropWhile p = []
  | [], _ => rfl
  | c :: r, h => by
    rw [List.dropWhile_cons, if_pos (h c (by simp))]
    exact dw_all fun c hc => h c (by simp [hc])

theorem trim_nil_iff (l cs : List UInt8) : Lib.trimS l cs = [] ↔ ∀ c ∈ l, cs.contains c = true := by
  unfold Lib.trimS Lib.trimLeftS Lib.trimRightS
  constructor
  · intro h
    have h1 := dw_nil h
    match hm : l.reverse.dropWhile (cs.contains ·) with
    | [] => exact fun c hc => dw_nil hm c (by simpa using hc)
    | a :: r =>
      have h2 := dw_head hm
      have h3 := h1 a (by rw [hm]; simp)
      exact absurd h3 (by rw [h2]; decide)
  · intro h
    rw [dw_all (l := l.reverse) (fun c hc => h c (by simpa using hc))]
    rfl

theorem digs_dig {c : UInt8} : digs.contains c = isDig c := by
  have h : ∀ n : Fin 256, digs.contains (UInt8.ofNat n.val) = isDig (UInt8.ofNat n.val) := by decide +kernel
  have := h ⟨c.toNat, c.toNat_lt⟩
  simpa using this

theorem atoi_dig (ds : List UInt8) (h : ∀ c ∈ ds, digs.contains c = true) (h2 : (atoiR ds).2 = false) : 0 ≤ (atoiR ds).1 := by
  unfold atoiR at *
  cases ha : Lib.atoiAll ds with
  | «syntax» => rw [ha] at h2; cases h2
  | range => rw [ha] at h2; cases h2
  | ok v =>
    show 0 ≤ v
    match ds, h with
    | [], _ => cases ha
    | c :: r, h =>
      have hc := dig_bd (by rw [← digs_dig]; exact h c (by simp))
      unfold Lib.atoiAll at ha
      simp only at ha
      split at ha
      · cases ha
      · cases ha
      · split at ha
        · cases ha
        · split at ha
          · cases ha
          · rw [if_neg (by omega)] at ha
            cases ha
            omega

theorem feat_num (w : List UInt8) (kd : Int) (hk : kindP (wordP (nmT w)) = kd) (h4 : 4 ≤ kd ∧ kd ≤ 7) (n : Int) (h0 : 0 ≤ n) (h1 : n ≤ 1000000) : featP [nmT w, COLt, pxT n] = (kd, n) := by
  have e1 : ((([nmT w, COLt, pxT n] : List Tk).length : Int) != (3 : Int)) = false := rfl
  have g0 : ([nmT w, COLt, pxT n] : List Tk).getD 0 default = nmT w := rfl
  have g1 : ([nmT w, COLt, pxT n] : List Tk).getD 1 default = COLt := rfl
  have g2 : ([nmT w, COLt, pxT n] : List Tk).getD 2 default = pxT n := rfl
  unfold featP
  simp only [e1, g0, g1, g2, cond_false, hk]
  have e2 : (!(COLt.2.1 == ([58] : List UInt8))) = false := rfl
  have e3 : (decide (kd ≥ 4) && decide (kd ≤ 7)) = true := by rw [decide_eq_true (show kd ≥ 4 from h4.1), decide_eq_true h4.2]; rfl
  have e4 : (pxT n).2.1.take ((pxT n).2.1.length - 2) = Lib.decDigits n.toNat := by
    show (Lib.decDigits n.toNat ++ [112, 120]).take ((Lib.decDigits n.toNat ++ [112, 120]).length - 2) = _
    rw [List.length_append]
    exact List.take_left' (by simp)
  have e5 : ((pxT n).1 != 7) = false := rfl
  have e6 : (!((pxT n).2.2.1 == ([112, 120] : List UInt8))) = false := rfl
  have e7 : Lib.trimS (Lib.decDigits n.toNat) digs = [] := (trim_nil_iff _ _).2 fun c hc => by rw [digs_dig]; exact dec_dig _ c hc
  rw [e2, e3, e4, e5, e6, e7, atoi_dec n h0 h1]
  simp only [cond_false, cond_true, Bool.false_or]
  rw [decide_eq_false (show ¬ n > 1000000 by omega)]
  rfl

theorem blk_num (w : List UInt8) (kd : Int) (hk : kindP (wordP (nmT w)) = kd) (h4 : 4 ≤ kd ∧ kd ≤ 7) (n : Int) (h0 : 0 ≤ n) (h1 : n ≤ 1000000) : Blk ⟨kd, n⟩ [nmT w, COLt, pxT n] :=
  ⟨fun rest => rfl, feat_num w kd hk h4 n h0 h1⟩

/-- A feature's tokens, read. -/
theorem feat_ok (f : S38) (h : GoodF f) : (∀ n rest fs, qry (n + 1) (fsol f ++ rest) fs = qnext f rest fs (qry n)) ∧ Flat (fsol f) ∧ ∃ t r, fsol f = t :: r ∧ (wordP t == NOT) = false := by
  obtain ⟨kd, num⟩ := f
  rcases h with ⟨h0, h1⟩ | ⟨h0, h1, h2⟩
  · simp only at h0 h1
    subst h0
    have hw : ∀ (kd : Int) (w : List UInt8), fsol ⟨kd, 0⟩ = [nmT w] → kindP (wordP (nmT w)) = kd → kd ≤ 3 → (wordP (nmT w) == NOT) = false → (w == [40]) = false → 
        (∀ n rest fs, qry (n + 1) (fsol ⟨kd, 0⟩ ++ rest) fs = qnext ⟨kd, 0⟩ rest fs (qry n)) ∧ Flat (fsol ⟨kd, 0⟩) ∧ ∃ t r, fsol ⟨kd, 0⟩ = t :: r ∧ (wordP t == NOT) = false := by
      intro kd w e1 e2 e3 e4 e5
      refine ⟨fun n rest fs => ?_, by rw [e1]; exact Flat.one rfl rfl, _, _, e1, e4⟩
      rw [e1, List.singleton_append]
      unfold qry
      rw [show ((nmT w).2.1 == ([40] : List UInt8)) = false from e5, e2, decide_eq_false (show ¬ kd > 3 by omega)]
      simp only [cond_false]
      exact qtail_app _ [nmT w] rest 1 rfl fs (qry n)
    have hb : ∀ (kd : Int) (A : List Tk), fsol ⟨kd, 0⟩ = OPt :: A ++ [CLt] → Blk ⟨kd, 0⟩ A →
        (∀ n rest fs, qry (n + 1) (fsol ⟨kd, 0⟩ ++ rest) fs = qnext ⟨kd, 0⟩ rest fs (qry n)) ∧ Flat (fsol ⟨kd, 0⟩) ∧ ∃ t r, fsol ⟨kd, 0⟩ = t :: r ∧ (wordP t == NOT) = false := by
      intro kd A e1 e2
      refine ⟨fun n rest fs => by rw [e1]; exact blk_qry e2 n rest fs, by rw [e1]; exact e2.flat, OPt, A ++ [CLt], by rw [e1]; rfl, rfl⟩
    have c8 : fsol ⟨8, 0⟩ = OPt :: [nmT [112, 114, 101, 102, 101, 114, 115, 45, 99, 111, 108, 111, 114, 45, 115, 99, 104, 101, 109, 101], COLt, nmT [100, 97, 114, 107]] ++ [CLt] := by decide +kernel
    have c9 : fsol ⟨9, 0⟩ = OPt :: [nmT [112, 114, 101, 102, 101, 114, 115, 45, 99, 111, 108, 111, 114, 45, 115, 99, 104, 101, 109, 101], COLt, nmT [108, 105, 103, 104, 116]] ++ [CLt] := by decide +kernel
    have c10 : fsol ⟨10, 0⟩ = OPt :: [nmT [111, 114, 105, 101, 110, 116, 97, 116, 105, 111, 110], COLt, nmT [112, 111, 114, 116, 114, 97, 105, 116]] ++ [CLt] := by decide +kernel
    have c11 : fsol ⟨11, 0⟩ = OPt :: [nmT [111, 114, 105, 101, 110, 116, 97, 116, 105, 111, 110], COLt, nmT [108, 97, 110, 100, 115, 99, 97, 112, 101]] ++ [CLt] := by decide +kernel
    rcases h1 with rfl | rfl | rfl | rfl | rfl | rfl | rfl | rfl
    · exact hw 1 _ rfl (by decide +kernel) (by decide) (by decide +kernel) (by decide +kernel)
    · exact hw 2 _ rfl (by decide +kernel) (by decide) (by decide +kernel) (by decide +kernel)
    · exact hw 3 _ rfl (by decide +kernel) (by decide) (by decide +kernel) (by decide +kernel)
    · exact hb 8 _ c8 ⟨fun rest => rfl, by decide +kernel⟩
    · exact hb 9 _ c9 ⟨fun rest => rfl, by decide +kernel⟩
    · exact hb 10 _ c10 ⟨fun rest => rfl, by decide +kernel⟩
    · exact hb 11 _ c11 ⟨fun rest => rfl, by decide +kernel⟩
    · exact hb 12 [(12, [63], [], 0)] rfl ⟨fun rest => rfl, by decide +kernel⟩
  · simp only at h0 h1 h2
    have hb : ∀ (kd : Int) (w : List UInt8), fsol ⟨kd, num⟩ = OPt :: [nmT w, COLt, pxT num] ++ [CLt] → kindP (wordP (nmT w)) = kd → 4 ≤ kd ∧ kd ≤ 7 →
        (∀ n rest fs, qry (n + 1) (fsol ⟨kd, num⟩ ++ rest) fs = qnext ⟨kd, num⟩ rest fs (qry n)) ∧ Flat (fsol ⟨kd, num⟩) ∧ ∃ t r, fsol ⟨kd, num⟩ = t :: r ∧ (wordP t == NOT) = false := by
      intro kd w e1 hk h4
      have e2 := blk_num w kd hk h4 num h0 h1
      refine ⟨fun n rest fs => by rw [e1]; exact blk_qry e2 n rest fs, by rw [e1]; exact e2.flat, OPt, [nmT w, COLt, pxT num] ++ [CLt], by rw [e1]; rfl, rfl⟩
    rcases h2 with rfl | rfl | rfl | rfl
    · exact hb 4 (wordsL.getD (4 : Int).toNat []) rfl (show kindP (wordP (nmT (wordsL.getD (4 : Int).toNat []))) = 4 from of_decide_eq_true (by decide +kernel)) (by decide)
    · exact hb 5 (wordsL.getD (5 : Int).toNat []) rfl (show kindP (wordP (nmT (wordsL.getD (5 : Int).toNat []))) = 5 from of_decide_eq_true (by decide +kernel)) (by decide)
    · exact hb 6 (wordsL.getD (6 : Int).toNat []) rfl (show kindP (wordP (nmT (wordsL.getD (6 : Int).toNat []))) = 6 from of_decide_eq_true (by decide +kernel)) (by decide)
    · exact hb 7 (wordsL.getD (7 : Int).toNat []) rfl (show kindP (wordP (nmT (wordsL.getD (7 : Int).toNat []))) = 7 from of_decide_eq_true (by decide +kernel)) (by decide)

theorem qry_feats : ∀ (r : List S38) (f : S38) (fs : List S38) (n : Nat), (∀ g ∈ f :: r, GoodF g) → r.length < n → qry n (fsol f ++ (r.map fun g => ANDt :: fsol g).flatten) fs = (fs ++ f :: r, true)
  | r, f, fs, 0, _, h => by omega
  | [], f, fs, n + 1, hf, _ => by
    have := (feat_ok f (hf f (by simp))).1 n [] fs
    exact this
  | g :: r, f, fs, n + 1, hf, hn => by
    rw [List.map_cons, List.flatten_cons, (feat_ok f (hf f (by simp))).1 n _ fs, List.cons_append]
    show cond (!(wordP ANDt == AND)) (fs ++ [f], false) (qry n (fsol g ++ (r.map fun g => ANDt :: fsol g).flatten) (fs ++ [f])) = _
    rw [show (wordP ANDt == AND) = true by decide +kernel]
    simp only [Bool.not_true, cond_false]
    rw [qry_feats r g (fs ++ [f]) n (fun x hx => hf x (by simp at hx ⊢; exact .inr hx)) (by simp only [List.length_cons] at hn; omega)]
    simp

theorem flat_feats : ∀ (r : List S38), (∀ g ∈ r, GoodF g) → Flat ((r.map fun g => ANDt :: fsol g).flatten)
  | [], _ => Flat.nil
  | g :: r, h => by
    rw [List.map_cons, List.flatten_cons]
    have h1 : Flat [ANDt] := Flat.one rfl rfl
    have := (h1.app (feat_ok g (h g (by simp))).2.1).app (flat_feats r (fun x hx => h x (by simp [hx])))
    exact this

theorem len_feats (r : List S38) (f : S38) (hf : ∀ g ∈ f :: r, GoodF g) : r.length < (fsol f ++ (r.map fun g => ANDt :: fsol g).flatten).length := by
  have h1 : ∀ r : List S38, r.length ≤ ((r.map fun g => ANDt :: fsol g).flatten).length := by
    intro r
    induction r with
    | nil => simp
    | cons a b ih => rw [List.map_cons, List.flatten_cons, List.length_append]; simp only [List.length_cons]; omega
  have := h1 r
  obtain ⟨t, q, e, _⟩ := (feat_ok f (hf f (by simp))).2.2
  rw [List.length_append, e]
  simp only [List.length_cons]
  omega

theorem query_back (q : S36) (h : GoodQ q) : toQ (qT q) = q ∧ Flat (qT q) ∧ qT q ≠ [] := by
  obtain ⟨h1, h2, h3⟩ := h
  obtain ⟨nt, feats⟩ := q
  simp only at h1 h2 h3
  match feats, h1 with
  | f :: r, _ =>
    have hq := fun n hn => qry_feats r f [] n h3 hn
    have hl := len_feats r f h3
    obtain ⟨t, z, e, hnt⟩ := (feat_ok f (h3 f (by simp))).2.2
    have hfl : Flat (qfT (f :: r)) := (feat_ok f (h3 f (by simp))).2.1.app (flat_feats r (fun x hx => h3 x (by simp [hx])))
    cases nt with
    | true =>
      have hqp : queryP (qT ⟨true, f :: r⟩) = (true, f :: r, true) := by
        show queryP (NOTt :: qfT (f :: r)) = _
        unfold queryP
        simp only
        rw [show (wordP NOTt == NOT) = true by decide +kernel]
        simp only [cond_true]
        have e0 : qfT (f :: r) = fsol f ++ (r.map fun g => ANDt :: fsol g).flatten := rfl
        rw [e0, hq _ (by omega)]
        rfl
      refine ⟨by unfold toQ; rw [hqp]; rfl, ?_, by simp [qT]⟩
      have h1 : Flat [NOTt] := Flat.one rfl rfl
      exact h1.app hfl
    | false =>
      have hqp : queryP (qT ⟨false, f :: r⟩) = (false, f :: r, true) := by
        show queryP (qfT (f :: r)) = _
        have e0 : qfT (f :: r) = fsol f ++ (r.map fun g => ANDt :: fsol g).flatten := rfl
        rw [e0]
        rw [e, List.cons_append] at hq hl ⊢
        unfold queryP
        simp only
        rw [hnt]
        simp only [cond_false]
        rw [hq _ (by simp only [List.length_cons] at hl; omega)]
        rfl
      refine ⟨by unfold toQ; rw [hqp]; rfl, hfl, ?_⟩
      show qfT (f :: r) ≠ []
      have e0 : qfT (f :: r) = fsol f ++ (r.map fun g => ANDt :: fsol g).flatten := rfl
      rw [e0, e]; simp

theorem pieces_back : ∀ (r : List S36) (T : List Tk), (∀ q ∈ r, GoodQ q) → Flat T → pc (T ++ (r.map fun g => COMt :: qT g).flatten) [] = T :: r.map qT
  | [], T, _, hT => by
    have := hT [] []
    rw [List.nil_append] at this
    exact this
  | q :: r, T, h, hT => by
    have hb := query_back q (h q (by simp))
    rw [hT _ [], List.map_cons, List.flatten_cons, List.cons_append, pc_comma, List.nil_append, pieces_back r (qT q) (fun x hx => h x (by simp [hx])) hb.2.1]
    rfl

/-- What is told of tokens of queries is read as these. -/
theorem read_toks (s : List UInt8) (l : List S36) (h : GoodL l) (hr : Rel s (toksL l)) (hs : s.length ≤ 400) : readP s = (0, l) := by
  obtain ⟨h1, h2, h3⟩ := h
  unfold readP
  rw [decide_eq_false (show ¬ ((s.length : Int) > 400) by omega), hr.so]
  simp only [cond_false]
  match l, h1 with
  | q :: r, _ =>
    have hb := query_back q (h3 q (by simp))
    have hne : (toksL (q :: r)).isEmpty = false := by
      have e0 : toksL (q :: r) = qT q ++ (r.map fun g => COMt :: qT g).flatten := rfl
      rw [e0]
      match hq : qT q, hb.2.2 with
      | a :: b, _ => rfl
    rw [hne]
    simp only [cond_false]
    have := pieces_back r (qT q) (fun x hx => h3 x (by simp [hx])) hb.2.1
    unfold pc at this
    rw [show toksL (q :: r) = qT q ++ (r.map fun g => COMt :: qT g).flatten from rfl, this, List.map_cons, hb.1, List.map_map]
    have : r.map (toQ ∘ qT) = r := by
      conv => rhs; rw [← List.map_id r]
      exact List.map_congr_left fun x hx => (query_back x (h3 x (by simp [hx]))).1
    rw [this]

-- what is read is good

theorem kind_le3 (w : List UInt8) (h : ¬ kindP w > 3) : kindP w = 1 ∨ kindP w = 2 ∨ kindP w = 3 := by
  rcases kind_bd w with h1 | ⟨h1, h2, _⟩ <;> omega

theorem feat_good (L : List Tk) : GoodF ⟨(featP L).1, (featP L).2⟩ := by
  have h12 : GoodF ⟨12, 0⟩ := .inl ⟨rfl, by decide⟩
  unfold featP
  cases ((L.length : Int) != 3) with
  | true => exact h12
  | false =>
    simp only [cond_false]
    cases (!((L.getD 1 default).2.1 == [58])) with
    | true => exact h12
    | false =>
      simp only [cond_false]
      cases hk : (decide (kindP (wordP (L.getD 0 default)) ≥ 4) && decide (kindP (wordP (L.getD 0 default)) ≤ 7)) with
      | true =>
        simp only [cond_true]
        simp only [Bool.and_eq_true, decide_eq_true_eq] at hk
        cases hq : (((L.getD 2 default).1 != 7) || !((L.getD 2 default).2.2.1 == [112, 120]) || !(Lib.trimS ((L.getD 2 default).2.1.take ((L.getD 2 default).2.1.length - 2)) digs == [])) with
        | true => exact h12
        | false =>
          simp only [cond_false]
          simp only [Bool.or_eq_false_iff, Bool.not_eq_false', beq_iff_eq] at hq
          have ht := (trim_nil_iff _ _).1 hq.2
          generalize (L.getD 2 default).2.1.take ((L.getD 2 default).2.1.length - 2) = ds at *
          cases hz : ((atoiR ds).2 || decide ((atoiR ds).1 > 1000000)) with
          | true => exact h12
          | false =>
            simp only [Bool.or_eq_false_iff, decide_eq_false_iff_not] at hz
            have := atoi_dig ds ht hz.1
            refine .inr ⟨this, by show (atoiR ds).1 ≤ 1000000; omega, ?_⟩
            show kindP _ = 4 ∨ kindP _ = 5 ∨ kindP _ = 6 ∨ kindP _ = 7
            omega
      | false =>
        simp only [cond_false]
        generalize wordP (L.getD 0 default) ++ [58] ++ wordP (L.getD 2 default) = w
        cases h8 : decide (kindP w ≥ 8) with
        | false => exact h12
        | true =>
          have h8 := of_decide_eq_true h8
          refine .inl ⟨rfl, ?_⟩
          show kindP w = 1 ∨ kindP w = 2 ∨ kindP w = 3 ∨ kindP w = 8 ∨ kindP w = 9 ∨ kindP w = 10 ∨ kindP w = 11 ∨ kindP w = 12
          rcases kind_bd w with h1 | ⟨h1, h2, _⟩ <;> omega

theorem qry_good : ∀ (n : Nat) (l : List Tk) (fs : List S38), (∀ f ∈ fs, GoodF f) → ((∀ f ∈ (qry n l fs).1, GoodF f) ∧ ((qry n l fs).2 = true → (qry n l fs).1 ≠ []) ∧ (qry n l fs).1.length ≤ fs.length + l.length)
  | 0, l, fs, h => ⟨h, fun e => (by cases e), by simp [qry]⟩
  | n + 1, [], fs, h => ⟨h, fun e => (by cases e), by simp [qry]⟩
  | n + 1, t :: r, fs, h => by
    have hq : ∀ (m : Nat) (f : S38), 1 ≤ m → GoodF f → ((∀ g ∈ (qtail m f (t :: r) fs (qry n)).1, GoodF g) ∧ ((qtail m f (t :: r) fs (qry n)).2 = true → (qtail m f (t :: r) fs (qry n)).1 ≠ []) ∧ (qtail m f (t :: r) fs (qry n)).1.length ≤ fs.length + (t :: r).length) := by
      intro m f hm hf
      have hfs : ∀ g ∈ fs ++ [f], GoodF g := by
        intro g hg
        rcases List.mem_append.1 hg with hg | hg
        · exact h g hg
        · simp at hg; subst hg; exact hf
      unfold qtail
      match hd : (t :: r).drop m with
      | [] => exact ⟨hfs, fun _ => by simp, by simp only [List.length_append, List.length_cons, List.length_nil]; omega⟩
      | a :: q =>
        have hl := congrArg List.length hd
        simp only [List.length_drop, List.length_cons] at hl
        simp only
        cases (!(wordP a == AND)) with
        | true => exact ⟨hfs, fun e => (by cases e), by simp only [cond_true, List.length_append, List.length_cons, List.length_nil]; omega⟩
        | false =>
          simp only [cond_false]
          obtain ⟨g1, g2, g3⟩ := qry_good n q (fs ++ [f]) hfs
          refine ⟨g1, g2, ?_⟩
          simp only [List.length_append, List.length_cons, List.length_nil] at g3 ⊢
          omega
    unfold qry
    cases t.2.1 == ([40] : List UInt8) with
    | true =>
      simp only [cond_true]
      cases hz : ends [] 0 (t :: r) == 0 with
      | true => exact ⟨h, fun e => (by cases e), by simp only [cond_true, List.length_cons]; omega⟩
      | false =>
        have : ends [] 0 (t :: r) ≠ 0 := by intro e; rw [e] at hz; cases hz
        simp only [cond_false]
        exact hq _ _ (by omega) (feat_good _)
    | false =>
      simp only [cond_false]
      cases hk : decide (kindP (wordP t) > 3) with
      | true => exact ⟨h, fun e => (by cases e), by simp only [cond_true, List.length_cons]; omega⟩
      | false =>
        simp only [cond_false]
        have := kind_le3 _ (of_decide_eq_false hk)
        exact hq 1 _ (Nat.le_refl _) (.inl ⟨rfl, by show kindP _ = 1 ∨ kindP _ = 2 ∨ kindP _ = 3 ∨ _; omega⟩)

theorem toQ_good (l : List Tk) (hl : l.length ≤ 500) : GoodQ (toQ l) := by
  have hU : GoodQ UNK := ⟨by simp [UNK], by simp [UNK], fun f hf => by simp [UNK] at hf; subst hf; exact .inl ⟨rfl, by decide⟩⟩
  unfold toQ
  match l with
  | [] => exact hU
  | t :: r =>
    have key : ∀ (n : Nat) (q : List Tk) (b : Bool), q.length ≤ 500 → GoodQ (cond (!(qry n q []).2) UNK ⟨b, (qry n q []).1⟩) := by
      intro n q b hq
      obtain ⟨g1, g2, g3⟩ := qry_good n q [] (fun f hf => by cases hf)
      cases ho : (qry n q []).2 with
      | false => exact hU
      | true => exact ⟨g2 ho, by simp at g3; show (qry n q []).1.length ≤ 1000; omega, g1⟩
    have e0 : queryP (t :: r) = bif wordP t == NOT then (true, qry (r.length + 1) r []) else (false, qry (r.length + 2) (t :: r) []) := rfl
    rw [e0]
    simp only [List.length_cons] at hl
    cases wordP t == NOT with
    | true => exact key (r.length + 1) r true (by omega)
    | false => exact key (r.length + 2) (t :: r) false (by simp only [List.length_cons]; omega)

theorem pcs_ne : ∀ (n : Nat) (L cur : List Tk), pcs n L cur ≠ []
  | 0, L, cur => by simp [pcs]
  | n + 1, [], cur => by simp [pcs]
  | n + 1, t :: r, cur => by
    unfold pcs
    cases (t.1 == 10 || t.1 == 2) with
    | true => exact pcs_ne n _ _
    | false =>
      cases comT t with
      | true => simp
      | false => exact pcs_ne n _ _

theorem read_good (s : List UInt8) (h : (readP s).1 = 0) : GoodL (readP s).2 := by
  unfold readP at *
  cases hd : decide ((s.length : Int) > 400) with
  | true => rw [hd] at h; cases h
  | false =>
    have hs : s.length ≤ 400 := by have := of_decide_eq_false hd; omega
    simp only [cond_false]
    have hl : (solP (cutP s)).length ≤ 400 := Nat.le_trans (solP_sub _).length_le (Nat.le_trans (cutP_len _ s (Nat.le_refl _)) hs)
    cases (solP (cutP s)).isEmpty with
    | true => exact ⟨by simp, by simp, fun q hq => by simp at hq; subst hq; exact ⟨by simp, by simp, fun f hf => by simp at hf; subst hf; exact .inl ⟨rfl, by decide⟩⟩⟩
    | false =>
      simp only [cond_false]
      obtain ⟨p1, p2⟩ := pcs_len ((solP (cutP s)).length + 1) (solP (cutP s)) []
      refine ⟨fun e => pcs_ne _ _ _ (List.map_eq_nil_iff.1 e), by rw [List.length_map]; omega, fun q hq => ?_⟩
      obtain ⟨l, hl', rfl⟩ := List.mem_map.1 hq
      have := p2 l hl'
      exact toQ_good l (by simp at this; omega)

theorem read_err (s : List UInt8) : (readP s).1 = 0 ∨ (readP s = (2, []) ∧ 400 < s.length) := by
  unfold readP
  cases hd : decide ((s.length : Int) > 400) with
  | true => exact .inr ⟨rfl, by have := of_decide_eq_true hd; omega⟩
  | false =>
    simp only [cond_false]
    cases (solP (cutP s)).isEmpty <;> exact .inl rfl

end Go.Ev.Md
