/- RuleBehind's, RuleSpoils', RuleWithin's laws, in plain words. No condition beyond those that each theorem names. -/
import Derived.Test.YtdnnaneifaoooaaDoorEvRbJ
set_option linter.unusedVariables false
set_option linter.unusedSimpArgs false
namespace Go.Ev.Rb
open Go Go.Ev.Tok

mutual
def smR (B : Nat) : Rl → Prop
  | .mk _ h ds rs => h.length ≤ B ∧ (∀ d ∈ ds, (dsh d).length ≤ B) ∧ sms B rs
def sms (B : Nat) : List Rl → Prop
  | [] => True
  | r :: l => smR B r ∧ sms B l
end

theorem sms_app (B : Nat) : ∀ (a b : List Rl), sms B a → sms B b → sms B (a ++ b)
  | [], b, _, h => h
  | r :: a, b, h, h2 => by
    rw [sms] at h
    rw [List.cons_append, sms]
    exact ⟨h.1, sms_app B a b h.2 h2⟩

theorem flat_len (B : Nat) : ∀ (l : List Dc), (∀ d ∈ l, (dsh d).length ≤ B) → (l.map dsh).flatten.length ≤ l.length * B
  | [], _ => by simp
  | d :: l, h => by
    rw [List.map_cons, List.flatten_cons, List.length_append, List.length_cons]
    have h1 := h d (by simp)
    have h2 := flat_len B l (fun x hx => h x (List.mem_cons_of_mem _ hx))
    rw [Nat.add_mul]; omega

mutual
theorem smR_len (B : Nat) : ∀ (r : Rl), smR B r → lngR r = false → r.sh.length ≤ cntR r * (31 * B + 20)
  | .mk m h ds rs, hs, hl => by
    rw [smR] at hs
    rw [lngR, Bool.or_eq_false_iff, decide_eq_false_iff_not] at hl
    have h1 := sms_len B rs hs.2.2 hl.1
    have h2 := flat_len B ds hs.2.1
    have h3 : ds.length * B ≤ 30 * B := Nat.mul_le_mul_right _ (by omega)
    have h4 : (bif m then atM else []).length ≤ 7 := by cases m <;> decide
    have h5 : (bif h.isEmpty then [] else [(32 : UInt8)]).length ≤ 1 := by cases h.isEmpty <;> simp
    rw [sh_pr, prR, cntR, Nat.add_mul]
    simp only [List.length_append, List.length_cons, List.length_nil]
    have := hs.1
    omega
theorem sms_len (B : Nat) : ∀ (l : List Rl), sms B l → lngs l = false → (shw l).length ≤ cnts l * (31 * B + 20)
  | [], _, _ => by simp [shw]
  | r :: l, hs, hl => by
    rw [sms] at hs
    rw [lngs, Bool.or_eq_false_iff] at hl
    have h1 := smR_len B r hs.1 hl.1
    have h2 := sms_len B l hs.2 hl.2
    rw [shw, cnts, List.length_append, Nat.add_mul]
    omega
end

structure OkL (B : Nat) (L : List Tk) : Prop where
  va : ∀ t ∈ L, t.2.2.1.length ≤ t.2.1.length
  sz : 2 * (rw L).length + L.length + 20 ≤ B

theorem OkL.sub {B : Nat} {L M : List Tk} (h : OkL B L) (hs : M.Sublist L) : OkL B M :=
  ⟨fun t ht => h.va t (hs.subset ht), by have := h.sz; have := rw_sub hs; have := hs.length_le; omega⟩

theorem hdP_len : ∀ (l : List Tk) (a b : Bool), (hdP a b l).length ≤ (rw l).length + l.length
  | [], a, b => by simp [hdP]
  | u :: r, a, b => by
    rw [hdP, rw_cons, List.length_append, List.length_cons]
    cases silT u with
    | true => simp only [cond_true]; have := hdP_len r a a; omega
    | false =>
      simp only [cond_false, List.length_append]
      have := hdP_len r true false
      cases b <;> simp <;> omega

theorem decs_sm {B : Nat} {L : List Tk} (h : OkL B L) : ∀ d ∈ decs L, (dsh d).length ≤ B := by
  intro d hd
  have h1 := dcls_len _ L h.va d hd
  have h2 := h.sz
  have h3 : (bif d.2.2 then 32 :: 33 :: word else []).length ≤ 11 := by cases d.2.2 <;> decide
  unfold dsh
  simp only [List.length_append, List.length_cons, List.length_nil]
  omega

theorem rul_sm {B : Nat} {sub : Option (List Tk → List Rl)} (hsub : ∀ f, sub = some f → ∀ L, OkL B L → sms B (f L)) {H i : List Tk} (hH : OkL B H) (hi : OkL B i) : sms B (rul sub H i).toList := by
  have hd : ∀ (l : List Tk), OkL B l → (hdP false false l).length ≤ B := fun l hl => by have := hdP_len l false false; have := hl.sz; omega
  unfold rul
  cases H.any badT with
  | true => trivial
  | false =>
    rw [cond_false]
    match H, hH with
    | [], _ => exact ⟨⟨Nat.zero_le _, decs_sm hi, trivial⟩, trivial⟩
    | t :: q, hH =>
      simp only
      cases atT t with
      | false => exact ⟨⟨hd _ hH, decs_sm hi, trivial⟩, trivial⟩
      | true =>
        simp only [Bool.not_true, cond_false]
        cases hs : sub with
        | none => trivial
        | some f =>
          simp only
          cases fldT t medW with
          | false => trivial
          | true => exact ⟨⟨hd _ (hH.sub (List.sublist_cons_self t q)), by simp, hsub f hs i hi⟩, trivial⟩

theorem rlsF_sm {B : Nat} (sub : Option (List Tk → List Rl)) (hsub : ∀ f, sub = some f → ∀ L, OkL B L → sms B (f L)) : ∀ (n : Nat) (L : List Tk), OkL B L → sms B (rlsF sub n L)
  | 0, L, _ => by rw [rlsF]; trivial
  | n + 1, L, hL => by
    rw [rlsF]
    have hs := hL.sub (sol_sub L)
    match hS : sol L with
    | [] => trivial
    | t :: q =>
      rw [hS] at hs
      simp only
      match hd : (t :: q).drop (hdN t q) with
      | [] => trivial
      | x :: D =>
        have h1 : OkL B (x :: D) := by rw [← hd]; exact hs.sub (List.drop_sublist _ _)
        have h2 := h1.sub (List.sublist_cons_self x D)
        simp only
        cases brcT x with
        | false => rw [cond_false]; exact rlsF_sm sub hsub n D h2
        | true =>
          rw [cond_true]
          exact sms_app B _ _ (rul_sm hsub (hs.sub (List.take_sublist _ _)) (h2.sub (List.take_sublist _ _))) (rlsF_sm sub hsub n _ (h2.sub (List.drop_sublist _ _)))

theorem rls_sm {B : Nat} : ∀ (d : Nat) (L : List Tk), OkL B L → sms B (rls d L)
  | 0, L, h => by rw [rls_sb]; exact rlsF_sm _ (by intro f h; cases h) _ L h
  | d + 1, L, h => by rw [rls_sb]; exact rlsF_sm _ (by intro f h; simp only [sb, Option.some.injEq] at h; rw [← h]; exact rls_sm d) _ L h

def rulesOf (s : List UInt8) : List Rl := rls 3 (cutP s)
def badP (s : List UInt8) : Bool := decide (3000 < s.length) || (lngs (rulesOf s) || decide (60 < cnts (rulesOf s)))

theorem badP_no {s : List UInt8} (h : badP s = false) : s.length ≤ 3000 ∧ lngs (rulesOf s) = false ∧ cnts (rulesOf s) ≤ 60 := by
  unfold badP at h
  rw [Bool.or_eq_false_iff, Bool.or_eq_false_iff, decide_eq_false_iff_not, decide_eq_false_iff_not] at h
  exact ⟨by omega, h.2.1, by omega⟩

theorem good_rules (s : List UInt8) : ∀ r ∈ rulesOf s, GoodR false 3 r := rls_good 3 _ false (cutP s) (Nat.le_refl _) (Cut.of s) (by intro h; cases h)

theorem small_rules {s : List UInt8} (h : badP s = false) : (shw (rulesOf s)).length ≤ 100000000 := by
  obtain ⟨h1, h2, h3⟩ := badP_no h
  have hl := cutP_len _ s (Nat.le_refl _)
  have h4 : sms 9020 (rulesOf s) := rls_sm 3 (cutP s) ⟨cut_val _ s (Nat.le_refl _), by rw [rw_cut]; omega⟩
  have h5 := sms_len 9020 _ h4 h2
  have : cnts (rulesOf s) * (31 * 9020 + 20) ≤ 60 * (31 * 9020 + 20) := Nat.mul_le_mul_right _ h3
  omega

theorem Parse_is (k : Nat) (hk : k = 200011) (s : List UInt8) : cssrule_Parse k s = some (bif badP s then ((2 : Int), ([] : List S38)) else (0, mrs (rulesOf s))) := Parse_eq k (by omega) s

theorem shown_is (k : Nat) (hk : k = 200011) (s : List UInt8) : clerestorykeep2_shown k s = some (bif badP s then ([], false, []) else bif decide (3000 < (shw (rulesOf s)).length) then ([], false, mrs (rulesOf s)) else (shw (rulesOf s), true, mrs (rulesOf s))) := by
  unfold clerestorykeep2_shown
  rw [Parse_is k hk s]
  cases hb : badP s with
  | true =>
    simp only [cond_true, Option.bind_some]
    have h0 : cssrule_Show k ([] : List S38) = some ([], 0) := Show_eq k hk [] (by simp) (by simp [cnts]) rfl (by simp [shw])
    rw [h0]
    rfl
  | false =>
    obtain ⟨h1, h2, h3⟩ := badP_no hb
    simp only [cond_false, Option.bind_some]
    rw [Show_eq k hk _ (good_rules s) h3 h2 (small_rules hb)]
    simp only [Option.bind_some]
    cases decide (3000 < (shw (rulesOf s)).length) <;> rfl

theorem bleN {x : Nat} (h : x ≤ 9223372036854775807) : Nat.ble x 9223372036854775807 = true := by rw [Nat.ble_eq]; exact h

/-- What two sheets are together. -/
theorem both (k : Nat) (hk : k = 200011) (l : List Rl) (u t : List UInt8) (hr : rulesOf t = l ++ rulesOf u) (hb : badP t = false) : clerestorykeep2_sameRules k (mrs (rulesOf t)) (mrs l ++ mrs (rulesOf u)) = some true ∧ (mrs l ++ mrs (rulesOf u)).length < most := by
  obtain ⟨h1, h2, h3⟩ := badP_no hb
  have e : mrs l ++ mrs (rulesOf u) = mrs (rulesOf t) := by rw [hr, mrs_app]
  refine ⟨by rw [e]; exact rsame_eq k (by omega) _ (by omega) h2, ?_⟩
  rw [e, mrs_len]
  have := len_cnts (rulesOf t)
  unfold most; omega

theorem ne20 : (((2 : Int)) != 0) = true := rfl
theorem ne00 : (((0 : Int)) != 0) = false := rfl

theorem behind_law (k : Nat) (hk : k = 200011) (s u : List UInt8) (hu : u.length ≤ 140737488351232) : clerestorykeep2_RuleBehind k s u = some true := by
  have hf : clerestorykeep2_ruleFact k = some true := by rw [hk]; kernel_rfl
  unfold clerestorykeep2_RuleBehind
  rw [hf, shown_is k hk s, Parse_is k hk u]
  simp only [Option.bind_some]
  cases hb : badP s with
  | true =>
    simp only [cond_true]
    rw [bleN (by simp only [List.length_nil]; omega), cond_true, Parse_is k hk]
    rfl
  | false =>
    obtain ⟨h1, h2, h3⟩ := badP_no hb
    have hsm := small_rules hb
    simp only [cond_false]
    by_cases hl : 3000 < (shw (rulesOf s)).length
    · rw [decide_eq_true hl]
      simp only [cond_true]
      rw [bleN (by simp only [List.length_nil]; omega), cond_true, Parse_is k hk]
      rfl
    · rw [decide_eq_false hl]
      simp only [cond_false]
      rw [bleN (by omega), cond_true, Parse_is k hk]
      simp only [Option.bind_some]
      cases hbu : badP u with
      | true => rfl
      | false =>
        cases hbt : badP (shw (rulesOf s) ++ u) with
        | true => rfl
        | false =>
          simp only [cond_false, ne00, Bool.not_true, cond_false]
          have hr : rulesOf (shw (rulesOf s) ++ u) = rulesOf s ++ rulesOf u := shown_cut 3 _ (good_rules s) u
          obtain ⟨b1, b2⟩ := both k hk _ u _ hr hbt
          rw [cond_dec b2, b1]
          rfl

theorem badR_len : ∀ i < 8, (badR.getD i []).length ≤ 30 := by decide

theorem spoils_law (k : Nat) (hk : k = 200011) (s u : List UInt8) (n : Int) (hu : u.length ≤ 140737488351232) : clerestorykeep2_RuleSpoils k s u n = some true := by
  have hf : clerestorykeep2_ruleFact k = some true := by rw [hk]; kernel_rfl
  have hmod : IntKind.wrap .u64 n = n % 18446744073709551616 := wrap_u64 n
  have h0 : 0 ≤ n % 18446744073709551616 := Int.emod_nonneg _ (by omega)
  have hv : Int.tmod (IntKind.wrap .u64 n) 8 = ((((n % 18446744073709551616) % 8).toNat : Nat) : Int) := by rw [hmod, tmod_u 8 h0]; omega
  have hi : ((n % 18446744073709551616) % 8).toNat < 8 := by omega
  generalize ((n % 18446744073709551616) % 8).toNat = i at hv hi
  have hbl := badR_len i hi
  have hsp := badR_out u i hi
  unfold clerestorykeep2_RuleSpoils
  rw [hf, shown_is k hk s, Parse_is k hk u]
  have e0 : ([([64, 120, 32, 39, 121, 39, 59] : List UInt8), ([64, 120, 32, 123, 32, 97, 32, 123, 32, 98, 58, 32, 99, 32, 125, 32, 125] : List UInt8), ([47, 42, 32, 123, 32, 42, 47] : List UInt8), ([64, 120, 32, 40, 59, 41, 32, 91, 123, 125, 93, 32, 123, 32, 93, 32, 125] : List UInt8), ([10, 12, 32] : List UInt8), ([64, 120, 59, 64, 121, 59] : List UInt8), ([39, 10, 123, 32, 97, 58, 32, 98, 32, 125] : List UInt8), ([64, 109, 101, 100, 105, 97, 32, 39, 10, 32, 123, 32, 97, 32, 123, 32, 98, 58, 32, 99, 32, 125, 32, 125] : List UInt8)] : List (List UInt8)) = badR := rfl
  simp only [Option.bind_some, e0, hv]
  have hb8 : (badR.length : Int) = 8 := rfl
  rw [show (((8 : Int) != 0)) = true from rfl, cond_true, cond_dec (by rw [hb8]; omega)]
  have e1 : ((i : Nat) : Int).toNat = i := rfl
  rw [e1]
  cases hb : badP s with
  | true =>
    simp only [cond_true]
    rw [bleN (by simp only [List.length_nil]; omega), cond_true, bleN (by simp only [List.length_append, List.length_nil]; omega), cond_true, Parse_is k hk]
    rfl
  | false =>
    obtain ⟨h1, h2, h3⟩ := badP_no hb
    have hsm := small_rules hb
    simp only [cond_false]
    by_cases hl : 3000 < (shw (rulesOf s)).length
    · rw [decide_eq_true hl]
      simp only [cond_true]
      rw [bleN (by simp only [List.length_nil]; omega), cond_true, bleN (by simp only [List.length_append, List.length_nil]; omega), cond_true, Parse_is k hk]
      rfl
    · rw [decide_eq_false hl]
      simp only [cond_false]
      rw [bleN (by omega), cond_true, bleN (by simp only [List.length_append]; omega), cond_true, Parse_is k hk]
      simp only [Option.bind_some]
      cases hbu : badP u with
      | true => rfl
      | false =>
        cases hbt : badP (shw (rulesOf s) ++ badR.getD i [] ++ u) with
        | true => rfl
        | false =>
          simp only [cond_false, ne00, Bool.not_true, cond_false]
          have hr : rulesOf (shw (rulesOf s) ++ badR.getD i [] ++ u) = rulesOf s ++ rulesOf u := by
            have := shown_cut 3 _ (good_rules s) (badR.getD i [] ++ u)
            rw [hsp] at this
            rw [List.append_assoc]
            exact this
          obtain ⟨b1, b2⟩ := both k hk _ u _ hr hbt
          rw [cond_dec b2, b1]
          rfl

theorem deep_loop (k : Nat) (r : clerestorykeep2_deep.G.R) (L : List Rl) (hL : cnts L ≤ 100000) (hd0 : deps L ≤ 100000) (hr : ∀ m h ds rs, Rl.mk m h ds rs ∈ L → m = true → r.clerestorykeep2_deep (mrs rs) = some ((deps rs : Nat) : Int))
    (K : Int → Option Int) : ∀ (n i c : Nat), i ≤ L.length → L.length - i < n → c ≤ 100001 → clerestorykeep2_deep.c7 k r n (mrs L) (c : Int) (i : Int) K = K ((max c (deps (L.drop i)) : Nat) : Int)
  | 0, i, c, _, h, _ => by omega
  | n + 1, i, c, hi, hn, hc => by
    have hlen := len_cnts L
    unfold clerestorykeep2_deep.c7
    simp only [mrs_len]
    match hd : L.drop i with
    | [] =>
      have hi2 : i = L.length := by
        have := congrArg List.length hd
        simp at this; omega
      rw [cond_ndec (by omega), deps, Nat.max_eq_left (Nat.zero_le c)]
    | .mk m h ds rs :: q =>
      obtain ⟨h1, h2, h3⟩ := atr L i _ q hd
      have w1 : IntKind.wrap .i64 ((i : Int) + 1) = ((i + 1 : Nat) : Int) := by rw [wrap_i64 (by omega) (by omega)]; omega
      have hmem : Rl.mk m h ds rs ∈ L := List.mem_of_mem_drop (by rw [hd]; simp)
      have hdm := dep_mem L _ hmem
      rw [cond_dec (by omega), cond_dec (by omega)]
      simp only [Int.toNat_natCast, h2, mr, w1]
      cases m with
      | false =>
        simp only [cond_false]
        rw [deep_loop k r L hL hd0 hr K n (i + 1) c (by omega) (by omega) hc, h3, deps, depR, cond_false, Nat.max_eq_right (Nat.zero_le (deps q))]
      | true =>
        rw [depR, cond_true] at hdm
        simp only [cond_true]
        rw [cond_dec (by omega), hr _ _ _ _ hmem rfl]
        simp only [Option.bind_some]
        have w2 : IntKind.wrap .i64 ((1 : Int) + ((deps rs : Nat) : Int)) = ((1 + deps rs : Nat) : Int) := by rw [wrap_i64 (by omega) (by omega)]; omega
        have w3 : (if ((1 + deps rs : Nat) : Int) > (c : Int) then ((1 + deps rs : Nat) : Int) else (c : Int)) = ((max c (1 + deps rs) : Nat) : Int) := by
          by_cases hg : c < 1 + deps rs
          · rw [if_pos (by omega)]; congr 1; omega
          · rw [if_neg (by omega)]; congr 1; omega
        rw [w2, w3, deep_loop k r L hL hd0 hr K n (i + 1) _ (by omega) (by omega) (by omega), h3, deps, depR, cond_true]
        congr 2
        omega

mutual
theorem depR_cnt : ∀ r : Rl, depR r ≤ cntR r
  | .mk m h ds rs => by
    have := deps_cnt rs
    rw [depR, cntR]
    cases m <;> simp <;> omega
theorem deps_cnt : ∀ l : List Rl, deps l ≤ cnts l
  | [] => by simp [deps]
  | r :: l => by
    have h1 := depR_cnt r
    have h2 := deps_cnt l
    rw [deps, cnts]; omega
end

theorem deep_rec (k : Nat) (hk : 100010 < k) : ∀ (m : Nat) (L : List Rl), cnts L ≤ 100000 → cnts L < m → (clerestorykeep2_deep.G.rec k m).clerestorykeep2_deep (mrs L) = some ((deps L : Nat) : Int)
  | 0, L, _, h => by omega
  | m + 1, L, hc, h => by
    show clerestorykeep2_deep.nat k (clerestorykeep2_deep.G.rec k m) (mrs L) = _
    unfold clerestorykeep2_deep.nat
    have hlen := len_cnts L
    have hd := deps_cnt L
    have := deep_loop k (clerestorykeep2_deep.G.rec k m) L hc (by omega) (fun mm hh ds rs hm _ => deep_rec k hk m rs (by have := cnts_mem hm; omega) (by have := cnts_mem hm; omega)) (fun (y10 : Int) => some y10) k 0 0 (by omega) (by omega) (by omega)
    rw [List.drop_zero] at this
    refine this.trans ?_
    rw [Nat.max_eq_right (Nat.zero_le (deps L))]

def clss (l : List Rl) : Bool := l.any clsR

theorem cls_in (k : Nat) (L : List Rl) (i : Nat) (h : List UInt8) (hi : i < L.length) (hh : ((mrs L).getD i S38.d).Head = h) (hl : h.length ≤ 100000) (K : List S38 → Int → Option Bool) : ∀ (n j : Nat), j ≤ h.length → h.length - j < n →
    clerestorykeep2_closes.c11 k n (mrs L) (i : Int) (j : Int) K = bif (h.drop j).contains 125 then some true else K (mrs L) (i : Int)
  | 0, j, _, h => by omega
  | n + 1, j, hj, hn => by
    unfold clerestorykeep2_closes.c11
    rw [cond_dec (by rw [mrs_len]; omega)]
    simp only [Int.toNat_natCast, hh]
    rcases Nat.lt_or_ge j h.length with h1 | h1
    · have w1 : IntKind.wrap .i64 ((j : Int) + 1) = ((j + 1 : Nat) : Int) := by rw [wrap_i64 (by omega) (by omega)]; omega
      rw [cond_dec (by omega), cond_dec (by rw [mrs_len]; omega), cond_dec (by omega), List.drop_eq_getElem_cons h1]
      have e : h.getD j 0 = h[j] := by rw [List.getD_eq_getElem?_getD, List.getElem?_eq_getElem h1]; rfl
      rw [e, show (((h[j].toNat : Nat) : Int) == (125 : Int)) = (h[j] == 125) from byte_eq _ 125, List.contains_cons, w1]
      have e2 : ((125 : UInt8) == h[j]) = (h[j] == 125) := BEq.comm
      rw [e2]
      cases h[j] == 125 with
      | true => rfl
      | false =>
        simp only [cond_false, Bool.false_or]
        exact cls_in k L i h hi hh hl K n (j + 1) (by omega) (by omega)
    · rw [cond_ndec (by omega), List.drop_eq_nil_of_le (by omega)]
      rfl

theorem cls_loop (k : Nat) (hk : 100010 < k) (L : List Rl) (hL : L.length ≤ 100000) (hh : ∀ m h ds rs, Rl.mk m h ds rs ∈ L → h.length ≤ 100000) : ∀ (n i : Nat), i ≤ L.length → L.length - i < n →
    clerestorykeep2_closes.c5 k n (mrs L) (i : Int) (some false) = some (clss (L.drop i))
  | 0, i, _, h => by omega
  | n + 1, i, hi, hn => by
    unfold clerestorykeep2_closes.c5
    simp only [mrs_len]
    match hd : L.drop i with
    | [] =>
      have hi2 : i = L.length := by
        have := congrArg List.length hd
        simp at this; omega
      rw [cond_ndec (by omega)]; rfl
    | .mk m h ds rs :: q =>
      obtain ⟨h1, h2, h3⟩ := atr L i _ q hd
      have w1 : IntKind.wrap .i64 ((i : Int) + 1) = ((i + 1 : Nat) : Int) := by rw [wrap_i64 (by omega) (by omega)]; omega
      have hmem : Rl.mk m h ds rs ∈ L := List.mem_of_mem_drop (by rw [hd]; simp)
      have hl := hh _ _ _ _ hmem
      rw [cond_dec (by omega)]
      have := cls_in k L i h h1 (by rw [h2]; rfl) hl (fun (y11 : List S38) (y12 : Int) => clerestorykeep2_closes.c5 k n y11 (IntKind.wrap .i64 (y12 + 1)) (some false)) k 0 (by omega) (by omega)
      rw [List.drop_zero] at this
      refine this.trans ?_
      rw [clss, List.any_cons]
      show _ = some (h.contains 125 || clss q)
      cases h.contains 125 with
      | true => rfl
      | false =>
        rw [cond_false, w1, cls_loop k hk L hL hh n (i + 1) (by omega) (by omega), h3]
        rfl

theorem qry_len : ∀ i < 6, (qrys.getD i []).length ≤ 30 := by decide

theorem head_len {L : List Rl} {m : Bool} {h : List UInt8} {ds : List Dc} {rs : List Rl} (hm : Rl.mk m h ds rs ∈ L) : h.length ≤ (shw L).length := by
  have := shw_mem hm
  rw [sh_pr, prR] at this
  simp only [List.length_append] at this
  omega

theorem within_law (k : Nat) (hk : k = 200011) (s : List UInt8) (n : Int) : clerestorykeep2_RuleWithin k s n = some true := by
  have hf : clerestorykeep2_ruleFact k = some true := by rw [hk]; kernel_rfl
  have hk' : 100010 < k := by omega
  have hmod : IntKind.wrap .u64 n = n % 18446744073709551616 := wrap_u64 n
  have h0 : 0 ≤ n % 18446744073709551616 := Int.emod_nonneg _ (by omega)
  have hv : Int.tmod (IntKind.wrap .u64 n) 6 = ((((n % 18446744073709551616) % 6).toNat : Nat) : Int) := by rw [hmod, tmod_u 6 h0]; omega
  have hi : ((n % 18446744073709551616) % 6).toNat < 6 := by omega
  generalize ((n % 18446744073709551616) % 6).toNat = i at hv hi
  have hbl := qry_len i hi
  unfold clerestorykeep2_RuleWithin
  rw [hf, shown_is k hk s]
  have e0 : ([([97, 108, 108] : List UInt8), ([112, 114, 105, 110, 116] : List UInt8), ([40, 109, 105, 110, 45, 119, 105, 100, 116, 104, 58, 32, 49, 112, 120, 41] : List UInt8), ([110, 111, 116, 32, 97, 108, 108] : List UInt8), ([] : List UInt8), ([120, 32, 121] : List UInt8)] : List (List UInt8)) = qrys := rfl
  simp only [Option.bind_some, e0, hv]
  have hb6 : (qrys.length : Int) = 6 := rfl
  rw [show (((6 : Int) != 0)) = true from rfl, cond_true, cond_dec (by rw [hb6]; omega)]
  have e1 : ((i : Nat) : Int).toNat = i := rfl
  rw [e1]
  have em : ([64, 77, 69, 68, 73, 65, 32] : List UInt8) = mqry := rfl
  have hml : mqry.length = 7 := rfl
  rw [em]
  have hbig : ∀ t : List UInt8, t.length ≤ 100000000 → (Nat.ble (mqry.length + (qrys.getD i []).length) 9223372036854775807 = true) ∧ (Nat.ble ((mqry ++ qrys.getD i []).length + ([123] : List UInt8).length) 9223372036854775807 = true) ∧
      (Nat.ble ((mqry ++ qrys.getD i [] ++ [123]).length + t.length) 9223372036854775807 = true) ∧ (Nat.ble ((mqry ++ qrys.getD i [] ++ [123] ++ t).length + ([125] : List UInt8).length) 9223372036854775807 = true) := by
    intro t ht
    refine ⟨bleN (by omega), bleN ?_, bleN ?_, bleN ?_⟩ <;> simp only [List.length_append, List.length_cons, List.length_nil] <;> omega
  cases hb : badP s with
  | true =>
    obtain ⟨b1, b2, b3, b4⟩ := hbig [] (by simp)
    simp only [cond_true, b1, b2, b3, b4]
    rw [Parse_is k hk]
    rfl
  | false =>
    obtain ⟨h1, h2, h3⟩ := badP_no hb
    have hsm := small_rules hb
    simp only [cond_false]
    by_cases hl : 3000 < (shw (rulesOf s)).length
    · rw [decide_eq_true hl]
      obtain ⟨b1, b2, b3, b4⟩ := hbig [] (by simp)
      simp only [cond_true, b1, b2, b3, b4]
      rw [Parse_is k hk]
      rfl
    · rw [decide_eq_false hl]
      obtain ⟨b1, b2, b3, b4⟩ := hbig (shw (rulesOf s)) hsm
      simp only [cond_false, b1, b2, b3, b4, cond_true]
      rw [Parse_is k hk]
      simp only [Option.bind_some]
      cases hbt : badP (mqry ++ qrys.getD i [] ++ [123] ++ shw (rulesOf s) ++ [125]) with
      | true => rfl
      | false =>
        obtain ⟨g1, g2, g3⟩ := badP_no hbt
        have hdeep : clerestorykeep2_deep k (mrs (rulesOf s)) = some ((deps (rulesOf s) : Nat) : Int) := deep_rec k hk' k _ (by omega) (by omega)
        simp only [cond_false, ne00, Bool.not_true, Bool.not_false, cond_true]
        rw [hdeep]
        simp only [Option.bind_some]
        by_cases hd3 : 3 ≤ deps (rulesOf s)
        · rw [decide_eq_true (show (((deps (rulesOf s) : Nat) : Int) ≥ 3) by omega)]
          rfl
        · rw [decide_eq_false (show ¬ (((deps (rulesOf s) : Nat) : Int) ≥ 3) by omega)]
          have hlen := len_cnts (rulesOf s)
          have hcl : clerestorykeep2_closes k (mrs (rulesOf s)) = some (clss (rulesOf s)) := by
            have := cls_loop k hk' (rulesOf s) (by omega) (fun m h ds rs hm => by have := head_len hm; omega) k 0 (by omega) (by omega)
            rw [List.drop_zero] at this
            exact this
          simp only [Bool.not_false, cond_true]
          rw [hcl]
          simp only [Option.bind_some, cond_false]
          cases hcc : clss (rulesOf s) with
          | true => rfl
          | false =>
            have hgood : ∀ r ∈ rulesOf s, GoodR true 2 r := by
              intro r hr
              have h5 : clsR r = false := by
                have := List.any_eq_false.1 hcc r hr
                simpa using this
              have h6 := dep_mem _ _ hr
              exact good_dep (good_up (good_rules s r hr) h5) 2 (by omega)
            have hw := within_all (rulesOf s) hgood i hi
            have ht : rulesOf (mqry ++ qrys.getD i [] ++ [123] ++ shw (rulesOf s) ++ [125]) = [.mk true (qrys.getD i []) [] (rulesOf s)] := by
              rw [← hw]
              unfold rulesOf
              simp
            rw [ht] at g2 g3 ⊢
            have hs := rsame_eq k hk' [.mk true (qrys.getD i []) [] (rulesOf s)] (by omega) g2
            simp only [cond_false]
            have e3 : ([(⟨true, qrys.getD i [], [], mrs (rulesOf s)⟩ : S38)] : List S38) = mrs [.mk true (qrys.getD i []) [] (rulesOf s)] := rfl
            rw [e3, hs]
            rfl

theorem behind_ex (s u : List UInt8) (hs : s.length ≤ reachBytes) (hu : u.length ≤ reachBytes) : ∃ k, clerestorykeep2_RuleBehind k s u = some true := ⟨200011, behind_law 200011 rfl s u hu⟩
theorem spoils_ex (s u : List UInt8) (n : Int) (hs : s.length ≤ reachBytes) (hu : u.length ≤ reachBytes) : ∃ k, clerestorykeep2_RuleSpoils k s u n = some true := ⟨200011, spoils_law 200011 rfl s u n hu⟩
theorem within_ex (s : List UInt8) (n : Int) : ∃ k, clerestorykeep2_RuleWithin k s n = some true := ⟨200011, within_law 200011 rfl s n⟩

end Go.Ev.Rb
