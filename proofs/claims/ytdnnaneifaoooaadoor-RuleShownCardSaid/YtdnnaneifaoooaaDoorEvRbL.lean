/- RuleShown's law, in plain words. No condition beyond those that each theorem names. -/
import Derived.Test.YtdnnaneifaoooaaDoorEvRbK
set_option linter.unusedVariables false
set_option linter.unusedSimpArgs false
namespace Go.Ev.Rb
open Go Go.Ev.Tok

/-- How many semicolons there are, if a rule has too many declarations. -/
theorem lng_rlsF (sub : Option (List Tk → List Rl)) (hsub : ∀ f, sub = some f → ∀ L, lngs (f L) = true → 30 ≤ L.countP semT) : ∀ (n : Nat) (L : List Tk), lngs (rlsF sub n L) = true → 30 ≤ L.countP semT
  | 0, L, h => by rw [rlsF, lngs] at h; cases h
  | n + 1, L, h => by
    rw [rlsF] at h
    have hs : (sol L).countP semT ≤ L.countP semT := (sol_sub L).countP_le
    match hL : sol L with
    | [] => rw [hL] at h; cases h
    | t :: q =>
      rw [hL] at h hs
      simp only at h
      match hd : (t :: q).drop (hdN t q) with
      | [] => rw [hd] at h; cases h
      | x :: D =>
        rw [hd] at h
        have h1 : (x :: D).countP semT ≤ (t :: q).countP semT := by rw [← hd]; exact (List.drop_sublist _ _).countP_le
        have h0 : D.countP semT ≤ (x :: D).countP semT := (List.sublist_cons_self x D).countP_le
        simp only at h
        cases hb : brcT x with
        | false =>
          rw [hb, cond_false] at h
          have := lng_rlsF sub hsub n D h
          omega
        | true =>
          rw [hb, cond_true, lngs_app, Bool.or_eq_true] at h
          rcases h with h | h
          · have e : (inn x D).countP semT ≤ D.countP semT := (List.take_sublist _ D).countP_le
            have h4 : 30 ≤ (inn x D).countP semT := by
              have hds : 30 < (decs (inn x D)).length → 30 ≤ (inn x D).countP semT := by
                intro hl
                have := dcls_cnt ((inn x D).length + 2) (inn x D)
                have e2 : (dcls ((inn x D).length + 2) (inn x D)).length = (decs (inn x D)).length := rfl
                omega
              unfold rul at h
              cases hbad : ((t :: q).take (hdN t q)).any badT with
              | true => rw [hbad] at h; cases h
              | false =>
                rw [hbad, cond_false] at h
                cases hH : (t :: q).take (hdN t q) with
                | nil =>
                  rw [hH] at h
                  simp only [Option.toList_some, lngs, lngR, Bool.or_false, Bool.false_or, decide_eq_true_eq] at h
                  exact hds h
                | cons u v =>
                  rw [hH] at h
                  simp only at h
                  cases ha : atT u with
                  | false =>
                    rw [ha] at h
                    simp only [Bool.not_false, cond_true, Option.toList_some, lngs, lngR, Bool.or_false, Bool.false_or, decide_eq_true_eq] at h
                    exact hds h
                  | true =>
                    rw [ha] at h
                    simp only [Bool.not_true, cond_false] at h
                    cases hsb : sub with
                    | none => rw [hsb] at h; cases h
                    | some f =>
                      rw [hsb] at h
                      simp only at h
                      cases hf : fldT u medW with
                      | false => rw [hf] at h; cases h
                      | true =>
                        rw [hf] at h
                        simp only [cond_true, Option.toList_some, lngs, lngR, List.length_nil, Bool.or_false, Bool.or_eq_true] at h
                        rcases h with h | h
                        · exact hsub f hsb _ h
                        · cases h
            omega
          · have := lng_rlsF sub hsub n _ h
            have e : (D.drop (blk [clo x] D).1).countP semT ≤ D.countP semT := (List.drop_sublist _ D).countP_le
            omega

theorem lng_rls : ∀ (d : Nat) (L : List Tk), lngs (rls d L) = true → 30 ≤ L.countP semT
  | 0, L, h => by rw [rls_sb] at h; exact lng_rlsF _ (by intro f h; cases h) _ L h
  | d + 1, L, h => by rw [rls_sb] at h; exact lng_rlsF _ (by intro f h; simp only [sb, Option.some.injEq] at h; rw [← h]; exact lng_rls d) _ L h

theorem cnt_brc : ∀ L : List Tk, L.countP brcT ≤ Lib.countByte (rw L) 123
  | [] => by simp
  | t :: r => by
    have ih := cnt_brc r
    have ha : ∀ a b : List UInt8, Lib.countByte (a ++ b) 123 = Lib.countByte a 123 + Lib.countByte b 123 := by
      intro a b; unfold Lib.countByte; simp
    rw [rw_cons, ha, List.countP_cons]
    cases h : brcT t with
    | false => simp; omega
    | true =>
      have : t.2.1 = [123] := by
        unfold brcT rawT at h
        rw [Bool.and_eq_true, beq_iff_eq, beq_iff_eq] at h
        exact h.2
      rw [this]
      have : Lib.countByte [123] 123 = 1 := by decide
      simp; omega

theorem wrN {x : Int} {n : Nat} (h : x = (n : Int)) (hn : n ≤ 1000000000) : IntKind.wrap .i64 x = (n : Int) := by rw [h, wrap_i64 (by omega) (by omega)]

theorem showing23 (k : Nat) (r : clerestorykeep2_showing.G.R) (L : List Rl) (i : Nat) (m : Bool) (h : List UInt8) (ds : List Dc) (rs : List Rl) (hi : i < L.length) (hg : (mrs L).getD i S38.d = mr (.mk m h ds rs)) (hl : ds.length ≤ 100000)
    (K : List S38 → Int → Int → Option Int) : ∀ (n j c : Nat), j ≤ ds.length → ds.length - j < n → c + ((ds.drop j).map dsh).flatten.length ≤ 500000000 →
    clerestorykeep2_showing.c23 k r n (mrs L) (c : Int) (i : Int) (j : Int) K = K (mrs L) ((c + ((ds.drop j).map dsh).flatten.length : Nat) : Int) (i : Int)
  | 0, j, c, _, h, _ => by omega
  | n + 1, j, c, hj, hn, hc => by
    unfold clerestorykeep2_showing.c23
    have hdec : (decide (0 ≤ (i : Int) ∧ (i : Int) < (((mrs L).length : Nat) : Int))) = true := decide_eq_true (by rw [mrs_len]; omega)
    simp only [hdec, cond_true, Int.toNat_natCast, hg, mr, List.length_map]
    match hd : ds.drop j with
    | [] =>
      have hi2 : j = ds.length := by
        have := congrArg List.length hd
        simp at this; omega
      rw [cond_ndec (by omega)]
      simp
    | x :: q =>
      obtain ⟨h1, h2, h3⟩ := atd ds j x q hd
      rw [hd, List.map_cons, List.flatten_cons, List.length_append] at hc
      have hx : (dsh x).length = x.1.length + (x.2.1.length + (bif x.2.2 then 32 :: 33 :: word else []).length) + 4 := by
        unfold dsh; simp only [List.length_append, List.length_cons, List.length_nil]; omega
      have w1 : IntKind.wrap .i64 ((j : Int) + 1) = ((j + 1 : Nat) : Int) := wrN (by omega) (by omega)
      have hdj : (decide (0 ≤ (j : Int) ∧ (j : Int) < ((ds.length : Nat) : Int))) = true := decide_eq_true (by omega)
      rw [cond_dec (by omega)]
      simp only [hdj, cond_true, h2, w1]
      rw [show (md x).Name = x.1 from rfl, show (md x).Value = x.2.1 from rfl, show (md x).Important = x.2.2 from rfl]
      have w2 : IntKind.wrap .i64 ((x.1.length : Int) + (x.2.1.length : Int)) = ((x.1.length + x.2.1.length : Nat) : Int) := wrN (by omega) (by omega)
      have w3 : IntKind.wrap .i64 (((x.1.length + x.2.1.length : Nat) : Int) + 4) = ((x.1.length + x.2.1.length + 4 : Nat) : Int) := wrN (by omega) (by omega)
      have w4 : IntKind.wrap .i64 ((c : Int) + ((x.1.length + x.2.1.length + 4 : Nat) : Int)) = ((c + (x.1.length + x.2.1.length + 4) : Nat) : Int) := wrN (by omega) (by omega)
      rw [w2, w3, w4]
      have fin : ∀ c' : Nat, c' = c + (dsh x).length → clerestorykeep2_showing.c23 k r n (mrs L) (c' : Int) (i : Int) ((j + 1 : Nat) : Int) K = K (mrs L) ((c + ((x :: q).map dsh).flatten.length : Nat) : Int) (i : Int) := by
        intro c' e
        rw [showing23 k r L i m h ds rs hi hg hl K n (j + 1) c' (by omega) (by omega) (by rw [h3]; omega), h3, e, List.map_cons, List.flatten_cons, List.length_append, Nat.add_assoc]
      cases hip : x.2.2 with
      | true =>
        rw [hip] at hx
        simp only [cond_true, word, List.length_cons, List.length_nil] at hx
        have w5 : IntKind.wrap .i64 (((c + (x.1.length + x.2.1.length + 4) : Nat) : Int) + 11) = ((c + (x.1.length + x.2.1.length + 4) + 11 : Nat) : Int) := wrN (by omega) (by omega)
        rw [cond_true, w5]
        exact fin _ (by omega)
      | false =>
        rw [hip] at hx
        simp only [cond_false, List.length_nil] at hx
        rw [cond_false]
        exact fin _ (by omega)

theorem showing_loop (k : Nat) (hk : 100010 < k) (r : clerestorykeep2_showing.G.R) (L : List Rl) (hc0 : cnts L ≤ 100000) (hl : lngs L = false)
    (hr : ∀ m h ds rs, Rl.mk m h ds rs ∈ L → r.clerestorykeep2_showing (mrs rs) = some (((shw rs).length : Nat) : Int)) (K : Int → Option Int) : ∀ (n i c : Nat), i ≤ L.length → L.length - i < n → c + (shw (L.drop i)).length ≤ 500000000 →
    clerestorykeep2_showing.c7 k r n (mrs L) (c : Int) (i : Int) K = K ((c + (shw (L.drop i)).length : Nat) : Int)
  | 0, i, c, _, h, _ => by omega
  | n + 1, i, c, hi, hn, hc => by
    have hlen := len_cnts L
    unfold clerestorykeep2_showing.c7
    simp only [mrs_len]
    match hd : L.drop i with
    | [] =>
      have hi2 : i = L.length := by
        have := congrArg List.length hd
        simp at this; omega
      rw [cond_ndec (by omega)]
      simp [shw]
    | .mk m h ds rs :: q =>
      obtain ⟨h1, h2, h3⟩ := atr L i _ q hd
      have hmem : Rl.mk m h ds rs ∈ L := List.mem_of_mem_drop (by rw [hd]; simp)
      obtain ⟨l1, l2⟩ := lngs_mem hl hmem
      have hrs := hr _ _ _ _ hmem
      have hlen2 : (Rl.mk m h ds rs).sh.length = (bif m then atM else []).length + (h.length + ((bif h.isEmpty then [] else [(32 : UInt8)]).length + (2 + (ds.map dsh).flatten.length))) + (shw rs).length + 2 := by
        rw [sh_pr, prR]; simp only [List.length_append, List.length_cons, List.length_nil]; omega
      rw [hd, shw, List.length_append] at hc
      have hdec : (decide (0 ≤ (i : Int) ∧ (i : Int) < (L.length : Int))) = true := decide_eq_true (by omega)
      have w1 : IntKind.wrap .i64 ((i : Int) + 1) = ((i + 1 : Nat) : Int) := wrN (by omega) (by omega)
      have w2 : IntKind.wrap .i64 ((h.length : Int) + 4) = ((h.length + 4 : Nat) : Int) := wrN (by omega) (by omega)
      have w3 : IntKind.wrap .i64 ((c : Int) + ((h.length + 4 : Nat) : Int)) = ((c + (h.length + 4) : Nat) : Int) := wrN (by omega) (by omega)
      rw [cond_dec (by omega)]
      simp only [hdec, cond_true, Int.toNat_natCast, h2, mr, isE, w2, w3]
      have fin : ∀ c' : Nat, c' = c + (Rl.mk m h ds rs).sh.length → clerestorykeep2_showing.c7 k r n (mrs L) (c' : Int) ((i + 1 : Nat) : Int) K = K ((c + (shw (Rl.mk m h ds rs :: q)).length : Nat) : Int) := by
        intro c' e
        rw [showing_loop k hk r L hc0 hl hr K n (i + 1) c' (by omega) (by omega) (by rw [h3]; omega), h3, e, shw, List.length_append, Nat.add_assoc]
      have s20 : ∀ c' : Nat, c' + (ds.map dsh).flatten.length + (shw rs).length = c + (Rl.mk m h ds rs).sh.length → clerestorykeep2_showing.c20 k r (mrs L) (c' : Int) (i : Int) (fun (y : List S38) (z : Int) (x : Int) =>
          clerestorykeep2_showing.c7 k r n y z (IntKind.wrap .i64 (x + 1)) K) = K ((c + (shw (Rl.mk m h ds rs :: q)).length : Nat) : Int) := by
        intro c' e
        unfold clerestorykeep2_showing.c20
        have := showing23 k r L i m h ds rs h1 h2 (by omega) (fun (y36 : List S38) (y37 : Int) (y38 : Int) =>
          cond (decide (0 ≤ y38 ∧ y38 < (y36.length : Int))) (
          let v39 : List S38 := (y36.getD y38.toNat S38.d).Rules
          (r.clerestorykeep2_showing v39).bind fun r40 =>
          let v41 : Int := (IntKind.wrap .i64 (y37 + r40))
          (fun (y : List S38) (z : Int) (x : Int) => clerestorykeep2_showing.c7 k r n y z (IntKind.wrap .i64 (x + 1)) K) y36 v41 y38) none) k 0 c' (by omega) (by omega) (by rw [List.drop_zero]; omega)
        rw [List.drop_zero] at this
        refine this.trans ?_
        simp only [mrs_len, hdec, cond_true, Int.toNat_natCast, h2, mr, hrs, Option.bind_some, w1]
        have w6 : IntKind.wrap .i64 (((c' + (ds.map dsh).flatten.length : Nat) : Int) + (((shw rs).length : Nat) : Int)) = ((c' + (ds.map dsh).flatten.length + (shw rs).length : Nat) : Int) := wrN (by omega) (by omega)
        rw [w6]
        exact fin _ e
      have s16 : ∀ c' : Nat, c' + (bif m then atM else []).length + (ds.map dsh).flatten.length + (shw rs).length = c + (Rl.mk m h ds rs).sh.length → clerestorykeep2_showing.c16 k r (mrs L) (c' : Int) (i : Int) (fun (y : List S38) (z : Int) (x : Int) =>
          clerestorykeep2_showing.c7 k r n y z (IntKind.wrap .i64 (x + 1)) K) = K ((c + (shw (Rl.mk m h ds rs :: q)).length : Nat) : Int) := by
        intro c' e
        unfold clerestorykeep2_showing.c16
        simp only [mrs_len, hdec, cond_true, Int.toNat_natCast, h2, mr]
        cases m with
        | true =>
          have hat : atM.length = 7 := rfl
          simp only [cond_true, hat] at e ⊢
          have w7 : IntKind.wrap .i64 ((c' : Int) + 7) = ((c' + 7 : Nat) : Int) := wrN (by omega) (by omega)
          rw [w7]
          exact s20 _ (by omega)
        | false =>
          simp only [cond_false, List.length_nil] at e ⊢
          exact s20 _ (by omega)
      cases he : h.isEmpty with
      | true =>
        rw [he] at hlen2
        simp only [cond_true, List.length_nil] at hlen2
        simp only [Bool.not_true, cond_false]
        exact s16 _ (by omega)
      | false =>
        rw [he] at hlen2
        simp only [cond_false, List.length_cons, List.length_nil] at hlen2
        have w8 : IntKind.wrap .i64 (((c + (h.length + 4) : Nat) : Int) + 1) = ((c + (h.length + 4) + 1 : Nat) : Int) := wrN (by omega) (by omega)
        simp only [Bool.not_false, cond_true, w8]
        exact s16 _ (by omega)

theorem showing_rec (k : Nat) (hk : 100010 < k) : ∀ (m : Nat) (L : List Rl), cnts L ≤ 100000 → lngs L = false → cnts L < m → (shw L).length ≤ 500000000 → (clerestorykeep2_showing.G.rec k m).clerestorykeep2_showing (mrs L) = some (((shw L).length : Nat) : Int)
  | 0, L, _, _, h, _ => by omega
  | m + 1, L, hc, hl, h, hb => by
    show clerestorykeep2_showing.nat k (clerestorykeep2_showing.G.rec k m) (mrs L) = _
    unfold clerestorykeep2_showing.nat
    have hlen := len_cnts L
    have := showing_loop k hk (clerestorykeep2_showing.G.rec k m) L hc hl (fun mm hh ds rs hm => showing_rec k hk m rs (by have := cnts_mem hm; omega) (lngs_mem hl hm).1 (by have := cnts_mem hm; omega) (by
      have h1 := shw_mem hm
      rw [sh_pr] at h1
      simp only [List.length_append] at h1
      omega)) (fun (y56 : Int) => some y56) k 0 0 (by omega) (by omega) (by rw [List.drop_zero]; omega)
    rw [List.drop_zero, Nat.zero_add] at this
    exact this

theorem shownr_law (k : Nat) (hk : k = 200011) (s : List UInt8) : clerestorykeep2_RuleShown k s = some true := by
  have hf : clerestorykeep2_ruleFact k = some true := by rw [hk]; kernel_rfl
  have hk' : 100010 < k := by omega
  unfold clerestorykeep2_RuleShown
  rw [hf, Parse_is k hk s]
  simp only [Option.bind_some]
  cases hb : badP s with
  | true =>
    simp only [cond_true, ne20]
    have e1 : (((2 : Int)) == 2) = true := rfl
    have e2 : ((((([] : List S38).length : Nat) : Int)) == (0 : Int)) = true := rfl
    simp only [e1, e2, cond_true, Bool.true_and]
    by_cases h1 : 3000 < s.length
    · rw [decide_eq_true (show ((s.length : Int) > 3000) by omega)]
      rfl
    · rw [decide_eq_false (show ¬ ((s.length : Int) > 3000) by omega)]
      have hB : 30 ≤ Lib.countByte s 59 ∨ 60 < Lib.countByte s 123 := by
        unfold badP at hb
        rw [decide_eq_false h1, Bool.false_or, Bool.or_eq_true, decide_eq_true_eq] at hb
        rcases hb with hb | hb
        · have a1 := lng_rls 3 _ hb
          have a2 := cnt_sem (cutP s)
          rw [rw_cut] at a2
          exact .inl (by omega)
        · have a1 := cnt_rls 3 (cutP s)
          have a2 := cnt_brc (cutP s)
          rw [rw_cut] at a2
          unfold rulesOf at hb
          exact .inr (by omega)
      have e3 : strings_Count k s ([123] : List UInt8) = some ((Lib.countByte s 123 : Nat) : Int) := rfl
      have e4 : strings_Count k s ([59] : List UInt8) = some ((Lib.countByte s 59 : Nat) : Int) := rfl
      simp only [Bool.not_false, cond_true, e3, Option.bind_some, cond_false]
      by_cases h2 : 60 < Lib.countByte s 123
      · rw [decide_eq_true (show (((Lib.countByte s 123 : Nat) : Int) > 60) by omega)]
        rfl
      · rw [decide_eq_false (show ¬ (((Lib.countByte s 123 : Nat) : Int) > 60) by omega)]
        simp only [Bool.not_false, cond_true, e4, Option.bind_some, cond_false]
        rw [decide_eq_true (show (((Lib.countByte s 59 : Nat) : Int) ≥ 30) by omega)]
  | false =>
    obtain ⟨h1, h2, h3⟩ := badP_no hb
    have hsm := small_rules hb
    simp only [cond_false, ne00]
    rw [Show_eq k hk _ (good_rules s) h3 h2 hsm]
    simp only [Option.bind_some]
    by_cases hl : 3000 < (shw (rulesOf s)).length
    · rw [decide_eq_true hl]
      simp only [cond_true, ne20]
      have e1 : (((2 : Int)) == 2) = true := rfl
      have e2 : (([] : List UInt8) == ([] : List UInt8)) = true := rfl
      simp only [e1, e2, cond_true]
      have hs : clerestorykeep2_showing k (mrs (rulesOf s)) = some (((shw (rulesOf s)).length : Nat) : Int) := showing_rec k hk' k _ (by omega) h2 (by omega) (by omega)
      rw [hs]
      simp only [Option.bind_some]
      rw [decide_eq_true (by omega)]
    · rw [decide_eq_false hl]
      simp only [cond_false, ne00]
      have hr : rulesOf (shw (rulesOf s)) = rulesOf s := by
        have := shown_cut 3 (rulesOf s) (good_rules s) []
        rw [List.append_nil, cutP_nil, rls_nil 3 (A := []) (by simp), List.append_nil] at this
        exact this
      have hbt : badP (shw (rulesOf s)) = false := by
        unfold badP
        rw [hr, decide_eq_false hl, h2, decide_eq_false (show ¬ 60 < cnts (rulesOf s) by omega)]
        rfl
      rw [Parse_is k hk, hbt, hr]
      simp only [Option.bind_some, cond_false]
      rw [rsame_eq k hk' _ (by omega) h2]
      rfl

theorem shownr_ex (s : List UInt8) : ∃ k, clerestorykeep2_RuleShown k s = some true := ⟨200011, shownr_law 200011 rfl s⟩

end Go.Ev.Rb
