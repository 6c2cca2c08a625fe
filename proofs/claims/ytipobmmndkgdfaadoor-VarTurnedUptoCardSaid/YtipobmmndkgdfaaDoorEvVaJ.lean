/- VarTurned, as its native says it: true. Its condition: no list or text that comes in is longer than 1048576. -/
import Derived.Test.YtipobmmndkgdfaaDoorEvVaI
set_option linter.unusedVariables false
set_option linter.unusedSimpArgs false
set_option linter.unusedSectionVars false
set_option maxRecDepth 100000
namespace Go.Ev.Va
open Go Go.Ev.Tok

/-! ### names in another order -/

theorem lastP_ext {A B : List S27} (hA : (A.map (·.1)).Nodup) (hB : (B.map (·.1)).Nodup) (h : ∀ x, x ∈ A ↔ x ∈ B) (n : Nm) : lastP A n = lastP B n := by
  cases hl : (lastP A n).2 with
  | true =>
    obtain ⟨x, h1, h2, h3⟩ := lastP_some hl
    rw [← h2, lastP_mem hA h1, lastP_mem hB ((h x).1 h1)]
  | false =>
    have h1 := (lastP_false hl).2
    rw [lastP_none h1, lastP_none fun x hx => h1 x ((h x).2 hx)]

theorem lastF_append {f1 f2 : S27 → List UInt8} {n : Nm} : ∀ (X Y : List S27), Bw.lastF f1 f2 n (X ++ Y) = bif (Bw.lastF f1 f2 n X).2 then Bw.lastF f1 f2 n X else Bw.lastF f1 f2 n Y
  | [], Y => rfl
  | x :: X, Y => by
    rw [List.cons_append, Bw.lastF, Bw.lastF]
    cases f1 x == n with
    | true => rfl
    | false => simp only [cond_false]; exact lastF_append X Y

theorem lastP_append (A B : List S27) (n : Nm) : lastP (A ++ B) n = bif (lastP B n).2 then lastP B n else lastP A n := by
  unfold lastP
  rw [List.reverse_append]
  exact lastF_append _ _

theorem nodup_rev {A : List S27} (h : (A.map (·.1)).Nodup) : (A.reverse.map (·.1)).Nodup := by
  rw [List.map_reverse]
  exact (List.reverse_perm _).nodup_iff.2 h

theorem lastP_rev {A : List S27} (h : (A.map (·.1)).Nodup) (n : Nm) : lastP A.reverse n = lastP A n :=
  lastP_ext (nodup_rev h) h (fun x => List.mem_reverse) n

theorem ring_rev {A : List S27} (h : (A.map (·.1)).Nodup) (n : Nm) : ring A.reverse n = ring A n := by
  have : edg A.reverse = edg A := funext fun x => by unfold edg; rw [lastP_rev h]
  rw [Bool.eq_iff_iff, ring_iff, ring_iff, this]

theorem lft_rev {A : List S27} (h : (A.map (·.1)).Nodup) : lft A.reverse = (lft A).reverse := by
  unfold lft
  rw [← List.filter_reverse]
  apply List.filter_congr
  intro x _
  rw [ring_rev h]

theorem isIn_rev (n : Nm) (L : List S27) : isIn n L.reverse = isIn n L := by
  rw [Bool.eq_iff_iff, isIn_iff, isIn_iff]
  simp

theorem wts_rev (L : List S27) (v : List UInt8) : wts L.reverse v = wts L v := by
  unfold wts
  congr 1
  exact funext fun n => isIn_rev n L

/-! ### one round, flat -/

def add1 (k : Nat) (left kn : List S27) (v : S27) : List S27 := bif wts left v.2 then [] else bif (fillV k v.2 kn).2 then [⟨v.1, (fillV k v.2 kn).1⟩] else []

theorem stp_flat (k : Nat) (hk : 10000001 < k) (left kn0 : List S27) (h0 : kn0.length ≤ 1000) : ∀ (r kn nx : List S27) (n : Nat), (∀ v ∈ r, v ∈ left) → (∀ v ∈ r, (10 : UInt8) ∉ v.2) → (∀ m, isIn m left = false → lastP kn m = lastP kn0 m) → Kn kn n → n + r.length ≤ 1000 →
    (stp k left r kn nx).1 = kn ++ r.flatMap (add1 k left kn0)
  | [], kn, nx, n, _, _, _, _, _ => by rw [stp]; simp
  | v :: r, kn, nx, n, hr, h10, ha, hkn, hn => by
    rw [List.length_cons] at hn
    have hr' : ∀ u ∈ r, u ∈ left := fun u hu => hr u (by simp [hu])
    have h10' : ∀ u ∈ r, (10 : UInt8) ∉ u.2 := fun u hu => h10 u (by simp [hu])
    rw [stp, List.flatMap_cons, add1]
    cases hw : wts left v.2 with
    | true =>
      simp only [cond_true, List.nil_append]
      exact stp_flat k hk left kn0 h0 r kn _ n hr' h10' ha hkn (by omega)
    | false =>
      simp only [cond_false]
      have hlen := hkn.len
      have hf : fillV k v.2 kn = fillV k v.2 kn0 := fill_congr k hk (by omega) h0 v.2 (h10 v (by simp)) fun m hm => ha m (by
        unfold wts at hw
        rw [List.any_eq_false] at hw
        exact Bool.eq_false_iff.2 (hw m hm))
      obtain ⟨f1, f2⟩ := fill_eq k hk (hkn.vs (by omega)) v.2
      rw [hf] at f2
      rw [hf]
      cases h2 : (fillV k v.2 kn0).2 with
      | true =>
        simp only [cond_true]
        rw [← List.append_assoc]
        refine stp_flat k hk left kn0 h0 r (kn ++ [(⟨v.1, (fillV k v.2 kn0).1⟩ : S27)]) nx (n + 1) hr' h10' (fun m hm => ?_) (hkn.snoc (v := (⟨v.1, (fillV k v.2 kn0).1⟩ : S27)) (f2 h2)) (by omega)
        rw [lastP_snoc]
        have : (v.1 == m) = false := by
          rw [beq_eq_false_iff_ne]
          intro e
          have := isIn_iff.2 ⟨v, hr v (by simp), e⟩
          rw [hm] at this; cases this
        show (bif v.1 == m then _ else _) = _
        rw [this, cond_false]
        exact ha m hm
      | false =>
        simp only [cond_false, List.nil_append]
        exact stp_flat k hk left kn0 h0 r kn nx n hr' h10' ha hkn (by omega)

theorem add_names (k : Nat) (left kn : List S27) : ∀ r : List S27, ((r.flatMap (add1 k left kn)).map (·.1)).Sublist (r.map (·.1))
  | [] => List.Sublist.refl _
  | v :: r => by
    have ih := add_names k left kn r
    rw [List.flatMap_cons, List.map_append, List.map_cons, add1]
    cases wts left v.2 with
    | true => exact ih.cons _
    | false =>
      cases (fillV k v.2 kn).2 with
      | true => exact ih.cons_cons _
      | false => exact ih.cons _

theorem rsv_ne (k m : Nat) (kn L : List S27) (h : L ≠ []) : rsv k (m + 1) kn L = rsv k m (stp k L L kn []).1 (stp k L L kn []).2 := by
  cases L with
  | nil => exact absurd rfl h
  | cons v r => rfl

theorem rsv_turn (k : Nat) (hk : 10000001 < k) : ∀ (m : Nat) (kn kn' left : List S27), (left.map (·.1)).Nodup → (∀ n, lastP kn n = lastP kn' n) → (∀ v ∈ left, (10 : UInt8) ∉ v.2) → Kn kn (100 - left.length) → Kn kn' (100 - left.length) → left.length ≤ 100 →
    ∀ n, lastP (rsv k m kn left) n = lastP (rsv k m kn' left.reverse) n
  | 0, kn, kn', left, _, h, _, _, _, _ => h
  | m + 1, kn, kn', left, hnd, h, h10, hkn, hkn', hl => by
    by_cases hne : left = []
    · subst hne; exact h
    · have hne' : left.reverse ≠ [] := by simpa using hne
      rw [rsv_ne k m kn left hne, rsv_ne k m kn' left.reverse hne']
      have hlen := hkn.len
      have hlen' := hkn'.len
      have e1 := stp_flat k hk left kn (by omega) left kn [] _ (fun v hv => hv) h10 (fun _ _ => rfl) hkn (by omega)
      have e2 := stp_flat k hk left.reverse kn' (by omega) left.reverse kn' [] _ (fun v hv => hv) (fun v hv => h10 v (by simpa using hv)) (fun _ _ => rfl) hkn' (by rw [List.length_reverse]; omega)
      have n1 := stp_next k left left kn []
      have n2 := stp_next k left.reverse left.reverse kn' []
      rw [List.nil_append] at n1 n2
      have n3 : (stp k left.reverse left.reverse kn' []).2 = (stp k left left kn []).2.reverse := by
        rw [n1, n2, ← List.filter_reverse]
        apply List.filter_congr
        intro x _
        rw [wts_rev]
      have hg : ∀ v ∈ left, add1 k left.reverse kn' v = add1 k left kn v := by
        intro v hv
        unfold add1
        rw [wts_rev, fill_congr k hk (vs := kn') (vs' := kn) (by omega) (by omega) v.2 (h10 v hv) fun n _ => (h n).symm]
      obtain ⟨k1, _⟩ := stp_known k hk left left kn [] _ hkn (by omega)
      obtain ⟨k2, _⟩ := stp_known k hk left.reverse left.reverse kn' [] _ hkn' (by rw [List.length_reverse]; omega)
      have hfl : (left.filter (fun v => wts left v.2)).length ≤ left.length := List.length_filter_le _ _
      have hfl2 : (left.reverse.filter (fun v => wts left.reverse v.2)).length = (left.filter (fun v => wts left v.2)).length := by
        rw [← n2, n3, List.length_reverse, n1]
      rw [List.length_reverse, hfl2] at k2
      rw [n3]
      refine rsv_turn k hk m _ _ _ ?_ ?_ ?_ (k1.mono (by rw [n1]; omega)) (k2.mono (by rw [n1]; omega)) (by rw [n1]; omega)
      · rw [n1]
        exact hnd.sublist (List.filter_sublist.map _)
      · intro n
        rw [e1, e2, lastP_append, lastP_append, h n]
        have hx : lastP (left.flatMap (add1 k left kn)) n = lastP (left.reverse.flatMap (add1 k left.reverse kn')) n := by
          refine lastP_ext (hnd.sublist (add_names k left kn left)) ((nodup_rev hnd).sublist (add_names k left.reverse kn' left.reverse)) (fun x => ?_) n
          rw [List.mem_flatMap, List.mem_flatMap]
          constructor
          · rintro ⟨v, h1, h2⟩
            exact ⟨v, by simpa using h1, by rw [hg v h1]; exact h2⟩
          · rintro ⟨v, h1, h2⟩
            have h1 : v ∈ left := by simpa using h1
            exact ⟨v, h1, by rw [← hg v h1]; exact h2⟩
        rw [hx]
      · intro v hv
        rw [n1] at hv
        exact h10 v (List.mem_filter.1 hv).1

theorem fin_congr {kn kn' : List S27} (h : ∀ n, lastP kn n = lastP kn' n) : ∀ l : List S27, fin kn l = fin kn' l
  | [] => rfl
  | v :: r => by rw [fin, fin, h, fin_congr h r]

theorem fin_rev (kn : List S27) : ∀ l : List S27, fin kn l.reverse = (fin kn l).reverse
  | [] => rfl
  | v :: r => by
    rw [List.reverse_cons, fin_app, fin_rev kn r, fin, fin, fin, List.reverse_append, List.append_nil]
    cases (lastP kn v.1).2 <;> rfl

theorem resA_turn (k : Nat) (hk : 10000001 < k) {A : List S27} (hc : Ct A) (h10 : ∀ v ∈ A, (10 : UInt8) ∉ v.2) : resA k A.reverse = (resA k A).reverse := by
  unfold resA
  rw [lft_rev hc.nd, fin_rev]
  congr 1
  have hll : (lft A).length ≤ A.length := List.length_filter_le _ _
  have hcl := hc.len
  have h0 : Kn [] (100 - (lft A).length) := ⟨by simp, fun x hx => by cases hx⟩
  exact (fin_congr (rsv_turn k hk 30 [] [] (lft A) (hc.nd.sublist (List.filter_sublist.map _)) (fun _ => rfl) (fun v hv => h10 v (List.mem_filter.1 hv).1) h0 h0 (by omega)) A).symm

theorem cnt_distinct : ∀ (l acc : List S27), ((acc ++ l).map (·.1)).Nodup → acc.length + l.length ≤ 20 → cntP acc l = acc ++ l.filter fun x => ownN x.1
  | [], acc, _, _ => by rw [cntP]; simp
  | v :: r, acc, hnd, hl => by
    rw [List.length_cons] at hl
    have hnd' := hnd
    rw [List.map_append, List.map_cons, List.nodup_append, List.nodup_cons] at hnd'
    rw [cntP, List.filter_cons]
    cases ho : ownN v.1 with
    | false =>
      simp only [Bool.not_false, cond_true, Bool.false_eq_true, if_false]
      refine cnt_distinct r acc (hnd.sublist ?_) (by omega)
      exact ((List.Sublist.refl acc).append (List.sublist_cons_self v r)).map _
    | true =>
      simp only [Bool.not_true, cond_false, if_true]
      rw [ixN_of_none fun x hx => hnd'.2.2 _ (List.mem_map_of_mem (f := fun x : S27 => x.1) hx) _ (by simp)]
      simp only
      rw [decide_eq_true (by omega), cond_true, cnt_distinct r (acc ++ [v]) (by rw [List.append_assoc]; exact hnd) (by rw [List.length_append]; simp; omega), List.append_assoc]
      rfl

/-! ### the law's own loops -/

def nl3 (v : List UInt8) : Bool := hasT [10] v || hasT [13] v || hasT [12] v

theorem dup_loop (q : Nat) (L : List S27) (hL : L.length ≤ 1000) (b : Bool) (i : Nat) (hi : i < L.length) (back : List S27) (K : List S27 → Bool → Int → List S27 → Option Bool) : ∀ (n j : Nat), j ≤ i → i - j < n →
    clerestorykeep2_VarTurned.c21 q n L b (i : Int) (j : Int) back K = bif ((L.take i).drop j).any (fun x => x.1 == (L.getD i S27.d).1) then some b else K L b (i : Int) back
  | 0, j, _, h => by omega
  | n + 1, j, hj, hn => by
    unfold clerestorykeep2_VarTurned.c21
    simp only [Int.toNat_natCast]
    match hd : (L.take i).drop j with
    | [] =>
      have := congrArg List.length hd
      rw [List.length_drop, List.length_take] at this
      simp at this
      rw [cond_ndec (by omega)]
      rfl
    | t :: r =>
      obtain ⟨h1, h2, h3, h4⟩ := atS S27.d (L.take i) j t r hd
      rw [List.length_take] at h1
      have e : L.getD j S27.d = t := by
        rw [← h2, List.getD_eq_getElem?_getD, List.getD_eq_getElem?_getD, List.getElem?_take_of_lt (by omega)]
      have w1 : IntKind.wrap .i64 ((j : Int) + 1) = ((j + 1 : Nat) : Int) := by rw [wrap_i64 (by omega) (by omega)]; omega
      rw [cond_dec (by omega), cond_dec (by omega)]
      simp only [e]
      rw [cond_dec (by omega)]
      rw [List.any_cons]
      show cond (t.1 == (L.getD i S27.d).1) _ _ = _
      cases t.1 == (L.getD i S27.d).1 with
      | true => rfl
      | false =>
        simp only [cond_false, Bool.false_or, w1]
        rw [dup_loop q L hL b i hi back K n (j + 1) (by omega) (by omega), h3]

def badU (L : List S27) : Nat → Bool
  | 0 => false
  | i + 1 => nl3 (L.getD i S27.d).2 || (L.take i).any (fun x => x.1 == (L.getD i S27.d).1) || badU L i

theorem back_loop (q : Nat) (hq : 100000000 < q) (L : List S27) (hL : L.length ≤ 1000) (hV : ∀ x ∈ L, x.2.length ≤ NB) (b : Bool) (K : List S27 → Bool → List S27 → Option Bool) : ∀ (n i : Nat) (back : List S27), i ≤ L.length → i < n → back.length + i ≤ 1000 →
    clerestorykeep2_VarTurned.c11 q n L b ((i : Int) - 1) back K = bif badU L i then some b else K L b (back ++ (L.take i).reverse)
  | 0, i, back, _, h, _ => by omega
  | n + 1, 0, back, _, _, _ => by
    unfold clerestorykeep2_VarTurned.c11
    rw [cond_ndec (by omega)]
    simp [badU]
  | n + 1, i + 1, back, hi, hn, hb => by
    unfold clerestorykeep2_VarTurned.c11
    have w0 : (((i + 1 : Nat) : Int) - 1) = (i : Int) := by omega
    have hv := hV (L.getD i S27.d) (by
      rw [List.getD_eq_getElem?_getD, List.getElem?_eq_getElem (by omega)]
      exact List.getElem_mem _)
    unfold NB at hv
    rw [w0, cond_dec (by omega), cond_dec (by omega)]
    have e0 : decide (0 ≤ (i : Int) ∧ (i : Int) < (L.length : Int)) = true := decide_eq_true (by omega)
    simp only [Int.toNat_natCast, e0, Bool.true_or, cond_true, show clerestorykeep2_hasText q (L.getD i S27.d).Value [10] = some (hasT [10] (L.getD i S27.d).2) from has_eq q _ _ (by omega) (by decide) (by decide) (by omega),
      show clerestorykeep2_hasText q (L.getD i S27.d).Value [13] = some (hasT [13] (L.getD i S27.d).2) from has_eq q _ _ (by omega) (by decide) (by decide) (by omega),
      show clerestorykeep2_hasText q (L.getD i S27.d).Value [12] = some (hasT [12] (L.getD i S27.d).2) from has_eq q _ _ (by omega) (by decide) (by decide) (by omega), Option.bind_some]
    have hd := dup_loop q L hL b i (by omega) back (fun (y22 : List S27) (y23 : Bool) (y24 : Int) (y25 : List S27) =>
      cond (decide (0 ≤ y24 ∧ y24 < (y22.length : Int))) (
      let v26 : List UInt8 := (y22.getD y24.toNat S27.d).Name
      let v27 : List UInt8 := (y22.getD y24.toNat S27.d).Value
      cond (decide ((y25 ++ ([(⟨v26, v27⟩ : S27)])).length < most)) (
      let v28 : List S27 := (y25 ++ ([(⟨v26, v27⟩ : S27)]))
      let v29 : Int := (IntKind.wrap .i64 (y24 - (1 : Int)))
      clerestorykeep2_VarTurned.c11 q n y22 y23 v29 v28 K) none) none) q 0 (Nat.zero_le _) (by omega)
    rw [List.drop_zero] at hd
    have w1 : IntKind.wrap .i64 ((i : Int) - 1) = (i : Int) - 1 := by rw [wrap_i64 (by omega) (by omega)]
    rw [badU]
    unfold nl3
    have hbool : ∀ (x y z d u : Bool) (X Z W : Option Bool), W = (bif d then X else (bif u then X else Z)) → 
        (Option.bind (bif !x then some y else some false) fun r11 => Option.bind (bif !(bif x then true else r11) then some z else some false) fun r12 => bif (bif (bif x then true else r11) then true else r12) then X else W) = bif x || y || z || d || u then X else Z := by
      intro x y z d u X Z W h
      subst h
      cases x <;> cases y <;> cases z <;> cases d <;> cases u <;> rfl
    refine hbool (hasT [10] (L.getD i S27.d).2) (hasT [13] (L.getD i S27.d).2) (hasT [12] (L.getD i S27.d).2) ((L.take i).any (fun x => x.1 == (L.getD i S27.d).1)) (badU L i) (some b) (K L b (back ++ (L.take (i + 1)).reverse)) _ (hd.trans ?_)
    · congr 1
      simp only [Int.toNat_natCast, w1]
      rw [cond_dec (by omega), most_ok (by rw [List.length_append]; simp; omega), cond_true]
      show clerestorykeep2_VarTurned.c11 q n L b ((i : Int) - 1) (back ++ [L.getD i S27.d]) K = _
      rw [back_loop q hq L hL hV b K n i (back ++ [L.getD i S27.d]) (by omega) (by omega) (by rw [List.length_append]; simp; omega)]
      have e : (L.take (i + 1)).reverse = L.getD i S27.d :: (L.take i).reverse := by
        rw [List.take_succ_eq_append_getElem (by omega), List.reverse_append, List.getD_eq_getElem?_getD, List.getElem?_eq_getElem (by omega)]
        rfl
      rw [e, List.append_assoc]
      rfl

theorem badU_ok {L : List S27} : ∀ {i : Nat}, i ≤ L.length → badU L i = false → ((L.take i).map (·.1)).Nodup ∧ ∀ x ∈ L.take i, hasT [10] x.2 = false
  | 0, _, _ => by simp
  | i + 1, hi, h => by
    rw [badU, Bool.or_eq_false_iff, Bool.or_eq_false_iff] at h
    obtain ⟨h1, h2⟩ := badU_ok (by omega) h.2
    have hx : L.getD i S27.d = L[i] := by rw [List.getD_eq_getElem?_getD, List.getElem?_eq_getElem (by omega)]; rfl
    rw [hx] at h
    rw [List.take_succ_eq_append_getElem (by omega)]
    refine ⟨?_, fun x hx => ?_⟩
    · rw [List.map_append, List.nodup_append]
      refine ⟨h1, by simp, fun a ha b hb e => ?_⟩
      obtain ⟨u, hu, rfl⟩ := List.mem_map.1 ha
      have hb : b = L[i].1 := by simpa using hb
      have := h.1.2
      rw [List.any_eq_false] at this
      exact this u hu (by rw [e, hb]; exact beq_self_eq_true _)
    · rcases List.mem_append.1 hx with h3 | h3
      · exact h2 x h3
      · rw [List.mem_singleton.1 h3]
        have := h.1.1
        unfold nl3 at this
        rw [Bool.or_eq_false_iff, Bool.or_eq_false_iff] at this
        exact this.1.1

theorem turn_loop (q : Nat) (b : Bool) (A B : List S27) (hB : B.length ≤ 1000) (K : Bool → List S27 → List S27 → Option Bool) : ∀ (n i : Nat) (acc : List S27), i ≤ B.length → i < n → acc.length + i ≤ 1000 →
    clerestorykeep2_VarTurned.c39 q n b ((i : Int) - 1) A B acc K = K b A (acc ++ (B.take i).reverse)
  | 0, i, acc, _, h, _ => by omega
  | n + 1, 0, acc, _, _, _ => by
    unfold clerestorykeep2_VarTurned.c39
    rw [cond_ndec (by omega)]
    simp
  | n + 1, i + 1, acc, hi, hn, hb => by
    unfold clerestorykeep2_VarTurned.c39
    have w0 : (((i + 1 : Nat) : Int) - 1) = (i : Int) := by omega
    have w1 : IntKind.wrap .i64 ((i : Int) - 1) = (i : Int) - 1 := by rw [wrap_i64 (by omega) (by omega)]
    rw [w0, cond_dec (by omega), cond_dec (by omega)]
    simp only [Int.toNat_natCast, w1]
    rw [most_ok (by rw [List.length_append]; simp; omega), cond_true]
    show clerestorykeep2_VarTurned.c39 q n b ((i : Int) - 1) A B (acc ++ [B.getD i S27.d]) K = _
    rw [turn_loop q b A B hB K n i (acc ++ [B.getD i S27.d]) (by omega) (by omega) (by rw [List.length_append]; simp; omega)]
    have e : (B.take (i + 1)).reverse = B.getD i S27.d :: (B.take i).reverse := by
      rw [List.take_succ_eq_append_getElem (by omega), List.reverse_append, List.getD_eq_getElem?_getD, List.getElem?_eq_getElem (by omega)]
      rfl
    rw [e, List.append_assoc]
    rfl

theorem turned (l : List S27) (hl : ∀ x ∈ l, x.2.length ≤ NB) (hn : l.length ≤ NB) : clerestorykeep2_VarTurned K0 l = some true := by
  unfold NB at hn
  unfold clerestorykeep2_VarTurned
  rw [put_fact]
  simp only [Option.bind_some]
  obtain ⟨j, hj, hj2, hj3⟩ : ∃ j : Nat, (if (15 : Int) < (l.length : Int) then (15 : Int) else (l.length : Int)) = (j : Int) ∧ j ≤ l.length ∧ j ≤ 15 := by
    split
    · exact ⟨15, rfl, by omega, by omega⟩
    · exact ⟨l.length, rfl, by omega, by omega⟩
  simp only [hj, Int.toNat_natCast]
  rw [cond_dec (by omega)]
  have hll : (l.take j).length = j := by rw [List.length_take]; omega
  have hV : ∀ x ∈ l.take j, x.2.length ≤ NB := fun x hx => hl x (List.mem_of_mem_take hx)
  generalize l.take j = L at hll hV
  rw [hll, show IntKind.wrap .i64 ((j : Int) - 1) = (j : Int) - 1 from by rw [wrap_i64 (by omega) (by omega)]]
  have hjk : j < K0 := Nat.lt_of_le_of_lt hj3 (by decide)
  refine (back_loop K0 k0 L (by omega) hV true _ K0 j [] (by omega) hjk (by simp; omega)).trans ?_
  cases hb : badU L j with
  | true => rfl
  | false =>
    obtain ⟨hnd, h10⟩ := badU_ok (by omega) hb
    rw [List.take_of_length_le (by omega)] at hnd h10
    rw [cond_false, List.nil_append, List.take_of_length_le (by omega)]
    rw [Resolve_eq K0 k0 L (by omega) hV]
    simp only [Option.bind_some]
    rw [Resolve_eq K0 k0 L.reverse (by rw [List.length_reverse]; omega) fun x hx => hV x (by simpa using hx)]
    simp only [Option.bind_some]
    have e1 : cntP [] L = L.filter fun x => ownN x.1 := by rw [cnt_distinct L [] (by simpa using hnd) (by simp; omega), List.nil_append]
    have e2 : cntP [] L.reverse = (L.filter fun x => ownN x.1).reverse := by rw [cnt_distinct L.reverse [] (by simpa using nodup_rev hnd) (by simp; omega), List.nil_append, List.filter_reverse]
    obtain ⟨hc, _⟩ := cnt_ok L [] ct_nil
    have e3 : resP K0 L.reverse = (resP K0 L).reverse := by
      show resA K0 (cntP [] L.reverse) = (resA K0 (cntP [] L)).reverse
      rw [e2, ← e1]
      refine resA_turn K0 (by decide) hc fun v hv => ?_
      rw [e1] at hv
      have := h10 v (List.mem_filter.1 hv).1
      rw [hasT_one, List.any_eq_false] at this
      exact fun hm => this 10 hm rfl
    have hct : Ct (resP K0 L) := fin_ct hc
    have hlen := hct.len
    have hlr : (resP K0 L.reverse).length = (resP K0 L).length := by rw [e3, List.length_reverse]
    rw [show IntKind.wrap .i64 (((resP K0 L.reverse).length : Int) - 1) = (((resP K0 L.reverse).length : Nat) : Int) - 1 from by rw [wrap_i64 (by omega) (by omega)]]
    refine (turn_loop K0 true (resP K0 L) (resP K0 L.reverse) (by omega) _ K0 _ [] (Nat.le_refl _) (by rw [hlr]; exact Nat.lt_of_le_of_lt hlen (by decide)) (by simp; omega)).trans ?_
    rw [List.take_length, List.nil_append, e3, List.reverse_reverse, same_eq K0 _ (by omega) (Nat.lt_of_le_of_lt hlen (by decide))]
    rfl

theorem turned_ex (l : List S27) (h : l.length ≤ 1048576 ∧ ∀ y0 ∈ l, y0.1.length ≤ 1048576 ∧ y0.2.length ≤ 1048576) : ∃ k, clerestorykeep2_VarTurned k l = some true :=
  ⟨K0, turned l (fun x hx => (h.2 x hx).2) h.1⟩

end Go.Ev.Va
