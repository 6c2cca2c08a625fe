/- dom.Check in plain words: it always answers, and what it finds right has its kids and parents in order. No condition beyond those that each theorem names. -/
import Derived.Test.YtgoglplnajofnaaGreatDoorEvMcN
import Derived.Test.YtgoglplnajofnaaGreatDoorEvNum
set_option linter.unusedVariables false
set_option linter.unusedSimpArgs false
set_option maxRecDepth 100000
namespace Go.Ev.Mc
open Go Go.Ev

theorem atS {α : Type} (d : α) (L : List α) (i : Nat) (t : α) (r : List α) (h : L.drop i = t :: r) : i < L.length ∧ L.getD i d = t ∧ L.drop (i + 1) = r ∧ t ∈ L := by
  have hi : i < L.length := by
    rcases Nat.lt_or_ge i L.length with h1 | h1
    · exact h1
    · rw [List.drop_eq_nil_of_le h1] at h; cases h
  rw [List.drop_eq_getElem_cons hi] at h
  injection h with h1 h2
  exact ⟨hi, by rw [List.getD_eq_getElem?_getD, List.getElem?_eq_getElem hi]; exact h1, h2, h1 ▸ List.getElem_mem hi⟩

theorem end_of {α : Type} {L : List α} {i : Nat} (hi : i ≤ L.length) (h : L.drop i = []) : i = L.length := by
  have := congrArg List.length h
  simp at this; omega

theorem named_ok (k : Nat) (s f : List UInt8) : ∃ b, dom_named k s f = some b := by
  unfold dom_named
  cases s with
  | nil => exact ⟨false, rfl⟩
  | cons a r =>
    have e0 : decide (0 ≤ (0 : Int) ∧ (0 : Int) < (((a :: r).length : Nat) : Int)) = true := decide_eq_true (by simp only [List.length_cons]; omega)
    simp only [e0, Bool.true_or, cond_true]
    have e1 : (!((a :: r) == ([] : List UInt8))) = true := rfl
    simp only [e1, cond_true]
    by_cases hl : (((a :: r).length : Nat) : Int) ≤ 40
    · rw [decide_eq_true hl]
      simp only [cond_true]
      obtain ⟨v, hv⟩ : ∃ v, strings_IndexByte k f ((((a :: r).getD (0 : Int).toNat 0).toNat : Nat) : Int) = some v := ⟨_, rfl⟩
      rw [hv]
      simp only [Option.bind_some]
      cases decide (v ≥ 0) with
      | false => exact ⟨false, rfl⟩
      | true =>
        simp only [cond_true]
        have ht : ∃ u, strings_Trim k (a :: r) [97, 98, 99, 100, 101, 102, 103, 104, 105, 106, 107, 108, 109, 110, 111, 112, 113, 114, 115, 116, 117, 118, 119, 120, 121, 122, 48, 49, 50, 51, 52, 53, 54, 55, 56, 57, 45, 95, 58] = some u := by
          show ∃ u, trimB (a :: r) _ = some u
          unfold trimB
          rw [show (asciiB ([97, 98, 99, 100, 101, 102, 103, 104, 105, 106, 107, 108, 109, 110, 111, 112, 113, 114, 115, 116, 117, 118, 119, 120, 121, 122, 48, 49, 50, 51, 52, 53, 54, 55, 56, 57, 45, 95, 58] : List UInt8) && Nat.blt ([97, 98, 99, 100, 101, 102, 103, 104, 105, 106, 107, 108, 109, 110, 111, 112, 113, 114, 115, 116, 117, 118, 119, 120, 121, 122, 48, 49, 50, 51, 52, 53, 54, 55, 56, 57, 45, 95, 58] : List UInt8).length findMax && (a :: r).length.blt 9223372036854775807) = true from by
            rw [Bool.and_eq_true]
            refine ⟨by decide, ?_⟩
            rw [Nat.blt_eq]; omega]
          exact ⟨_, rfl⟩
        obtain ⟨u, hu⟩ := ht
        rw [hu]
        exact ⟨_, rfl⟩
    · rw [decide_eq_false hl]
      exact ⟨false, rfl⟩

theorem Name_ok (k : Nat) (s : List UInt8) : ∃ b, dom_Name k s = some b := by
  unfold dom_Name
  obtain ⟨b, hb⟩ := named_ok k s (([97, 98, 99, 100, 101, 102, 103, 104, 105, 106, 107, 108, 109, 110, 111, 112, 113, 114, 115, 116, 117, 118, 119, 120, 121, 122, 48, 49, 50, 51, 52, 53, 54, 55, 56, 57, 45, 95, 58] : List UInt8).take (26 : Int).toNat)
  refine ⟨b, ?_⟩
  rw [cond_dec (by decide)]
  simp only [hb, Option.bind_some]

theorem attrName_ok (k : Nat) (s : List UInt8) : ∃ b, dom_attrName k s = some b := by
  unfold dom_attrName
  obtain ⟨b, hb⟩ := named_ok k s ((([97, 98, 99, 100, 101, 102, 103, 104, 105, 106, 107, 108, 109, 110, 111, 112, 113, 114, 115, 116, 117, 118, 119, 120, 121, 122, 48, 49, 50, 51, 52, 53, 54, 55, 56, 57, 45, 95, 58] : List UInt8).take (26 : Int).toNat) ++ ([45, 95] : List UInt8))
  refine ⟨b, ?_⟩
  rw [cond_dec (by decide)]
  simp only [hb, Option.bind_some]
  rfl

theorem find_loop (k : Nat) (A : List S89) (hA : A.length ≤ 1000) (nm : List UInt8) (K : List UInt8 → Option (Int × List UInt8)) (hK : ∃ o, K nm = some o) : ∀ (n i : Nat), i ≤ A.length → A.length - i < n →
    ∃ o, api_Attr_.c5 k n A (A.length : Int) (i : Int) nm K = some o
  | 0, i, _, h => by omega
  | n + 1, i, hi, hn => by
    unfold api_Attr_.c5
    simp only [Int.toNat_natCast]
    match hd : A.drop i with
    | [] =>
      have := end_of hi hd
      rw [cond_ndec (by omega)]
      exact hK
    | t :: q =>
      obtain ⟨h1, h2, h3, h4⟩ := atS S89.d A i t q hd
      have w1 : IntKind.wrap .i64 ((i : Int) + 1) = ((i + 1 : Nat) : Int) := by rw [wrap_i64 (by omega) (by omega)]; omega
      rw [cond_dec (by omega), cond_dec (by omega)]
      simp only [h2, dom_find_1, Option.bind_some, w1]
      cases t.Name == nm with
      | true => exact ⟨_, rfl⟩
      | false => simp only [cond_false]; exact find_loop k A hA nm K hK n (i + 1) (by omega) (by omega)

theorem find_ok (k : Nat) (hk : 2000 < k) (A : List S89) (hA : A.length ≤ 1000) (nm : List UInt8) : ∃ v, dom_find k A nm = some v := by
  unfold dom_find api_Attr_
  obtain ⟨o, ho⟩ := find_loop k A hA nm (fun y9 => some ((-1 : Int), y9)) ⟨_, rfl⟩ k 0 (Nat.zero_le _) (by omega)
  rw [show ((0 : Int)) = ((0 : Nat) : Int) from rfl, ho]
  exact ⟨_, rfl⟩

theorem attrs_loop (k : Nat) (hk : 2000 < k) (A : List S89) (hA : A.length ≤ 12) : ∀ (n i : Nat), i ≤ A.length → A.length - i < n →
    ∃ e, dom_attrs.c9 k n A A (A.length : Int) (i : Int) (some 0) = some e
  | 0, i, _, h => by omega
  | n + 1, i, hi, hn => by
    unfold dom_attrs.c9
    simp only [Int.toNat_natCast]
    match hd : A.drop i with
    | [] =>
      have := end_of hi hd
      rw [cond_ndec (by omega)]
      exact ⟨_, rfl⟩
    | t :: q =>
      obtain ⟨h1, h2, h3, h4⟩ := atS S89.d A i t q hd
      have w1 : IntKind.wrap .i64 ((i : Int) + 1) = ((i + 1 : Nat) : Int) := by rw [wrap_i64 (by omega) (by omega)]; omega
      rw [cond_dec (by omega), cond_dec (by omega)]
      obtain ⟨b, hb⟩ := attrName_ok k t.Name
      obtain ⟨v, hv⟩ := find_ok k hk (A.take i) (by rw [List.length_take]; omega) t.Name
      simp only [h2, hb, Option.bind_some, w1]
      cases b with
      | false => exact ⟨_, rfl⟩
      | true =>
        simp only [Bool.not_true, cond_false]
        cases decide (((t.Value.length : Nat) : Int) > 400) with
        | true => exact ⟨_, rfl⟩
        | false =>
          simp only [cond_false]
          rw [cond_dec (by omega), hv]
          simp only [Option.bind_some]
          cases decide (v ≥ 0) with
          | true => exact ⟨_, rfl⟩
          | false => simp only [cond_false]; exact attrs_loop k hk A hA n (i + 1) (by omega) (by omega)

theorem attrs_ok (k : Nat) (hk : 2000 < k) (A : List S89) : ∃ e, dom_attrs k A = some e := by
  unfold dom_attrs
  by_cases h : ((A.length : Nat) : Int) > 12
  · rw [decide_eq_true h]; exact ⟨_, rfl⟩
  · rw [decide_eq_false h]
    exact attrs_loop k hk A (by omega) k 0 (Nat.zero_le _) (by omega)

theorem bare_ok (k : Nat) (a : Int) (b : List UInt8) (c : List S89) (d : List UInt8) (e : Int) (f : List Int) : ∃ x, dom_bare k a b c d e f = some x := by
  unfold dom_bare
  obtain ⟨x, hx⟩ : ∃ x, dom_parent k a = some x := ⟨_, rfl⟩
  simp only [hx]
  generalize (cond (cond (cond (cond (a == 2) true (a == 5)) true (b == [])) (cond (a == 2) true (((c.length : Nat) : Int) == 0)) false) (cond (cond (a == 3) true (a == 4)) true (d == [])) false) = z
  cases z <;> exact ⟨_, rfl⟩

theorem one_ok (k : Nat) (hk : 2000 < k) (a : Int) (b : List UInt8) (c : List S89) (d : List UInt8) (e : Int) (f : List Int) : ∃ x, dom_one k a b c d e f = some x := by
  unfold dom_one
  obtain ⟨x, hx⟩ := bare_ok k a b c d e f
  obtain ⟨y, hy⟩ := Name_ok k b
  obtain ⟨z, hz⟩ := attrs_ok k hk c
  simp only [hx, hy, hz]
  generalize (cond (decide (a < 1)) true (decide (a > 5))) = v
  have e1 : (cond (!v) (some x) (some false)) = some (cond (!v) x false) := by cases v <;> rfl
  have e2 : (cond (a == 2) (some y) (some false)) = some (cond (a == 2) y false) := by cases a == 2 <;> rfl
  rw [e1, e2]
  simp only [Option.bind_some]
  cases (cond v true (!cond (!v) x false)) with
  | true => exact ⟨_, rfl⟩
  | false =>
    simp only [cond_false]
    cases (cond (a == 2) (!cond (a == 2) y false) false) with
    | true => exact ⟨_, rfl⟩
    | false =>
      simp only [cond_false]
      cases z != 0 with
      | true => exact ⟨_, rfl⟩
      | false =>
        simp only [cond_false]
        cases (cond (decide (((d.length : Nat) : Int) > 400)) true (decide (((b.length : Nat) : Int) > 400))) <;> exact ⟨_, rfl⟩

abbrev nd (L : List S31) (i : Nat) : S31 := L.getD i S31.d

/-- Fails, or goes on. -/
def Or2 (o : Option Int) (P : Prop) : Prop := (∃ e, e ≠ 0 ∧ o = some e) ∨ P

theorem check1 (k : Nat) (hk : 2000 < k) (L : List S31) (hL : L.length ≤ 200) (q : Bool) (K : List S31 → Bool → Option Int) : ∀ (n i : Nat), i ≤ L.length → L.length - i < n →
    Or2 (dom_Check.c13 k n L (L.length : Int) (i : Int) L q K) (dom_Check.c13 k n L (L.length : Int) (i : Int) L q K = K L q)
  | 0, i, _, h => by omega
  | n + 1, i, hi, hn => by
    unfold dom_Check.c13
    simp only [Int.toNat_natCast]
    match hd : L.drop i with
    | [] =>
      have := end_of hi hd
      rw [cond_ndec (by omega)]
      exact .inr rfl
    | t :: r =>
      obtain ⟨h1, h2, h3, h4⟩ := atS S31.d L i t r hd
      have w1 : IntKind.wrap .i64 ((i : Int) + 1) = ((i + 1 : Nat) : Int) := by rw [wrap_i64 (by omega) (by omega)]; omega
      obtain ⟨x, hx⟩ := one_ok k hk t.Kind t.Name t.Attrs t.Text t.Parent t.Kids
      rw [cond_dec (by omega), cond_dec (by omega)]
      simp only [h2, hx, Option.bind_some, w1]
      cases !((t.Kind == 1) == ((i : Int) == 0)) with
      | true => exact .inl ⟨3, by decide, rfl⟩
      | false =>
        simp only [cond_false]
        cases hx0 : x != 0 with
        | true => exact .inl ⟨x, by simpa using hx0, rfl⟩
        | false => simp only [cond_false]; exact check1 k hk L hL q K n (i + 1) (by omega) (by omega)

/-! ### kids -/

structure KidOk (L : List S31) (p : Nat) (ks : List Int) : Prop where
  kid : ∀ x ∈ ks, 0 ≤ x ∧ x < (L.length : Int) ∧ (nd L x.toNat).Parent = (p : Int)
  nodup : ks.Nodup

theorem kids_in (k : Nat) (L : List S31) (hL : L.length ≤ 200) (q : Bool) (p : Nat) (ks : List Int) (hks : ks.length ≤ 2000000) (K : List S31 → Int → Int → List S31 → Bool → List Bool → Option Int) : ∀ (n j : Nat) (sn : List Bool), j ≤ ks.length → ks.length - j < n → sn.length = L.length →
    Or2 (dom_kids.c13 k n (p : Int) L (L.length : Int) (p : Int) ks (ks.length : Int) (j : Int) L q sn K)
      (∃ sn' : List Bool, sn'.length = L.length ∧ dom_kids.c13 k n (p : Int) L (L.length : Int) (p : Int) ks (ks.length : Int) (j : Int) L q sn K = K L (L.length : Int) (p : Int) L q sn' ∧ KidOk L p (ks.drop j) ∧ (∀ x ∈ ks.drop j, sn.getD x.toNat false = false) ∧
        ∀ m : Nat, sn'.getD m false = true → sn.getD m false = true ∨ (m : Int) ∈ ks.drop j)
  | 0, j, sn, _, h, _ => by omega
  | n + 1, j, sn, hj, hn, hsn => by
    unfold dom_kids.c13
    simp only [Int.toNat_natCast]
    match hd : ks.drop j with
    | [] =>
      have := end_of hj hd
      rw [cond_ndec (by omega)]
      exact .inr ⟨sn, hsn, rfl, ⟨(fun x hx => by cases hx), List.nodup_nil⟩, (fun x hx => by cases hx), fun m hm => .inl hm⟩
    | x :: r =>
      obtain ⟨h1, h2, h3, h4⟩ := atS (0 : Int) ks j x r hd
      have w1 : IntKind.wrap .i64 ((j : Int) + 1) = ((j + 1 : Nat) : Int) := by rw [wrap_i64 (by omega) (by omega)]; omega
      rw [cond_dec (by omega), cond_dec (by omega)]
      simp only [h2, hsn, w1]
      by_cases hr : 0 ≤ x ∧ x < (L.length : Int)
      · have e1 : decide (x < 0) = false := decide_eq_false (by omega)
        have e2 : decide (x ≥ (L.length : Int)) = false := decide_eq_false (by omega)
        have e3 : decide (0 ≤ x ∧ x < (L.length : Int)) = true := decide_eq_true hr
        simp only [e1, e2, e3, cond_false, Bool.true_or, cond_true]
        cases hp : (nd L x.toNat).Parent != (p : Int) with
        | true => simp only [show ((L.getD x.toNat S31.d).Parent != (p : Int)) = true from hp, cond_true]; exact .inl ⟨3, by decide, rfl⟩
        | false =>
          have hpe : (nd L x.toNat).Parent = (p : Int) := by simpa using hp
          simp only [show ((L.getD x.toNat S31.d).Parent != (p : Int)) = false from hp, cond_false]
          cases hs : sn.getD x.toNat false with
          | true => simp only [cond_true]; exact .inl ⟨3, by decide, rfl⟩
          | false =>
            simp only [cond_false]
            cases (cond ((p : Int) == 0) ((L.getD x.toNat S31.d).Kind == 3) false) with
            | true => simp only [cond_true]; exact .inl ⟨7, by decide, rfl⟩
            | false =>
              simp only [cond_false]
              rcases kids_in k L hL q p ks hks K n (j + 1) (sn.set x.toNat true) (by omega) (by omega) (by rw [List.length_set]; exact hsn) with h | ⟨sn', a1, a2, a3, a4, a5⟩
              · exact .inl h
              · rw [h3] at a3 a4 a5
                have hxl : x.toNat < sn.length := by omega
                refine .inr ⟨sn', a1, a2, ⟨fun y hy => ?_, ?_⟩, fun y hy => ?_, fun m hm => ?_⟩
                · rcases List.mem_cons.1 hy with rfl | hy
                  · exact ⟨hr.1, hr.2, hpe⟩
                  · exact a3.kid y hy
                · rw [List.nodup_cons]
                  refine ⟨fun hx => ?_, a3.nodup⟩
                  have := a4 x hx
                  rw [List.getD_eq_getElem?_getD, List.getElem?_set_self hxl] at this
                  cases this
                · rcases List.mem_cons.1 hy with rfl | hy
                  · exact hs
                  · have h5 := a4 y hy
                    rw [List.getD_eq_getElem?_getD, List.getElem?_set] at h5
                    rw [List.getD_eq_getElem?_getD]
                    split at h5
                    · cases h5
                    · exact h5
                · rcases a5 m hm with h5 | h5
                  · rw [List.getD_eq_getElem?_getD, List.getElem?_set] at h5
                    split at h5
                    · rename_i e1
                      right
                      rw [← e1, Int.toNat_of_nonneg hr.1]
                      simp
                    · left
                      rw [List.getD_eq_getElem?_getD]; exact h5
                  · exact .inr (List.mem_cons_of_mem _ h5)
      · have e3 : decide (0 ≤ x ∧ x < (L.length : Int)) = false := decide_eq_false hr
        have e4 : (cond (decide (x < 0)) true (decide (x ≥ (L.length : Int)))) = true := by
          by_cases h : x < 0
          · rw [decide_eq_true h]; rfl
          · rw [decide_eq_false h, decide_eq_true (by omega)]; rfl
        simp only [e3, e4, Bool.not_true, Bool.not_false, Bool.or_true, cond_true]
        exact .inl ⟨3, by decide, rfl⟩

theorem kids_out (k : Nat) (hk : 3000000 < k) (L : List S31) (hL : L.length ≤ 200) (hks : ∀ x ∈ L, x.Kids.length ≤ 2000000) (q : Bool) (K : List S31 → Bool → List Bool → Option Int) : ∀ (n i : Nat) (sn : List Bool), i ≤ L.length → L.length - i < n → sn.length = L.length →
    Or2 (dom_kids.c7 k n L (L.length : Int) (i : Int) L q sn K)
      (∃ sn' : List Bool, sn'.length = L.length ∧ dom_kids.c7 k n L (L.length : Int) (i : Int) L q sn K = K L q sn' ∧ (∀ p, i ≤ p → p < L.length → KidOk L p (nd L p).Kids) ∧
        ∀ m : Nat, sn'.getD m false = true → sn.getD m false = true ∨ ∃ p, i ≤ p ∧ p < L.length ∧ (m : Int) ∈ (nd L p).Kids)
  | 0, i, sn, _, h, _ => by omega
  | n + 1, i, sn, hi, hn, hsn => by
    unfold dom_kids.c7
    simp only [Int.toNat_natCast]
    match hd : L.drop i with
    | [] =>
      have := end_of hi hd
      rw [cond_ndec (by omega)]
      exact .inr ⟨sn, hsn, rfl, fun p h1 h2 => by omega, fun m hm => .inl hm⟩
    | t :: r =>
      obtain ⟨h1, h2, h3, h4⟩ := atS S31.d L i t r hd
      have w1 : IntKind.wrap .i64 ((i : Int) + 1) = ((i + 1 : Nat) : Int) := by rw [wrap_i64 (by omega) (by omega)]; omega
      rw [cond_dec (by omega), cond_dec (by omega)]
      simp only [h2]
      have hkl := hks t h4
      rcases kids_in k L hL q i t.Kids hkl (fun (y31 : List S31) (y32 : Int) (y33 : Int) (y34 : List S31) (y35 : Bool) (y36 : List Bool) =>
        let v37 : Int := (IntKind.wrap .i64 (y33 + (1 : Int)))
        dom_kids.c7 k n y31 y32 v37 y34 y35 y36 K) k 0 sn (Nat.zero_le _) (by omega) hsn with h | ⟨sn', a1, a2, a3, a4, a5⟩
      · exact .inl h
      · rw [List.drop_zero] at a3 a4 a5
        simp only [w1] at a2
        have hkk : nd L i = t := h2
        rcases kids_out k hk L hL hks q K n (i + 1) sn' (by omega) (by omega) a1 with h | ⟨sn2, b1, b2, b3, b4⟩
        · rw [← a2] at h
          exact .inl h
        · refine .inr ⟨sn2, b1, a2.trans b2, fun p hp1 hp2 => ?_, fun m hm => ?_⟩
          · rcases Nat.eq_or_lt_of_le hp1 with rfl | hp
            · rw [hkk]; exact a3
            · exact b3 p hp hp2
          · rcases b4 m hm with h5 | ⟨p, h5, h6, h7⟩
            · rcases a5 m h5 with h6 | h6
              · exact .inl h6
              · exact .inr ⟨i, Nat.le_refl _, h1, by rw [hkk]; exact h6⟩
            · exact .inr ⟨p, by omega, h6, h7⟩

theorem kids_seen (k : Nat) (L : List S31) (hL : L.length ≤ 200) (q : Bool) (sn : List Bool) (hsn : sn.length = L.length) (K : List S31 → Bool → Option Int) : ∀ (n i : Nat), i ≤ L.length → L.length - i < n →
    Or2 (dom_kids.c33 k n L (L.length : Int) (i : Int) L q sn K)
      (dom_kids.c33 k n L (L.length : Int) (i : Int) L q sn K = K L q ∧ ∀ p, i ≤ p → p < L.length → (nd L p).Parent ≠ -1 → sn.getD p false = true)
  | 0, i, _, h => by omega
  | n + 1, i, hi, hn => by
    unfold dom_kids.c33
    simp only [Int.toNat_natCast]
    match hd : L.drop i with
    | [] =>
      have := end_of hi hd
      rw [cond_ndec (by omega)]
      exact .inr ⟨rfl, fun p h1 h2 => by omega⟩
    | t :: r =>
      obtain ⟨h1, h2, h3, h4⟩ := atS S31.d L i t r hd
      have w1 : IntKind.wrap .i64 ((i : Int) + 1) = ((i + 1 : Nat) : Int) := by rw [wrap_i64 (by omega) (by omega)]; omega
      have e0 : decide (0 ≤ (i : Int) ∧ (i : Int) < (sn.length : Int)) = true := decide_eq_true (by omega)
      rw [cond_dec (by omega), cond_dec (by omega)]
      simp only [h2, w1, e0, Bool.true_or, cond_true]
      cases hv : (cond (t.Parent != -1) (!sn.getD i false) false) with
      | true => exact .inl ⟨3, by decide, rfl⟩
      | false =>
        simp only [cond_false]
        rcases kids_seen k L hL q sn hsn K n (i + 1) (by omega) (by omega) with h | ⟨a1, a2⟩
        · exact .inl h
        · refine .inr ⟨a1, fun p hp1 hp2 hne => ?_⟩
          rcases Nat.eq_or_lt_of_le hp1 with rfl | hp
          · rw [show nd L i = t from h2] at hne
            have : (t.Parent != -1) = true := by simpa using hne
            rw [this, cond_true] at hv
            simpa using hv
          · exact a2 p hp hp2 hne

/-- A document whose kids and parents are in order. -/
structure Dk (L : List S31) : Prop where
  len : L.length ≤ 200
  kid : ∀ p, p < L.length → KidOk L p (nd L p).Kids
  par : ∀ p, p < L.length → -1 ≤ (nd L p).Parent ∧ (nd L p).Parent < (L.length : Int)

theorem kids_ok (k : Nat) (hk : 3000000 < k) (L : List S31) (hL : L.length ≤ 200) (h0 : 0 < L.length) (hks : ∀ x ∈ L, x.Kids.length ≤ 2000000) (q : Bool) : ∃ e, dom_kids k L q = some e ∧ (e = 0 → Dk L) := by
  unfold dom_kids
  rw [cond_dec (by omega)]
  simp only [Int.toNat_natCast]
  rcases kids_out k hk L hL hks q (fun (y38 : List S31) (y39 : Bool) (y40 : List Bool) =>
    dom_kids.c33 k k y38 (y38.length : Int) (0 : Int) y38 y39 y40 (fun (y55 : List S31) (y56 : Bool) =>
    cond (decide (0 ≤ (0 : Int) ∧ (0 : Int) < (y55.length : Int))) (
    let v57 : Int := (y55.getD ((0 : Int).toNat) S31.d).Parent
    cond (v57 != (-1 : Int)) (
    some (3 : Int)) (
    some (0 : Int))) none)) k 0 (List.replicate L.length false) (Nat.zero_le _) (by omega) (by simp) with ⟨e, h1, h2⟩ | ⟨sn, a1, a2, a3, a4⟩
  · exact ⟨e, h2, fun h => absurd h h1⟩
  · rcases kids_seen k L hL q sn a1 (fun (y55 : List S31) (y56 : Bool) =>
      cond (decide (0 ≤ (0 : Int) ∧ (0 : Int) < (y55.length : Int))) (
      let v57 : Int := (y55.getD ((0 : Int).toNat) S31.d).Parent
      cond (v57 != (-1 : Int)) (
      some (3 : Int)) (
      some (0 : Int))) none) k 0 (Nat.zero_le _) (by omega) with ⟨e, h1, h2⟩ | ⟨b1, b2⟩
    · exact ⟨e, a2.trans h2, fun h => absurd h h1⟩
    · have hdk : Dk L := by
        refine ⟨hL, fun p hp => a3 p (Nat.zero_le _) hp, fun p hp => ?_⟩
        by_cases hne : (nd L p).Parent = -1
        · rw [hne]; omega
        · rcases a4 p (b2 p (Nat.zero_le _) hp hne) with h5 | ⟨p', _, h6, h7⟩
          · rw [List.getD_eq_getElem?_getD, List.getElem?_replicate] at h5
            split at h5 <;> cases h5
          · have := (a3 p' (Nat.zero_le _) h6).kid _ h7
            rw [Int.toNat_natCast] at this
            rw [this.2.2]; omega
      cases hx : ((L.getD ((0 : Int).toNat) S31.d).Parent != (-1 : Int)) with
      | true =>
        refine ⟨3, (a2.trans b1).trans ?_, fun _ => hdk⟩
        rw [cond_dec (by omega)]
        simp only [hx, cond_true]
      | false =>
        refine ⟨0, (a2.trans b1).trans ?_, fun _ => hdk⟩
        rw [cond_dec (by omega)]
        simp only [hx, cond_false]

theorem up_loop (k : Nat) (L : List S31) (hD : Dk L) (q : Bool) : ∀ (n m : Nat) (x : Int), 0 ≤ x → x < (L.length : Int) → m ≤ L.length + 1 → L.length + 1 - m < n →
    ∃ v, dom_up.c3 k n x (m : Int) L q (fun y => some y) = some v
  | 0, m, x, _, _, _, h => by omega
  | n + 1, m, x, h0, h1, hm, hn => by
    have hl := hD.len
    unfold dom_up.c3
    rw [cond_dec ⟨h0, h1⟩]
    have hp := hD.par x.toNat (by omega)
    simp only
    by_cases hc : (nd L x.toNat).Parent ≥ 0
    · rw [show decide ((L.getD x.toNat S31.d).Parent ≥ 0) = true from decide_eq_true hc]
      simp only [cond_true]
      by_cases hm2 : (m : Int) ≤ (L.length : Int)
      · rw [cond_dec hm2, cond_dec ⟨h0, h1⟩]
        have w1 : IntKind.wrap .i64 ((m : Int) + 1) = ((m + 1 : Nat) : Int) := by rw [wrap_i64 (by omega) (by omega)]; omega
        rw [w1]
        exact up_loop k L hD q n (m + 1) _ hc hp.2 (by omega) (by omega)
      · rw [cond_ndec hm2]; exact ⟨_, rfl⟩
    · rw [show decide ((L.getD x.toNat S31.d).Parent ≥ 0) = false from decide_eq_false hc]
      exact ⟨_, rfl⟩

theorem check3 (k : Nat) (hk : 2000 < k) (L : List S31) (hD : Dk L) (q : Bool) : ∀ (n i : Nat), i ≤ L.length → L.length - i < n →
    ∃ e, dom_Check.c37 k n (L.length : Int) (i : Int) L q (some 0) = some e
  | 0, i, _, h => by omega
  | n + 1, i, hi, hn => by
    have hl := hD.len
    unfold dom_Check.c37
    by_cases hlt : i < L.length
    · rw [cond_dec (by omega)]
      obtain ⟨v, hv⟩ := up_loop k L hD q k 0 (i : Int) (by omega) (by omega) (by omega) (by omega)
      have hv' : dom_up k L q (i : Int) = some v := hv
      rw [hv']
      have w1 : IntKind.wrap .i64 ((i : Int) + 1) = ((i + 1 : Nat) : Int) := by rw [wrap_i64 (by omega) (by omega)]; omega
      simp only [Option.bind_some, w1]
      cases decide (v > (L.length : Int)) with
      | true => exact ⟨_, rfl⟩
      | false =>
        simp only [cond_false]
        cases decide (v > 40) with
        | true => exact ⟨_, rfl⟩
        | false => simp only [cond_false]; exact check3 k hk L hD q n (i + 1) (by omega) (by omega)
    · rw [cond_ndec (by omega)]; exact ⟨_, rfl⟩

theorem Check_ok (k : Nat) (hk : 3000000 < k) (L : List S31) (hks : ∀ x ∈ L, x.Kids.length ≤ 2000000) (q : Bool) : ∃ e, dom_Check k L q = some e ∧ (e = 0 → Dk L) := by
  unfold dom_Check
  by_cases h1 : (L.length : Int) > 200
  · rw [decide_eq_true h1]; exact ⟨2, rfl, fun h => by cases h⟩
  · rw [decide_eq_false h1]
    simp only [cond_false]
    by_cases h2 : L.length = 0
    · rw [h2]; exact ⟨3, rfl, fun h => by cases h⟩
    · rw [show (((L.length : Nat) : Int) == 0) = false from beq_eq_false_iff_ne.2 (by omega)]
      simp only [cond_false]
      rcases check1 k (by omega) L (by omega) q (fun (y14 : List S31) (y15 : Bool) =>
        (dom_kids k y14 y15).bind fun r16 =>
        cond (r16 != (0 : Int)) (
        some r16) (
        dom_Check.c37 k k (y14.length : Int) (0 : Int) y14 y15 (
        some (0 : Int)))) k 0 (Nat.zero_le _) (by omega) with ⟨e, a1, a2⟩ | a
      · exact ⟨e, a2, fun h => absurd h a1⟩
      · obtain ⟨e, b1, b2⟩ := kids_ok k hk L (by omega) (by omega) hks q
        rw [b1] at a
        simp only [Option.bind_some] at a
        cases he : e != 0 with
        | true =>
          rw [he] at a
          refine ⟨e, a, fun h => ?_⟩
          rw [h] at he; cases he
        | false =>
          rw [he] at a
          have hD := b2 (by simpa using he)
          obtain ⟨e2, c1⟩ := check3 k (by omega) L hD q k 0 (Nat.zero_le _) (by omega)
          exact ⟨e2, a.trans c1, fun _ => hD⟩

end Go.Ev.Mc
