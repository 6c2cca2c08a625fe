/- What an element fits that is counted among its kin, in plain words. No condition beyond those that each theorem names. -/
import Derived.Test.YtgoglplnajofnaaGreatDoorEvMcA
set_option linter.unusedVariables false
set_option linter.unusedSimpArgs false
set_option maxRecDepth 100000
namespace Go.Ev.Mc
open Go Go.Ev

theorem most_ok {n : Nat} (h : n ≤ 4000000000) : decide (n < most) = true := decide_eq_true (by unfold most; omega)

def el (L : List S31) (x : Int) : Bool := (nd L x.toNat).Kind == 2

theorem element_ok (k : Nat) {L : List S31} (q : Bool) {x : Int} (h : 0 ≤ x ∧ x < (L.length : Int)) : match_element k L q x = some (el L x) := by
  unfold match_element
  rw [cond_dec h]
  rfl

theorem kin1_ok (k : Nat) {L : List S31} (q : Bool) {x : Int} (h : 0 ≤ x ∧ x < (L.length : Int)) : match_kin_1 k x L q = some (!el L x, L, q) := by
  unfold match_kin_1
  rw [element_ok k q h]
  rfl

/-! ### those that are elements -/

def ixE (L : List S31) : List Int → Option Nat
  | [] => none
  | x :: r => bif !el L x then some 0 else (ixE L r).map (· + 1)

theorem ixE_none {L : List S31} : ∀ {l : List Int}, ixE L l = none → ∀ x ∈ l, el L x = true
  | [], _, x, hx => by cases hx
  | y :: r, h, x, hx => by
    rw [ixE] at h
    cases hy : el L y with
    | false => rw [hy] at h; cases h
    | true =>
      rw [hy] at h
      simp only [Bool.not_true, cond_false] at h
      rcases List.mem_cons.1 hx with rfl | hx
      · exact hy
      · exact ixE_none (Option.map_eq_none_iff.1 h) x hx

theorem ixE_some {L : List S31} : ∀ {l : List Int} {j : Nat}, ixE L l = some j → j < l.length ∧ (l.take (j + 1)).filter (el L) = l.take j
  | [], j, h => by cases h
  | x :: r, j, h => by
    rw [ixE] at h
    cases hx : el L x with
    | false => rw [hx] at h; simp only [Bool.not_false, cond_true] at h; cases h; simp [hx]
    | true =>
      rw [hx] at h
      simp only [Bool.not_true, cond_false] at h
      obtain ⟨i, h1, rfl⟩ := Option.map_eq_some_iff.1 h
      obtain ⟨h2, h3⟩ := ixE_some h1
      refine ⟨by simp; omega, ?_⟩
      rw [List.take_succ_cons, List.filter_cons, List.take_succ_cons]; simp [hx, h3]

section
variable (k : Nat) {L : List S31} (q : Bool) {A : List Int} (hA : A.length ≤ 3000000) (hr : ∀ x ∈ A, 0 ≤ x ∧ x < (L.length : Int))
include hA hr

theorem ixE_loop (K : List Int → List S31 → Bool → Option (Int × List Int × List S31 × Bool)) : ∀ (n i : Nat), i ≤ A.length → A.length - i < n →
    slices_IndexFunc___int_int__v3.c5 k n (A.length : Int) (i : Int) A L q K = match ixE L (A.drop i) with | some j => some (((i + j : Nat) : Int), A, L, q) | none => K A L q
  | 0, i, _, h => by omega
  | n + 1, i, hi, hn => by
    unfold slices_IndexFunc___int_int__v3.c5
    simp only [Int.toNat_natCast]
    match hd : A.drop i with
    | [] =>
      have := end_of hi hd
      rw [cond_ndec (by omega)]
      rfl
    | t :: r =>
      obtain ⟨h1, h2, h3, h4⟩ := atS (0 : Int) A i t r hd
      have w1 : IntKind.wrap .i64 ((i : Int) + 1) = ((i + 1 : Nat) : Int) := by rw [wrap_i64 (by omega) (by omega)]; omega
      rw [cond_dec (by omega), cond_dec (by omega)]
      simp only [h2, kin1_ok k q (hr t h4), Option.bind_some, w1]
      rw [ixE]
      cases el L t with
      | false => rfl
      | true =>
        simp only [Bool.not_true, cond_false]
        rw [ixE_loop K n (i + 1) (by omega) (by omega), h3]
        cases ixE L r with
        | none => rfl
        | some j => simp only [Option.map_some]; congr 3; omega

theorem del_loop (K : Int → List Int → List S31 → Bool → Option (List S31 × Bool × List Int)) : ∀ (n i j : Nat) (X : List Int), i ≤ j → j ≤ A.length → A.length - j < n → X.length = A.length → X.drop j = A.drop j → X.take i = (A.take j).filter (el L) →
    ∃ (i' : Nat) (X' : List Int), i' ≤ X'.length ∧ X'.length = A.length ∧ X'.take i' = A.filter (el L) ∧ slices_DeleteFunc___int_int__v2.c11 k n (i : Int) (j : Int) X L q K = K (i' : Int) X' L q
  | 0, i, j, X, _, _, h, _, _, _ => by omega
  | n + 1, i, j, X, hij, hj, hn, hX, hd0, ht => by
    unfold slices_DeleteFunc___int_int__v2.c11
    simp only [Int.toNat_natCast]
    match hd : A.drop j with
    | [] =>
      have := end_of hj hd
      rw [cond_ndec (by omega)]
      refine ⟨i, X, by omega, hX, ?_, rfl⟩
      rw [ht, this, List.take_length]
    | t :: r =>
      rw [hd] at hd0
      obtain ⟨h1, h2, h3, h4⟩ := atS (0 : Int) X j t r hd0
      obtain ⟨g1, g2, g3, g4⟩ := atS (0 : Int) A j t r hd
      have w1 : IntKind.wrap .i64 ((i : Int) + 1) = ((i + 1 : Nat) : Int) := by rw [wrap_i64 (by omega) (by omega)]; omega
      have w2 : IntKind.wrap .i64 ((j : Int) + 1) = ((j + 1 : Nat) : Int) := by rw [wrap_i64 (by omega) (by omega)]; omega
      rw [cond_dec (by omega), cond_dec (by omega)]
      simp only [h2, kin1_ok k q (hr t g4), w1, w2, Option.bind_some]
      have htk : A.take (j + 1) = A.take j ++ [t] := by
        rw [List.take_succ_eq_append_getElem g1]
        congr 2
        rw [List.getD_eq_getElem?_getD, List.getElem?_eq_getElem g1] at g2
        exact g2
      cases he : el L t with
      | true =>
        simp only [Bool.not_true, Bool.not_false, cond_true]
        rw [cond_dec (by omega)]
        refine del_loop K n (i + 1) (j + 1) (X.set i t) (by omega) (by omega) (by omega) (by rw [List.length_set]; exact hX) ?_ ?_
        · rw [List.drop_set_of_lt (by omega), h3, g3]
        · rw [List.take_succ_eq_append_getElem (by rw [List.length_set]; omega), List.take_set_of_le (Nat.le_refl _), ht, htk, List.filter_append, List.getElem_set_self]
          congr 1
          simp [he]
      | false =>
        simp only [Bool.not_false, Bool.not_true, cond_false]
        refine del_loop K n i (j + 1) X (by omega) (by omega) (by omega) hX ?_ ?_
        · rw [h3, g3]
        · rw [ht, htk, List.filter_append]
          simp [he]

theorem del_eq (hk : 3000000 < k) : slices_DeleteFunc___int_int__v2 k A L q = some (L, q, A.filter (el L)) := by
  unfold slices_DeleteFunc___int_int__v2
  have h5 : slices_IndexFunc___int_int__v3 k A L q = some ((match ixE L A with | some j => ((j : Nat) : Int) | none => -1), A, L, q) := by
    unfold slices_IndexFunc___int_int__v3
    have := ixE_loop k q hA hr (fun y11 y12 y13 => some ((-1 : Int), y11, y12, y13)) k 0 (Nat.zero_le _) (by omega)
    rw [List.drop_zero] at this
    refine this.trans ?_
    cases ixE L A with
    | none => rfl
    | some j => simp only [Nat.zero_add]
  rw [h5]
  simp only [Option.bind_some]
  cases hx : ixE L A with
  | none =>
    have : A.filter (el L) = A := List.filter_eq_self.2 fun x hx' => ixE_none hx x hx'
    rw [this]
    rfl
  | some j =>
    obtain ⟨h1, h3⟩ := ixE_some hx
    have w1 : IntKind.wrap .i64 ((j : Int) + 1) = ((j + 1 : Nat) : Int) := by rw [wrap_i64 (by omega) (by omega)]; omega
    simp only [w1]
    rw [show (((j : Nat) : Int) == (-1 : Int)) = false from beq_eq_false_iff_ne.2 (by omega), cond_false]
    obtain ⟨i', X', a1, a2, a3, a4⟩ := del_loop k q hA hr (fun (y17 : Int) (y18 : List Int) (y19 : List S31) (y20 : Bool) =>
      cond (decide (0 ≤ y17 ∧ y17 ≤ (y18.length : Int))) (
      let v21 : List Int := (y18.take (0 + y17.toNat) ++ List.replicate (y18.length - y17.toNat) (0 : Int) ++ y18.drop ((0 + y17.toNat) + (y18.length - y17.toNat)))
      cond (decide (0 ≤ y17 ∧ y17 ≤ (v21.length : Int))) (
      some (y19, y20, ((v21.drop 0).take y17.toNat))) none) none) k j (j + 1) A (by omega) (by omega) (by omega) rfl rfl h3.symm
    rw [a4]
    simp only [Int.toNat_natCast, Nat.zero_add, List.drop_zero]
    rw [cond_dec (by omega)]
    have e : (X'.take i' ++ List.replicate (X'.length - i') (0 : Int) ++ X'.drop (i' + (X'.length - i'))).take i' = X'.take i' := by
      rw [List.append_assoc, List.take_append_of_le_length (by rw [List.length_take]; omega), List.take_take, Nat.min_self]
    rw [cond_dec (by simp only [List.length_append, List.length_take]; omega), e, a3]

end

def ixV (x : Int) : List Int → Option Nat
  | [] => none
  | y :: r => bif x == y then some 0 else (ixV x r).map (· + 1)

theorem ixV_app {x : Int} {B : List Int} : ∀ {A : List Int}, x ∉ A → ixV x (A ++ x :: B) = some A.length
  | [], _ => by rw [List.nil_append, ixV, beq_self_eq_true]; rfl
  | a :: A, h => by
    have h1 : (x == a) = false := beq_eq_false_iff_ne.2 fun e => h (by simp [e])
    rw [List.cons_append, ixV, h1, cond_false, ixV_app (A := A) fun hm => h (List.mem_cons_of_mem _ hm)]
    rfl

theorem index_loop (k : Nat) (A : List Int) (hA : A.length ≤ 3000000) (x : Int) : ∀ (n i : Nat), i ≤ A.length → A.length - i < n →
    slices_Index___int_int_.c5 k n A x (A.length : Int) (i : Int) (some (-1)) = some (match ixV x (A.drop i) with | some j => ((i + j : Nat) : Int) | none => -1)
  | 0, i, _, h => by omega
  | n + 1, i, hi, hn => by
    unfold slices_Index___int_int_.c5
    simp only [Int.toNat_natCast]
    match hd : A.drop i with
    | [] =>
      have := end_of hi hd
      rw [cond_ndec (by omega)]
      rfl
    | t :: r =>
      obtain ⟨h1, h2, h3, h4⟩ := atS (0 : Int) A i t r hd
      have w1 : IntKind.wrap .i64 ((i : Int) + 1) = ((i + 1 : Nat) : Int) := by rw [wrap_i64 (by omega) (by omega)]; omega
      rw [cond_dec (by omega), cond_dec (by omega)]
      simp only [h2, w1]
      rw [ixV]
      cases x == t with
      | true => rfl
      | false =>
        simp only [cond_false]
        rw [index_loop k A hA x n (i + 1) (by omega) (by omega), h3]
        cases ixV x r with
        | none => rfl
        | some j =>
          simp only [Option.map_some]
          congr 1
          show ((i + 1 + j : Nat) : Int) = ((i + (j + 1) : Nat) : Int)
          congr 1; omega

theorem index_eq (k : Nat) (hk : 3000000 < k) (A : List Int) (hA : A.length ≤ 3000000) (x : Int) {j : Nat} (h : ixV x A = some j) : slices_Index___int_int_ k A x = some (j : Int) := by
  unfold slices_Index___int_int_
  have := index_loop k A hA x k 0 (Nat.zero_le _) (by omega)
  rw [List.drop_zero, h] at this
  simp only [Nat.zero_add] at this
  exact this

/-- The elements among a node's kids. -/
def els (L : List S31) (p : Nat) : List Int := (nd L p).Kids.filter (el L)

theorem kin_eq (k : Nat) (hk : 3000000 < k) {L : List S31} (hD : Dk L) (hks : ∀ x ∈ L, x.Kids.length ≤ 2000000) (q : Bool) {x : Int} (hx : 0 ≤ x ∧ x < (L.length : Int)) {p : Nat} (hp : p < L.length) (hpar : (nd L x.toNat).Parent = (p : Int)) {j : Nat} (h : ixV x (els L p) = some j) :
    match_kin k L q x = some ((j : Int), els L p) := by
  unfold match_kin
  have hm : nd L p ∈ L := by
    unfold nd
    rw [List.getD_eq_getElem?_getD, List.getElem?_eq_getElem hp]
    exact List.getElem_mem _
  have hkl := hks _ hm
  have hpar' : (L.getD x.toNat S31.d).Parent = (p : Int) := hpar
  simp only [hpar']
  rw [cond_dec hx, cond_ndec (by omega), cond_dec (by omega)]
  simp only [Int.toNat_natCast]
  rw [show slices_Clone___int_int_ k (L.getD p S31.d).Kids = some (nd L p).Kids from by
    show cloneS _ = _
    unfold cloneS
    rw [show Nat.blt (L.getD p S31.d).Kids.length most = true from by rw [Nat.blt_eq]; show (nd L p).Kids.length < _; unfold most; omega]; rfl]
  simp only [Option.bind_some]
  rw [del_eq k q (A := (nd L p).Kids) (by omega) (fun y hy => by have := (hD.kid p hp).kid y hy; exact ⟨this.1, this.2.1⟩) hk]
  simp only [Option.bind_some]
  have hel : (els L p).length ≤ (nd L p).Kids.length := List.length_filter_le _ _
  show ((slices_Index___int_int_ k (els L p) x).bind fun r7 => some (r7, els L p)) = _
  rw [index_eq k hk _ (by omega) x h]
  rfl

/-! ### counted -/

theorem Nth_01 (k : Nat) {i : Nat} (h1 : 1 ≤ i) (h2 : i ≤ 200) : match_Nth k 0 1 (i : Int) = some (decide (i = 1)) := by
  have e : match_Nth k 0 1 (i : Int) = cond (cond (cond (cond false true false) true (decide ((i : Int) < 1))) true (decide ((i : Int) > 200))) (some false) (some ((i : Int) == 1)) := rfl
  rw [e, decide_eq_false (by omega), decide_eq_false (by omega)]
  show some ((i : Int) == 1) = _
  congr 1
  rw [Bool.eq_iff_iff, beq_iff_eq, decide_eq_true_iff]
  omega

theorem Nth_2 (k : Nat) (b : Nat) (hb : b ≤ 1) {i : Nat} (h1 : 1 ≤ i) (h2 : i ≤ 200) : match_Nth k 2 (b : Int) (i : Int) = some (decide (i % 2 = b)) := by
  have hb2 : b = 0 ∨ b = 1 := by omega
  unfold match_Nth
  have w1 : IntKind.wrap .i64 ((i : Int) - (b : Int)) = ((i - b : Nat) : Int) := by rw [wrap_i64 (by omega) (by omega)]; omega
  have w2 : Int.tmod ((i - b : Nat) : Int) 2 = (((i - b) % 2 : Nat) : Int) := by rw [tmod_u _ (by omega)]; omega
  have w3 : IntKind.wrap .i64 (Int.tdiv ((i - b : Nat) : Int) 2) = (((i - b) / 2 : Nat) : Int) := by rw [tdiv_u _ (by omega), wrap_i64 (by omega) (by omega)]; omega
  have e1 : (decide ((if (b : Int) < 2 then (b : Int) else 2) < -1000)) = false := decide_eq_false (by rw [if_pos (by omega)]; omega)
  have e2 : (decide ((if (b : Int) > 2 then (b : Int) else 2) > 1000)) = false := decide_eq_false (by rw [if_neg (by omega)]; omega)
  simp only [e1, e2, w1, w2, w3]
  rw [decide_eq_false (by omega : ¬ (i : Int) < 1), decide_eq_false (by omega : ¬ (i : Int) > 200)]
  simp only [cond_false, show ((2 : Int) == 0) = false from rfl, show ((2 : Int) != 0) = true from rfl, cond_true, Bool.true_or]
  congr 1
  rw [decide_eq_true (by omega : (((i - b) / 2 : Nat) : Int) ≥ 0)]
  rcases hb2 with rfl | rfl
  · cases h : ((((i - 0) % 2 : Nat) : Int) == 0) with
    | true => have := eq_of_beq h; rw [cond_true]; exact (decide_eq_true (by omega)).symm
    | false => have := beq_eq_false_iff_ne.1 h; rw [cond_false]; exact (decide_eq_false (by omega)).symm
  · cases h : ((((i - 1) % 2 : Nat) : Int) == 0) with
    | true => have := eq_of_beq h; rw [cond_true]; exact (decide_eq_true (by omega)).symm
    | false => have := beq_eq_false_iff_ne.1 h; rw [cond_false]; exact (decide_eq_false (by omega)).symm

/-! ### one test -/

theorem st_one (k j : Nat) (hk : 3 ≤ k) (t : S96) (b : Bool) (L : List S31) (q : Bool) (x : Int) (hf : (match_Some.G.rec k j).match_fits L q x t.Kind t.Name t.Op t.Value t.A t.B t.Subs = some b) :
    (match_Some.G.rec k (j + 3)).api_STest_ [t] L q x = some (!b, L, q, x) := by
  obtain ⟨m, rfl⟩ : ∃ m, k = m + 3 := ⟨k - 3, by omega⟩
  have e1 : (match_Some.G.rec (m + 3) (j + 1)).match_path_1_1 t.Kind t.Name t.Op t.Value t.A t.B t.Subs L q x = some (!b, L, q, x) := by
    show ((match_Some.G.rec (m + 3) j).match_fits L q x t.Kind t.Name t.Op t.Value t.A t.B t.Subs).bind _ = _
    rw [hf]; rfl
  show ((match_Some.G.rec (m + 3) (j + 2)).api_STest__v2 [t] L q x).bind _ = _
  have e2 : (match_Some.G.rec (m + 3) (j + 2)).api_STest__v2 [t] L q x = some (bif !b then 0 else -1, L, q, x) := by
    show api_STest__v2.c5 (m + 3) (match_Some.G.rec (m + 3) (j + 1)) (m + 3) [t] 1 0 L q x (fun y13 y14 y15 => some ((-1 : Int), y13, y14, y15)) = _
    rw [api_STest__v2.c5]
    show ((match_Some.G.rec (m + 3) (j + 1)).match_path_1_1 t.Kind t.Name t.Op t.Value t.A t.B t.Subs L q x).bind _ = _
    rw [e1]
    cases b with
    | false => rfl
    | true => rfl
  rw [e2]
  cases b <;> rfl

theorem path1_one (k j : Nat) (hk : 3 ≤ k) (t : S96) (b : Bool) {L : List S31} (q : Bool) {x : Int} (hx : 0 ≤ x ∧ x < (L.length : Int)) (he : el L x = true) (hf : (match_Some.G.rec k j).match_fits L q x t.Kind t.Name t.Op t.Value t.A t.B t.Subs = some b) :
    (match_Some.G.rec k (j + 4)).match_path_1 x L q [[t]] [] 0 = some (!b, L, q, [[t]], [], 0) := by
  show match_path_1.nat k (match_Some.G.rec k (j + 3)) x L q [[t]] [] 0 = _
  unfold match_path_1.nat
  rw [element_ok k q hx, he]
  show ((match_Some.G.rec k (j + 3)).api_STest_ [t] L q x).bind _ = _
  rw [st_one k j hk t b L q x hf]
  rfl

theorem path_one (k j : Nat) (hk : 3 ≤ k) (t : S96) (b : Bool) {L : List S31} (q : Bool) {x : Int} (hx : 0 ≤ x ∧ x < (L.length : Int)) (he : el L x = true) (hf : (match_Some.G.rec k j).match_fits L q x t.Kind t.Name t.Op t.Value t.A t.B t.Subs = some b) :
    (match_Some.G.rec k (j + 7)).match_path L q x [[t]] [] = some b := by
  have e1 := path1_one k j hk t b q hx he hf
  obtain ⟨m, rfl⟩ : ∃ m, k = m + 3 := ⟨k - 3, by omega⟩
  have e2 : (match_Some.G.rec (m + 3) (j + 5)).slices_IndexFunc___int_int_ [x] L q [[t]] [] 0 = some (bif !b then 0 else -1, [x], L, q, [[t]], [], 0) := by
    show slices_IndexFunc___int_int_.c5 (m + 3) (match_Some.G.rec (m + 3) (j + 4)) (m + 3) 1 0 [x] L q [[t]] [] 0 (fun y17 y18 y19 y20 y21 y22 => some ((-1 : Int), y17, y18, y19, y20, y21, y22)) = _
    rw [slices_IndexFunc___int_int_.c5]
    show ((match_Some.G.rec (m + 3) (j + 4)).match_path_1 x L q [[t]] [] 0).bind _ = _
    rw [e1]
    cases b with
    | false => rfl
    | true => rfl
  have e3 : (match_Some.G.rec (m + 3) (j + 6)).slices_DeleteFunc___int_int_ [x] L q [[t]] [] 0 = some (L, q, [[t]], [], 0, bif b then [x] else []) := by
    show slices_DeleteFunc___int_int_.nat (m + 3) (match_Some.G.rec (m + 3) (j + 5)) [x] L q [[t]] [] 0 = _
    unfold slices_DeleteFunc___int_int_.nat
    rw [e2]
    cases b with
    | false => rfl
    | true => rfl
  show match_path.nat (m + 3) (match_Some.G.rec (m + 3) (j + 6)) L q x [[t]] [] = _
  unfold match_path.nat
  show match_path.c9 (m + 3) (match_Some.G.rec (m + 3) (j + 6)) (m + 3) L q [[t]] [] [x] 0 = _
  rw [match_path.c9, e3]
  cases b <;> rfl

theorem some_one (k : Nat) (hk : 12 ≤ k) (t : S96) (b : Bool) {L : List S31} (q : Bool) {x : Int} (hx : 0 ≤ x ∧ x < (L.length : Int)) (he : el L x = true) (hf : ∀ R, match_fits.nat k R L q x t.Kind t.Name t.Op t.Value t.A t.B t.Subs = some b) :
    match_Some k L q x [⟨[[t]], []⟩] = some b := by
  obtain ⟨m, rfl⟩ : ∃ m, k = m + 12 := ⟨k - 12, by omega⟩
  have e1 : (match_Some.G.rec (m + 12) (m + 8)).match_path L q x [[t]] [] = some b := path_one (m + 12) (m + 1) (by omega) t b q hx he (hf _)
  have e2 : (match_Some.G.rec (m + 12) (m + 9)).match_Some_1 [[t]] [] L q x = some (b, L, q, x) := by
    show ((match_Some.G.rec (m + 12) (m + 8)).match_path L q x [[t]] []).bind _ = _
    rw [e1]; rfl
  have e3 : (match_Some.G.rec (m + 12) (m + 10)).api_SPath__v2 [⟨[[t]], []⟩] L q x = some (bif b then 0 else -1, L, q, x) := by
    show api_SPath__v2.c5 (m + 12) (match_Some.G.rec (m + 12) (m + 9)) (m + 12) [⟨[[t]], []⟩] 1 0 L q x (fun y13 y14 y15 => some ((-1 : Int), y13, y14, y15)) = _
    rw [api_SPath__v2.c5]
    show ((match_Some.G.rec (m + 12) (m + 9)).match_Some_1 [[t]] [] L q x).bind _ = _
    rw [e2]
    cases b with
    | false => rfl
    | true => rfl
  have e4 : (match_Some.G.rec (m + 12) (m + 11)).api_SPath_ [⟨[[t]], []⟩] L q x = some (b, L, q, x) := by
    show ((match_Some.G.rec (m + 12) (m + 10)).api_SPath__v2 [⟨[[t]], []⟩] L q x).bind _ = _
    rw [e3]
    cases b <;> rfl
  show ((match_Some.G.rec (m + 12) (m + 11)).api_SPath_ [⟨[[t]], []⟩] L q x).bind _ = _
  rw [e4]; rfl

end Go.Ev.Mc
