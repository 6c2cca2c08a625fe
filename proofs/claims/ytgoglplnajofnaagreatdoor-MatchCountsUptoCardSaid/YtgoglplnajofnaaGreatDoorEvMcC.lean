/- MatchCounts, as its native says it: true. Its condition: no list or text that comes in is longer than 1048576. -/
import Derived.Test.YtgoglplnajofnaaGreatDoorEvMcB
set_option linter.unusedVariables false
set_option linter.unusedSimpArgs false
set_option linter.unusedSectionVars false
set_option maxRecDepth 100000
namespace Go.Ev.Mc
open Go Go.Ev

/-- Fuel. -/
def K0 : Nat := 10000000

def tst (kind a b : Int) : S96 := ⟨kind, [], 0, [], a, b, []⟩

theorem listed_fact : clerestorykeep2_listed K0 = some true := by kernel_rfl
theorem read_first : selector_Read K0 [58, 102, 105, 114, 115, 116, 45, 99, 104, 105, 108, 100] = some (0, [⟨[[tst 8 0 1]], []⟩]) := by kernel_rfl
theorem read_last : selector_Read K0 [58, 108, 97, 115, 116, 45, 99, 104, 105, 108, 100] = some (0, [⟨[[tst 9 0 1]], []⟩]) := by kernel_rfl
theorem read_odd : selector_Read K0 [58, 110, 116, 104, 45, 99, 104, 105, 108, 100, 40, 111, 100, 100, 41] = some (0, [⟨[[tst 8 2 1]], []⟩]) := by kernel_rfl
theorem read_even : selector_Read K0 [58, 110, 116, 104, 45, 99, 104, 105, 108, 100, 40, 101, 118, 101, 110, 41] = some (0, [⟨[[tst 8 2 0]], []⟩]) := by kernel_rfl

theorem fits8 (k : Nat) (R : match_Some.G.R) {L : List S31} (q : Bool) {x : Int} (hx : 0 ≤ x ∧ x < (L.length : Int)) (a b : Int) {j : Nat} {E : List Int} (hkin : match_kin k L q x = some ((j : Int), E)) (hj : j ≤ 200) {r : Bool} (hN : match_Nth k a b ((j + 1 : Nat) : Int) = some r) :
    match_fits.nat k R L q x (tst 8 a b).Kind (tst 8 a b).Name (tst 8 a b).Op (tst 8 a b).Value (tst 8 a b).A (tst 8 a b).B (tst 8 a b).Subs = some r := by
  show cond (decide (0 ≤ x ∧ x < (L.length : Int))) ((match_kin k L q x).bind fun r19 => match_fits.c44 k R r19.1 8 [] 0 [] a b []) none = some r
  rw [cond_dec hx, hkin]
  simp only [Option.bind_some, match_fits.c44]
  rw [show IntKind.wrap .i64 ((j : Int) + 1) = ((j + 1 : Nat) : Int) from by rw [wrap_i64 (by omega) (by omega)]; omega, hN]
  rfl

theorem fits9 (k : Nat) (R : match_Some.G.R) {L : List S31} (q : Bool) {x : Int} (hx : 0 ≤ x ∧ x < (L.length : Int)) (a b : Int) {j : Nat} {E : List Int} (hkin : match_kin k L q x = some ((j : Int), E)) (hE : E.length ≤ 200) (hj : j < E.length) {r : Bool} (hN : match_Nth k a b ((E.length - j : Nat) : Int) = some r) :
    match_fits.nat k R L q x (tst 9 a b).Kind (tst 9 a b).Name (tst 9 a b).Op (tst 9 a b).Value (tst 9 a b).A (tst 9 a b).B (tst 9 a b).Subs = some r := by
  show cond (decide (0 ≤ x ∧ x < (L.length : Int))) ((match_kin k L q x).bind fun r34 => match_fits.c44 k R (IntKind.wrap .i64 (IntKind.wrap .i64 ((r34.2.length : Int) - 1) - r34.1)) 9 [] 0 [] a b []) none = some r
  rw [cond_dec hx, hkin]
  simp only [Option.bind_some, match_fits.c44]
  have w1 : IntKind.wrap .i64 ((E.length : Int) - 1) = ((E.length - 1 : Nat) : Int) := by rw [wrap_i64 (by omega) (by omega)]; omega
  have w2 : IntKind.wrap .i64 (((E.length - 1 : Nat) : Int) - (j : Int)) = ((E.length - 1 - j : Nat) : Int) := by rw [wrap_i64 (by omega) (by omega)]; omega
  have w3 : IntKind.wrap .i64 (((E.length - 1 - j : Nat) : Int) + 1) = ((E.length - j : Nat) : Int) := by rw [wrap_i64 (by omega) (by omega)]; omega
  rw [w1, w2, w3, hN]
  rfl

theorem nodup_le : ∀ (N : Nat) (l : List Int), l.Nodup → (∀ x ∈ l, 0 ≤ x ∧ x < (N : Int)) → l.length ≤ N
  | 0, l, _, h => by
    cases l with
    | nil => exact Nat.le_refl _
    | cons a r => have := h a (by simp); omega
  | N + 1, l, hn, h => by
    by_cases hm : (N : Int) ∈ l
    · have h1 := nodup_le N (l.erase (N : Int)) (hn.erase _) (fun x hx => by
        have h2 := (hn.mem_erase_iff).1 hx
        have := h x h2.2
        have h3 := h2.1
        omega)
      rw [List.length_erase_of_mem hm] at h1
      omega
    · have h1 := nodup_le N l hn (fun x hx => by
        have := h x hx
        have : x ≠ (N : Int) := fun e => hm (e ▸ hx)
        omega)
      omega

section
variable {L : List S31} (hD : Dk L) (hks : ∀ x ∈ L, x.Kids.length ≤ 2000000) (q : Bool) (hC : dom_Check K0 L q = some 0) {p : Nat} (hp : p < L.length)
include hD hks hC hp

theorem els_le : (els L p).length ≤ 200 := by
  have hk := hD.kid p hp
  have := nodup_le L.length (els L p) (hk.nodup.sublist List.filter_sublist) (fun x hx => by
    have := hk.kid x (List.mem_filter.1 hx).1
    exact ⟨this.1, this.2.1⟩)
  have := hD.len
  omega

theorem Is_ok {x : Int} (hx : x ∈ (nd L p).Kids) (he : el L x = true) {s : List UInt8} {t : S96} (hs : selector_Read K0 s = some (0, [⟨[[t]], []⟩])) {b : Bool} (hf : ∀ R, match_fits.nat K0 R L q x t.Kind t.Name t.Op t.Value t.A t.B t.Subs = some b) :
    match_Is K0 L q x s = some (b, 0) := by
  have hk := (hD.kid p hp).kid x hx
  unfold match_Is match_read
  rw [hC]
  simp only [Option.bind_some, show ((0 : Int) != 0) = false from rfl, cond_false]
  rw [decide_eq_false (by omega : ¬ x ≥ (L.length : Int)), decide_eq_false (by omega : ¬ x < 0), hs]
  simp only [cond_false, Option.bind_some, show ((0 : Int) != 0) = false from rfl]
  rw [some_one K0 (by decide) t b q ⟨hk.1, hk.2.1⟩ he hf]
  rfl

/-- The four answers, of the one behind so many elements. -/
theorem four {A B : List Int} {x : Int} (hK : (nd L p).Kids = A ++ x :: B) (he : el L x = true) :
    (A.filter (el L)).length < (els L p).length ∧
    match_Is K0 L q x [58, 102, 105, 114, 115, 116, 45, 99, 104, 105, 108, 100] = some (decide ((A.filter (el L)).length + 1 = 1), 0) ∧
    match_Is K0 L q x [58, 108, 97, 115, 116, 45, 99, 104, 105, 108, 100] = some (decide ((els L p).length - (A.filter (el L)).length = 1), 0) ∧
    match_Is K0 L q x [58, 110, 116, 104, 45, 99, 104, 105, 108, 100, 40, 111, 100, 100, 41] = some (decide (((A.filter (el L)).length + 1) % 2 = 1), 0) ∧
    match_Is K0 L q x [58, 110, 116, 104, 45, 99, 104, 105, 108, 100, 40, 101, 118, 101, 110, 41] = some (decide (((A.filter (el L)).length + 1) % 2 = 0), 0) := by
  have hxm : x ∈ (nd L p).Kids := by rw [hK]; simp
  have hk := hD.kid p hp
  have hkx := hk.kid x hxm
  have hE : els L p = A.filter (el L) ++ x :: B.filter (el L) := by
    unfold els
    rw [hK, List.filter_append, List.filter_cons, he]
    rfl
  have hnA : x ∉ A.filter (el L) := by
    intro hm
    have hnd := hk.nodup
    rw [hK, List.nodup_append] at hnd
    exact hnd.2.2 x (List.mem_filter.1 hm).1 x (by simp) rfl
  have hix : ixV x (els L p) = some (A.filter (el L)).length := by rw [hE]; exact ixV_app hnA
  have hlen : (A.filter (el L)).length < (els L p).length := by rw [hE, List.length_append, List.length_cons]; omega
  have hle := els_le hD hks q hC hp
  have hkin := kin_eq K0 (by decide) hD hks q ⟨hkx.1, hkx.2.1⟩ hp hkx.2.2 hix
  generalize (A.filter (el L)).length = c at hkin hlen
  refine ⟨hlen, ?_, ?_, ?_, ?_⟩
  · exact Is_ok hD hks q hC hp hxm he read_first fun R => fits8 K0 R q ⟨hkx.1, hkx.2.1⟩ 0 1 hkin (by omega) (Nth_01 K0 (by omega) (by omega))
  · exact Is_ok hD hks q hC hp hxm he read_last fun R => fits9 K0 R q ⟨hkx.1, hkx.2.1⟩ 0 1 hkin hle hlen (Nth_01 K0 (by omega) (by omega))
  · exact Is_ok hD hks q hC hp hxm he read_odd fun R => fits8 K0 R q ⟨hkx.1, hkx.2.1⟩ 2 1 hkin (by omega) (Nth_2 K0 1 (by omega) (by omega) (by omega))
  · exact Is_ok hD hks q hC hp hxm he read_even fun R => fits8 K0 R q ⟨hkx.1, hkx.2.1⟩ 2 0 hkin (by omega) (Nth_2 K0 0 (by omega) (by omega) (by omega))

end

def sels : List (List UInt8) := [([58, 102, 105, 114, 115, 116, 45, 99, 104, 105, 108, 100] : List UInt8), ([58, 108, 97, 115, 116, 45, 99, 104, 105, 108, 100] : List UInt8), ([58, 110, 116, 104, 45, 99, 104, 105, 108, 100, 40, 111, 100, 100, 41] : List UInt8), ([58, 110, 116, 104, 45, 99, 104, 105, 108, 100, 40, 101, 118, 101, 110, 41] : List UInt8)]

def add (b : Bool) (n : Int) : Int := bif b then IntKind.wrap .i64 (n + 1) else n

section
variable (k : Nat) (p : Int) (fa : Bool) (many f l o e i x : Int) (L : List S31) (q : Bool) (K : Int → Bool → Int → Int → Int → Int → Int → Int → List S31 → Bool → Option Bool)

theorem cnt0 (n : Nat) {b : Bool} (h : match_Is k L q x [58, 102, 105, 114, 115, 116, 45, 99, 104, 105, 108, 100] = some (b, 0)) :
    clerestorykeep2_MatchCounts.c39 k (n + 1) p fa many f l o e i x 0 L q sels K = clerestorykeep2_MatchCounts.c39 k n p fa many (add b f) l o e i x 1 L q sels K := by
  rw [clerestorykeep2_MatchCounts.c39]
  show ((match_Is k L q x [58, 102, 105, 114, 115, 116, 45, 99, 104, 105, 108, 100]).bind _) = _
  rw [h]
  cases b <;> rfl

theorem cnt1 (n : Nat) {b : Bool} (h : match_Is k L q x [58, 108, 97, 115, 116, 45, 99, 104, 105, 108, 100] = some (b, 0)) :
    clerestorykeep2_MatchCounts.c39 k (n + 1) p fa many f l o e i x 1 L q sels K = clerestorykeep2_MatchCounts.c39 k n p fa many f (add b l) o e i x 2 L q sels K := by
  rw [clerestorykeep2_MatchCounts.c39]
  show ((match_Is k L q x [58, 108, 97, 115, 116, 45, 99, 104, 105, 108, 100]).bind _) = _
  rw [h]
  cases b <;> rfl

theorem cnt2 (n : Nat) {b : Bool} (h : match_Is k L q x [58, 110, 116, 104, 45, 99, 104, 105, 108, 100, 40, 111, 100, 100, 41] = some (b, 0)) :
    clerestorykeep2_MatchCounts.c39 k (n + 1) p fa many f l o e i x 2 L q sels K = clerestorykeep2_MatchCounts.c39 k n p fa many f l (add b o) e i x 3 L q sels K := by
  rw [clerestorykeep2_MatchCounts.c39]
  show ((match_Is k L q x [58, 110, 116, 104, 45, 99, 104, 105, 108, 100, 40, 111, 100, 100, 41]).bind _) = _
  rw [h]
  cases b <;> rfl

theorem cnt3 (n : Nat) {b : Bool} (h : match_Is k L q x [58, 110, 116, 104, 45, 99, 104, 105, 108, 100, 40, 101, 118, 101, 110, 41] = some (b, 0)) :
    clerestorykeep2_MatchCounts.c39 k (n + 1) p fa many f l o e i x 3 L q sels K = clerestorykeep2_MatchCounts.c39 k n p fa many f l o (add b e) i x 4 L q sels K := by
  rw [clerestorykeep2_MatchCounts.c39]
  show ((match_Is k L q x [58, 110, 116, 104, 45, 99, 104, 105, 108, 100, 40, 101, 118, 101, 110, 41]).bind _) = _
  rw [h]
  cases b <;> rfl

theorem cnt4 (n : Nat) : clerestorykeep2_MatchCounts.c39 k (n + 1) p fa many f l o e i x 4 L q sels K = K p fa many f l o e i L q := by
  rw [clerestorykeep2_MatchCounts.c39]
  rfl
end

def F (c : Nat) : Nat := if c = 0 then 0 else 1
def La (m c : Nat) : Nat := if c = m ∧ 0 < m then 1 else 0

theorem add_ok (b : Bool) (n : Nat) (h : n ≤ 1000) : add b (n : Int) = ((n + (bif b then 1 else 0) : Nat) : Int) := by
  cases b with
  | true => show IntKind.wrap .i64 ((n : Int) + 1) = _; rw [wrap_i64 (by omega) (by omega)]; simp only [cond_true]; omega
  | false => simp [add]

theorem count_loop {L : List S31} (hD : Dk L) (hks : ∀ x ∈ L, x.Kids.length ≤ 2000000) (q : Bool) (hC : dom_Check K0 L q = some 0) {p : Nat} (hp : p < L.length) (K : Bool → Int → Int → Int → Int → Int → Option Bool) : ∀ (n i : Nat), i ≤ (nd L p).Kids.length → (nd L p).Kids.length - i < n →
    clerestorykeep2_MatchCounts.c21 K0 n (p : Int) true ((((nd L p).Kids.take i).filter (el L)).length : Int) (F (((nd L p).Kids.take i).filter (el L)).length : Int) (La (els L p).length (((nd L p).Kids.take i).filter (el L)).length : Int) ((((((nd L p).Kids.take i).filter (el L)).length + 1) / 2 : Nat) : Int) (((((nd L p).Kids.take i).filter (el L)).length / 2 : Nat) : Int) (i : Int) L q K =
      K true ((els L p).length : Int) (F (els L p).length : Int) (La (els L p).length (els L p).length : Int) ((((els L p).length + 1) / 2 : Nat) : Int) (((els L p).length / 2 : Nat) : Int)
  | 0, i, _, h => by omega
  | n + 1, i, hi, hn => by
    have hm : nd L p ∈ L := by
      unfold nd
      rw [List.getD_eq_getElem?_getD, List.getElem?_eq_getElem hp]
      exact List.getElem_mem _
    have hkl := hks _ hm
    rw [clerestorykeep2_MatchCounts.c21]
    simp only [Int.toNat_natCast]
    rw [cond_dec (by omega)]
    match hd : (nd L p).Kids.drop i with
    | [] =>
      have hie := end_of hi hd
      rw [cond_ndec (show ¬ (i : Int) < ((L.getD p S31.d).Kids.length : Int) by show ¬ (i : Int) < ((nd L p).Kids.length : Int); omega), hie, List.take_length]
      rfl
    | x :: r =>
      obtain ⟨h1, h2, h3, h4⟩ := atS (0 : Int) (nd L p).Kids i x r hd
      have hx := (hD.kid p hp).kid x h4
      have h2' : (L.getD p S31.d).Kids.getD i 0 = x := h2
      have htk : (nd L p).Kids.take (i + 1) = (nd L p).Kids.take i ++ [x] := by
        rw [List.take_succ_eq_append_getElem h1]
        congr 2
        rw [List.getD_eq_getElem?_getD, List.getElem?_eq_getElem h1] at h2
        exact h2
      have hK : (nd L p).Kids = (nd L p).Kids.take i ++ x :: r := by rw [← hd, List.take_append_drop]
      rw [cond_dec (show (i : Int) < ((L.getD p S31.d).Kids.length : Int) by show (i : Int) < ((nd L p).Kids.length : Int); omega), cond_dec (by omega), cond_dec (show 0 ≤ (i : Int) ∧ (i : Int) < ((L.getD p S31.d).Kids.length : Int) by show 0 ≤ (i : Int) ∧ (i : Int) < ((nd L p).Kids.length : Int); omega)]
      simp only [h2']
      rw [decide_eq_false (by omega : ¬ x ≥ (L.length : Int)), decide_eq_false (by omega : ¬ x < 0)]
      simp only [cond_false]
      rw [cond_dec ⟨hx.1, hx.2.1⟩]
      have w1 : IntKind.wrap .i64 ((i : Int) + 1) = ((i + 1 : Nat) : Int) := by rw [wrap_i64 (by omega) (by omega)]; omega
      have ih := count_loop hD hks q hC hp K n (i + 1) (by omega) (by omega)
      rw [htk, List.filter_append] at ih
      cases he : el L x with
      | false =>
        have he' : ((L.getD x.toNat S31.d).Kind != 2) = true := by
          have : ((nd L x.toNat).Kind == 2) = false := he
          show (!((nd L x.toNat).Kind == 2)) = true
          rw [this]; rfl
        rw [he', cond_true, w1]
        have e0 : ([x].filter (el L)) = [] := by simp [he]
        rw [e0, List.append_nil] at ih
        exact ih
      | true =>
        have he' : ((L.getD x.toNat S31.d).Kind != 2) = false := by
          have : ((nd L x.toNat).Kind == 2) = true := he
          show (!((nd L x.toNat).Kind == 2)) = false
          rw [this]; rfl
        rw [he', cond_false]
        have e0 : ([x].filter (el L)) = [x] := by simp [he]
        rw [e0, List.length_append, List.length_singleton] at ih
        obtain ⟨f0, f1, f2, f3, f4⟩ := four hD hks q hC hp hK he
        have hle := els_le hD hks q hC hp
        generalize (((nd L p).Kids.take i).filter (el L)).length = c at ih f0 f1 f2 f3 f4 ⊢
        have w2 : IntKind.wrap .i64 ((c : Int) + 1) = ((c + 1 : Nat) : Int) := by rw [wrap_i64 (by omega) (by omega)]; omega
        obtain ⟨kk, hkk⟩ : ∃ kk, K0 = kk + 5 := ⟨9999995, by decide⟩
        have key : ∀ (f l o e : Int) (KK : Int → Bool → Int → Int → Int → Int → Int → Int → List S31 → Bool → Option Bool), clerestorykeep2_MatchCounts.c39 K0 K0 (p : Int) true ((c + 1 : Nat) : Int) f l o e (i : Int) x 0 L q sels KK =
            KK (p : Int) true ((c + 1 : Nat) : Int) (add (decide (c + 1 = 1)) f) (add (decide ((els L p).length - c = 1)) l) (add (decide ((c + 1) % 2 = 1)) o) (add (decide ((c + 1) % 2 = 0)) e) (i : Int) L q := by
          intro f l o e KK
          have hc : ∀ n : Nat, n = kk + 5 → clerestorykeep2_MatchCounts.c39 K0 n (p : Int) true ((c + 1 : Nat) : Int) f l o e (i : Int) x 0 L q sels KK =
            KK (p : Int) true ((c + 1 : Nat) : Int) (add (decide (c + 1 = 1)) f) (add (decide ((els L p).length - c = 1)) l) (add (decide ((c + 1) % 2 = 1)) o) (add (decide ((c + 1) % 2 = 0)) e) (i : Int) L q := by
            intro n hn
            subst hn
            rw [cnt0 K0 (p : Int) true _ f l o e i x L q KK (kk + 4) f1, cnt1 K0 (p : Int) true _ _ l o e i x L q KK (kk + 3) f2, cnt2 K0 (p : Int) true _ _ _ o e i x L q KK (kk + 2) f3, cnt3 K0 (p : Int) true _ _ _ _ e i x L q KK (kk + 1) f4, cnt4]
          exact hc K0 hkk
        rw [w2]
        refine (key _ _ _ _ _).trans ?_
        simp only [w1]
        rw [add_ok _ (F c) (by unfold F; split <;> omega), add_ok _ (La (els L p).length c) (by unfold La; split <;> omega), add_ok _ ((c + 1) / 2) (by omega), add_ok _ (c / 2) (by omega)]
        have g1 : F c + (bif decide (c + 1 = 1) then 1 else 0) = F (c + 1) := by
          unfold F
          by_cases h : c = 0
          · subst h; rfl
          · rw [if_neg h, if_neg (by omega), decide_eq_false (by omega)]; rfl
        have g2 : La (els L p).length c + (bif decide ((els L p).length - c = 1) then 1 else 0) = La (els L p).length (c + 1) := by
          unfold La
          rw [if_neg (by omega)]
          by_cases h : (els L p).length - c = 1
          · rw [decide_eq_true h, if_pos (by omega)]; rfl
          · rw [decide_eq_false h, if_neg (by omega)]; rfl
        have g3 : (c + 1) / 2 + (bif decide ((c + 1) % 2 = 1) then 1 else 0) = (c + 1 + 1) / 2 := by
          by_cases h : (c + 1) % 2 = 1
          · rw [decide_eq_true h]; simp only [cond_true]; omega
          · rw [decide_eq_false h]; simp only [cond_false]; omega
        have g4 : c / 2 + (bif decide ((c + 1) % 2 = 0) then 1 else 0) = (c + 1) / 2 := by
          by_cases h : (c + 1) % 2 = 0
          · rw [decide_eq_true h]; simp only [cond_true]; omega
          · rw [decide_eq_false h]; simp only [cond_false]; omega
        rw [g1, g2, g3, g4]
        exact ih

theorem law (L : List S31) (q : Bool) (n : Int) (hks : ∀ x ∈ L, x.Kids.length ≤ 2000000) : clerestorykeep2_MatchCounts K0 L q n = some true := by
  unfold clerestorykeep2_MatchCounts
  rw [listed_fact]
  obtain ⟨e, h1, h2⟩ := Check_ok K0 (by decide) L hks q
  rw [h1]
  simp only [Option.bind_some]
  cases hg : (cond (cond (e != 0) true (decide (n < 0))) true (decide (n ≥ (L.length : Int)))) with
  | true => rfl
  | false =>
    rw [cond_false]
    have he : e = 0 := by
      cases h : e != 0 with
      | true => rw [h] at hg; cases hg
      | false => simpa using h
    subst he
    have hn0 : ¬ n < 0 := by
      intro h
      rw [decide_eq_true h] at hg
      cases hg
    have hn1 : ¬ n ≥ (L.length : Int) := by
      intro h
      rw [decide_eq_true h] at hg
      cases hc : (cond ((0 : Int) != 0) true (decide (n < 0))) <;> rw [hc] at hg <;> cases hg
    have hD := h2 rfl
    obtain ⟨p, rfl⟩ : ∃ p : Nat, n = (p : Int) := ⟨n.toNat, by omega⟩
    have hp : p < L.length := by omega
    have hle := els_le hD hks q h1 hp
    have hm : nd L p ∈ L := by
      unfold nd
      rw [List.getD_eq_getElem?_getD, List.getElem?_eq_getElem hp]
      exact List.getElem_mem _
    have hkl := hks _ hm
    have := count_loop hD hks q h1 hp (fun (y182 : Bool) (y183 : Int) (y184 : Int) (y185 : Int) (y186 : Int) (y187 : Int) =>
      let v188 : Int := (if y183 < (1 : Int) then y183 else (1 : Int))
      let v189 : Bool := (cond y182 (y184 == v188) false)
      let v190 : Bool := (cond v189 (y185 == y184) false)
      let v191 : Int := (IntKind.wrap .i64 (y183 + (1 : Int)))
      cond (((2 : Int) != 0) || !v190) (
      let v192 : Int := (IntKind.wrap .i64 (Int.tdiv v191 (2 : Int)))
      let v193 : Bool := (cond v190 (y186 == v192) false)
      cond (((2 : Int) != 0) || !v193) (
      let v194 : Int := (IntKind.wrap .i64 (Int.tdiv y183 (2 : Int)))
      let v195 : Bool := (cond v193 (y187 == v194) false)
      some v195) none) none) K0 0 (Nat.zero_le _) (Nat.lt_of_le_of_lt (show (nd L p).Kids.length - 0 ≤ 2000000 by omega) (by decide))
    have e0 : (((nd L p).Kids.take 0).filter (el L)).length = 0 := by rw [List.take_zero]; rfl
    have e1 : La (els L p).length 0 = 0 := by unfold La; rw [if_neg (by omega)]
    have e2 : F 0 = 0 := rfl
    have e3 : (0 + 1) / 2 = 0 := rfl
    have e4 : 0 / 2 = 0 := rfl
    rw [e0, e1, e2, e3] at this
    simp only [Int.natCast_zero] at this
    refine Eq.trans ?_ (this.trans ?_)
    · rfl
    clear this
    generalize (els L p).length = m at hle
    have w1 : IntKind.wrap .i64 ((m : Int) + 1) = ((m + 1 : Nat) : Int) := by rw [wrap_i64 (by omega) (by omega)]; omega
    have w2 : IntKind.wrap .i64 (Int.tdiv ((m + 1 : Nat) : Int) 2) = (((m + 1) / 2 : Nat) : Int) := by rw [tdiv_u _ (by omega), wrap_i64 (by omega) (by omega)]; omega
    have w3 : IntKind.wrap .i64 (Int.tdiv (m : Int) 2) = ((m / 2 : Nat) : Int) := by rw [tdiv_u _ (by omega), wrap_i64 (by omega) (by omega)]; omega
    have g1 : (if (m : Int) < 1 then (m : Int) else 1) = (F m : Int) := by
      unfold F
      by_cases h : m = 0
      · subst h; rfl
      · rw [if_neg (by omega), if_neg h]; rfl
    have g2 : La m m = F m := by
      unfold La F
      by_cases h : m = 0
      · rw [if_neg (by omega), if_pos h]
      · rw [if_pos (by omega), if_neg h]
    simp only [g1, g2, w1, w2, w3, beq_self_eq_true, cond_true]
    rfl

theorem law_ex (L : List S31) (q : Bool) (n : Int) (h : L.length ≤ 1048576 ∧ ∀ y0 ∈ L, y0.Name.length ≤ 1048576 ∧ (y0.Attrs.length ≤ 1048576 ∧ ∀ y1 ∈ y0.Attrs, y1.Name.length ≤ 1048576 ∧ y1.Value.length ≤ 1048576) ∧ y0.Text.length ≤ 1048576 ∧ (y0.Kids.length ≤ 1048576 ∧ ∀ y1 ∈ y0.Kids, True)) (_ : True) : ∃ k, clerestorykeep2_MatchCounts k L q n = some true :=
  ⟨K0, law L q n fun x hx => by have := (h.2 x hx).2.2.2.1; omega⟩

end Go.Ev.Mc
