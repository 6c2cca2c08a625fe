/- A part of the evaluator of Go code over small heaps and of its proof: no condition beyond those that each theorem names. -/
import Derived.Test.YtahodlnphioepaaDoorEvDm
import Derived.Test.YtahodlnphioepaaDoorEvNum
set_option linter.unusedVariables false
set_option linter.unusedSimpArgs false
set_option maxRecDepth 100000
namespace Go.Ev.Dm
open Go.Ev

theorem half_eq : clerestorykeep2_half 60 = some true := by kernel_rfl

def C (n : Int) : Int := if (16777216 : Int) < (if (-16777216 : Int) > n then (-16777216 : Int) else n) then (16777216 : Int) else (if (-16777216 : Int) > n then (-16777216 : Int) else n)

theorem C_mono {a b : Int} (h : a ≤ b) : C a ≤ C b := by
  unfold C
  repeat' split
  all_goals omega

theorem C_id {a : Int} (h1 : -16777216 ≤ a) (h2 : a ≤ 16777216) : C a = a := by
  unfold C
  repeat' split
  all_goals omega

theorem cut_eq (k : Nat) (n : Int) : dim_cut k n = some (C n) := rfl

theorem in_eq (k : Nat) (n l h : Int) : dim_in k n l h = some (decide (l ≤ n ∧ n ≤ h)) := by
  unfold dim_in
  by_cases h1 : n ≥ l
  · by_cases h2 : n ≤ h
    · have : l ≤ n := h1
      simp [this, h2]
    · simp [h1, h2]
  · have : ¬ l ≤ n := h1
    simp [this]

theorem down_eq (k : Nat) (n m : Int) (hm : 0 < m) (h1 : -4611686018427387904 ≤ n) (h2 : n ≤ 4611686018427387904) : dim_down k n m = some (n / m) := by
  unfold dim_down
  have hne : (m != 0) = true := by simp; omega
  simp only [dim_down.c8, hne, cond_true]
  have hq1 : -4611686018427387904 ≤ Int.tdiv n m := by
    rcases Int.le_total 0 n with h | h
    · have := Int.tdiv_nonneg h (Int.le_of_lt hm); omega
    · have e : Int.tdiv n m = - (Int.tdiv (-n) m) := by rw [Int.neg_tdiv]; omega
      have h3 : Int.tdiv (-n) m ≤ -n := by
        rw [Int.tdiv_eq_ediv_of_nonneg (by omega)]
        exact Int.ediv_le_self _ (by omega)
      omega
  have hq2 : Int.tdiv n m ≤ 4611686018427387904 := by
    rcases Int.le_total 0 n with h | h
    · rw [Int.tdiv_eq_ediv_of_nonneg h]
      have := Int.ediv_le_self m h; omega
    · have e : Int.tdiv n m = - (Int.tdiv (-n) m) := by rw [Int.neg_tdiv]; omega
      have h3 : 0 ≤ Int.tdiv (-n) m := Int.tdiv_nonneg (by omega) (Int.le_of_lt hm)
      omega
  rw [wrap_i64 (n := Int.tdiv n m) (by omega) (by omega)]
  have h3 := Int.mul_tdiv_add_tmod n m
  have h4 : Int.tmod n m < m := Int.tmod_lt_of_pos n hm
  have h5 : - m < Int.tmod n m := by
    have := Int.tmod_lt_of_pos (-n) hm
    rw [Int.neg_tmod] at this; omega
  by_cases hneg : Int.tmod n m < 0
  · rw [cond_dec hneg, wrap_i64 (by omega) (by omega)]
    congr 1
    have h6 : n = m * (Int.tdiv n m - 1) + (Int.tmod n m + m) := by rw [Int.mul_sub]; omega
    symm
    rw [Int.ediv_eq_iff_of_pos hm]
    constructor
    · rw [Int.mul_comm]; omega
    · rw [Int.mul_comm]; omega
  · rw [cond_ndec hneg]
    congr 1
    symm
    rw [Int.ediv_eq_iff_of_pos hm]
    constructor
    · rw [Int.mul_comm]; omega
    · rw [Int.mul_comm]; omega

theorem c34_eq (k : Nat) (t m n : Int) (u : List UInt8) (hm : 0 < m) (ht : 0 ≤ t) (ht' : t ≤ 16777216) (h1 : -1000000000 ≤ n) (h2 : n ≤ 1000000000) : dim_Px.c34 k t m n u = some (C (n * t / m), 0) := by
  unfold dim_Px.c34
  have hb : -16777216000000000 ≤ n * t ∧ n * t ≤ 16777216000000000 := by
    rcases Int.le_total 0 n with h | h
    · have := mul_bd h h2 ht ht'; omega
    · have h3 := mul_bd (x := -n) (by omega) (show -n ≤ 1000000000 by omega) ht ht'
      rw [Int.neg_mul] at h3; omega
  simp only []
  rw [wrap_i64 (n := n * t) (by omega) (by omega), down_eq k _ m hm (by omega) (by omega)]
  simp only [Option.bind_some, cut_eq]

/-- Is a scale one? -/
def okS (a3 a4 a5 a6 : Int) : Bool := decide (0 ≤ a3 ∧ a3 ≤ 16777216) && decide (0 ≤ a4 ∧ a4 ≤ 16777216) && decide (1 ≤ a5 ∧ a5 ≤ 4000) && decide (1 ≤ a6 ∧ a6 ≤ 4000)

def units : List (List UInt8) := [[112, 120], [101, 109], [114, 101, 109], [118, 119], [118, 104]]

def tim (u : List UInt8) (a3 a4 a5 a6 : Int) : Int × Int :=
  if u = [112, 120] then (64, 1000) else if u = [101, 109] then (a3, 1000) else if u = [114, 101, 109] then (a4, 1000) else if u = [118, 119] then (64 * a5, 100000) else (64 * a6, 100000)

theorem Px_eq (k : Nat) (n : Int) (u : List UInt8) (hu : u ∈ units) (a3 a4 a5 a6 : Int) :
    dim_Px k n u a3 a4 a5 a6 = if -1000000000 ≤ n ∧ n ≤ 1000000000 ∧ okS a3 a4 a5 a6 = true then some (C (n * (tim u a3 a4 a5 a6).1 / (tim u a3 a4 a5 a6).2), 0) else some (0, 1) := by
  unfold dim_Px okS
  simp only [in_eq, Option.bind_some]
  by_cases h0 : -1000000000 ≤ n ∧ n ≤ 1000000000
  · by_cases h3 : 0 ≤ a3 ∧ a3 ≤ 16777216
    · by_cases h4 : 0 ≤ a4 ∧ a4 ≤ 16777216
      · by_cases h5 : 1 ≤ a5 ∧ a5 ≤ 4000
        · by_cases h6 : 1 ≤ a6 ∧ a6 ≤ 4000
          · have e1 : IntKind.wrap .i64 (64 * a5) = 64 * a5 := wrap_i64 (by omega) (by omega)
            have e2 : IntKind.wrap .i64 (64 * a6) = 64 * a6 := wrap_i64 (by omega) (by omega)
            rw [if_pos ⟨h0.1, h0.2, by simp [h3, h4, h5, h6]⟩]
            simp only [decide_eq_true h0, decide_eq_true h3, decide_eq_true h4, decide_eq_true h5, decide_eq_true h6, Bool.not_true, Bool.not_false, cond_true, cond_false, Option.bind_some, e1, e2]
            simp only [units, List.mem_cons, List.not_mem_nil, or_false] at hu
            rcases hu with rfl | rfl | rfl | rfl | rfl
            · exact c34_eq k 64 1000 n [112, 120] (by omega) (by omega) (by omega) h0.1 h0.2
            · exact c34_eq k a3 1000 n [101, 109] (by omega) h3.1 h3.2 h0.1 h0.2
            · exact c34_eq k a4 1000 n [114, 101, 109] (by omega) h4.1 h4.2 h0.1 h0.2
            · exact c34_eq k (64 * a5) 100000 n [118, 119] (by omega) (by omega) (by omega) h0.1 h0.2
            · exact c34_eq k (64 * a6) 100000 n [118, 104] (by omega) (by omega) (by omega) h0.1 h0.2
          · rw [if_neg (by simp [h6])]; simp [h0, h3, h4, h5, h6]
        · rw [if_neg (by simp [h5])]; simp [h0, h3, h4, h5]
      · rw [if_neg (by simp [h4])]; simp [h0, h3, h4]
    · rw [if_neg (by simp [h3])]; simp [h0, h3]
  · rw [if_neg (fun h => h0 ⟨h.1, h.2.1⟩)]; simp [h0]

theorem tim_ok (u : List UInt8) (a3 a4 a5 a6 : Int) (h : okS a3 a4 a5 a6 = true) : 0 ≤ (tim u a3 a4 a5 a6).1 ∧ 0 < (tim u a3 a4 a5 a6).2 := by
  simp only [okS, Bool.and_eq_true, decide_eq_true_eq] at h
  unfold tim
  repeat' split
  all_goals (simp only; omega)

theorem more_law (a1 a2 a3 a4 a5 a6 a7 : Int) : ∃ k, clerestorykeep2_DimMore k a1 a2 a3 a4 a5 a6 a7 = some true := by
  refine ⟨60, ?_⟩
  unfold clerestorykeep2_DimMore
  rw [half_eq]
  simp only [Option.bind_some]
  have h5 : ((5 : Int) != 0) = true := rfl
  rw [h5, cond_true, wrap_u64]
  obtain ⟨i, hi⟩ : ∃ i, i = Int.tmod (a3 % 18446744073709551616) 5 := ⟨_, rfl⟩
  rw [← hi]
  have hi0 : 0 ≤ i ∧ i < 5 := by
    rw [tmod_u 5 (by omega)] at hi
    omega
  have hlen : (units.length : Int) = 5 := rfl
  have hmem : units.getD i.toNat [] ∈ units := by
    have : i.toNat < units.length := by have : units.length = 5 := rfl; omega
    rw [List.getD_eq_getElem?_getD, List.getElem?_eq_getElem this]
    exact List.getElem_mem this
  have hl : ([[112, 120], [101, 109], [114, 101, 109], [118, 119], [118, 104]] : List (List UInt8)) = units := rfl
  simp only [hl]
  rw [cond_dec (by omega)]
  obtain ⟨u, hu⟩ : ∃ u, u = units.getD i.toNat [] := ⟨_, rfl⟩
  rw [← hu] at hmem
  have hPx := fun n => Px_eq 60 n u hmem a4 a5 a6 a7
  have hx : (if a2 < a1 then a2 else a1) ≤ (if a2 > a1 then a2 else a1) := by repeat' split; all_goals omega
  obtain ⟨x, hxe⟩ : ∃ x, x = (if a2 < a1 then a2 else a1) := ⟨_, rfl⟩
  obtain ⟨y, hye⟩ : ∃ y, y = (if a2 > a1 then a2 else a1) := ⟨_, rfl⟩
  rw [← hxe, ← hye] at hx
  simp only [← hu, ← hxe, ← hye, hPx x, hPx y]
  by_cases hX : -1000000000 ≤ x ∧ x ≤ 1000000000 ∧ okS a4 a5 a6 a7 = true
  · by_cases hY : -1000000000 ≤ y ∧ y ≤ 1000000000 ∧ okS a4 a5 a6 a7 = true
    · rw [if_pos hX, if_pos hY]
      obtain ⟨h1, h2⟩ := tim_ok u a4 a5 a6 a7 hX.2.2
      have hm : x * (tim u a4 a5 a6 a7).1 ≤ y * (tim u a4 a5 a6 a7).1 := Int.mul_le_mul_of_nonneg_right hx h1
      have := C_mono (Int.ediv_le_ediv h2 hm)
      simp [this]
    · rw [if_pos hX, if_neg hY]; rfl
  · by_cases hY : -1000000000 ≤ y ∧ y ≤ 1000000000 ∧ okS a4 a5 a6 a7 = true
    · rw [if_neg hX, if_pos hY]; rfl
    · rw [if_neg hX, if_neg hY]; rfl

theorem whole_law (a1 a2 a3 a4 a5 : Int) : ∃ k, clerestorykeep2_DimWhole k a1 a2 a3 a4 a5 = some true := by
  refine ⟨60, ?_⟩
  unfold clerestorykeep2_DimWhole
  rw [half_eq]
  simp only [Option.bind_some]
  have h5 : ((200000 : Int) != 0) = true := rfl
  rw [h5, cond_true]
  obtain ⟨p, hp⟩ : ∃ p, p = Int.tmod a1 200000 := ⟨_, rfl⟩
  rw [← hp]
  have hp1 : p < 200000 := by rw [hp]; exact Int.tmod_lt_of_pos _ (by omega)
  have hp2 : -200000 < p := by
    have := Int.tmod_lt_of_pos (-a1) (show (0 : Int) < 200000 by omega)
    rw [Int.neg_tmod] at this; omega
  rw [wrap_i64 (n := 1000 * p) (by omega) (by omega), wrap_i64 (n := 64 * p) (by omega) (by omega)]
  rw [Px_eq 60 _ [112, 120] (by decide), Px_eq 60 _ [101, 109] (by decide), Px_eq 60 _ [118, 119] (by decide)]
  by_cases hS : okS a2 a3 a4 a5 = true
  · rw [if_pos ⟨by omega, by omega, hS⟩, if_pos ⟨by omega, by omega, hS⟩, if_pos ⟨by omega, by omega, hS⟩]
    have hS' := hS
    simp only [okS, Bool.and_eq_true, decide_eq_true_eq] at hS'
    have e1 : (tim [112, 120] a2 a3 a4 a5) = (64, 1000) := rfl
    have e2 : (tim [101, 109] a2 a3 a4 a5) = (a2, 1000) := rfl
    have e3 : (tim [118, 119] a2 a3 a4 a5) = (64 * a4, 100000) := rfl
    rw [e1, e2, e3]
    have d1 : 1000 * p * 64 / 1000 = 64 * p := by omega
    have d2 : 1000 * a2 / 1000 = a2 := by omega
    have d3 : 100000 * (64 * a4) / 100000 = 64 * a4 := by omega
    rw [d1, d2, d3, C_id (by omega) (by omega), C_id (by omega) (by omega), C_id (by omega) (by omega)]
    rw [wrap_i64 (n := 64 * a4) (by omega) (by omega)]
    simp
  · rw [if_neg (fun h => hS h.2.2), if_neg (fun h => hS h.2.2), if_neg (fun h => hS h.2.2)]
    rfl

end Go.Ev.Dm
