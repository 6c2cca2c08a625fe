/- strings.EqualFold as a Sim, where the second text is ASCII and has no folds beyond ASCII: no condition beyond those that each theorem names. -/
import Derived.Test.YtipobmmndkgdfaaDoorEvShF
set_option linter.unusedVariables false
set_option linter.unusedSimpArgs false
namespace Go.Ev
open Go.Shelf Go.RowKit Go.Proofs
variable {T : TypeId → Type}

def lowA (c : UInt8) : UInt8 := bif decide (65 ≤ c.toNat) && decide (c.toNat ≤ 90) then c + 32 else c

theorem lowA_nat (c : UInt8) : (lowA c).toNat = if 65 ≤ c.toNat ∧ c.toNat ≤ 90 then c.toNat + 32 else c.toNat := by
  unfold lowA
  by_cases h : 65 ≤ c.toNat ∧ c.toNat ≤ 90
  · rw [if_pos h, decide_eq_true h.1, decide_eq_true h.2]
    simp only [Bool.and_self, cond_true, UInt8.toNat_add, UInt8.toNat_ofNat]
    omega
  · rw [if_neg h]
    have : (decide (65 ≤ c.toNat) && decide (c.toNat ≤ 90)) = false := by
      rw [Bool.eq_false_iff]
      intro h2
      simp only [Bool.and_eq_true, decide_eq_true_eq] at h2
      exact h h2
    rw [this]; rfl

theorem foldEq_low (x y : UInt8) : Lib.foldEq x y = (lowA x == lowA y) := by
  unfold Lib.foldEq
  have e : (lowA x == lowA y) = decide ((lowA x).toNat = (lowA y).toNat) := by
    by_cases h : lowA x = lowA y
    · rw [h]; simp
    · have : (lowA x).toNat ≠ (lowA y).toNat := fun h2 => h (UInt8.toNat_inj.1 h2)
      rw [decide_eq_false this]; simpa using h
  rw [e]
  refine decide_eq_decide.2 ?_
  rw [lowA_nat, lowA_nat]
  split <;> split <;> omega

theorem fold_map : ∀ s t : List UInt8, Lib.equalFold s t = (s.map lowA == t.map lowA)
  | [], [] => rfl
  | [], _ :: _ => rfl
  | _ :: _, [] => rfl
  | x :: s, y :: t => by
    unfold Lib.equalFold
    rw [foldEq_low, fold_map s t]
    rfl

theorem low_high : ∀ (s t : List UInt8), (∃ (j : Nat) (b : UInt8), s[j]? = some b ∧ 128 ≤ b.toNat) → (∀ (j : Nat) b, t[j]? = some b → b.toNat < 128) → (s.map lowA == t.map lowA) = false
  | [], t, ⟨j, b, h, _⟩, _ => by simp at h
  | x :: s, [], _, _ => rfl
  | x :: s, y :: t, ⟨j, b, h, hb⟩, ht => by
    have hc : (List.map lowA (x :: s) == List.map lowA (y :: t)) = ((lowA x == lowA y) && (s.map lowA == t.map lowA)) := rfl
    rw [hc]
    cases j with
    | zero =>
      simp at h; subst h
      have hy := ht 0 y rfl
      have : (lowA x == lowA y) = false := by
        rw [← foldEq_low]
        unfold Lib.foldEq
        exact decide_eq_false (by omega)
      rw [this]; rfl
    | succ j =>
      rw [low_high s t ⟨j, b, by simpa using h, hb⟩ (fun k c hk => ht (k + 1) c (by simpa using hk)), Bool.and_false]

def foldS (s t : List UInt8) : Option Bool := cond (t.all foldC && (t.length.blt 4294967281 && s.length.blt 4294967281)) (some (s.map lowA == t.map lowA)) none

theorem sim_fold {c : Cfg T} {ρ : Ren} (L : Lays.n164 c.P ρ) (hgl : c.P.globalNamed "unicode.asciiFold" = some (ρ.g 11)) (hm : Lib.TabIs c.P c.w0 "unicode.asciiFold" .u16 afTab) {s t : List UInt8} {r : Bool} (h : foldS s t = some r) :
    Sim c (ρ.f 164) [.d (.s s), .d (.s t)] [] [.d (.b r)] [] := by
  obtain ⟨h1, rfl⟩ := cond_someD h
  simp only [Bool.and_eq_true, Nat.blt_eq] at h1
  have hat : ∀ (j : Nat) b, t[j]? = some b → foldC b = true := fun j b hb => List.all_eq_true.1 h1.1 b (List.mem_of_getElem? hb)
  have hat2 : ∀ (j : Nat) b, t[j]? = some b → b.toNat < 128 := fun j b hb => by have := hat j b hb; simp [foldC] at this; exact this.1
  refine pure_sim (y := .bool (s.map lowA == t.map lowA)) ⟨_, L.f164, rfl, rfl⟩ (fun η w => by simp only [pack, RV]; exact .b _) fun w xs η hH hx => ?_
  rw [two_s hx]
  by_cases hi : ∃ (j : Nat) (b : UInt8), s[j]? = some b ∧ 128 ≤ b.toNat
  · rw [low_high s t hi hat2]
    exact run_foldHigh L hgl ⟨s.toArray⟩ ⟨t.toArray⟩ w h1.2.2 hi hat (TabIs.now hm hH)
  · have has : ∀ (j : Nat) b, s[j]? = some b → b.toNat < 128 := fun j b hb => by
      rcases Nat.lt_or_ge b.toNat 128 with h | h
      · exact h
      · exact absurd ⟨j, b, hb, h⟩ hi
    refine (Any.strings_EqualFold L ⟨s.toArray⟩ ⟨t.toArray⟩ w h1.2.2 has hat2).mono ?_
    rintro e w' ⟨rfl, rfl⟩
    exact ⟨by rw [← fold_map], Below.refl _ _⟩

end Go.Ev
