/- The natives of the token laws, in plain words: TokenApart. No condition beyond those that each theorem names. -/
import Derived.Test.YtafbhggbkhckaaaDoorEvTkC
import Derived.Test.YtafbhggbkhckaaaDoorEvTkP
set_option linter.unusedVariables false
namespace Go.Ev.Tk
open Go Go.Ev.Tok

theorem toks_cons (s : List UInt8) (h : s ≠ []) : toks s = mk (tokO s (tok1 s)) :: toks (s.drop (tok1 s).2.1) := by
  unfold toks; rw [cutP_cons s h]; rfl

theorem toks_apart (x y : List UInt8) (hy : y ≠ []) (h8 : (tok1 y).1 ≠ 8) (ho : ¬ Unshut x) : toks (x ++ [32] ++ y) = toks x ++ [⟨8, [32], [], 0⟩] ++ toks y := by
  have e : x ++ [32] ++ y = x ++ 32 :: y := by simp
  rw [e]
  unfold toks
  rw [cut_apart y _ x (Nat.le_refl _) ho, cut_blank y (blank_of y hy h8)]
  simp [mk]

theorem apart_law (k : Nat) (s t : List UInt8) (hk : 4000 ≤ k) : clerestorykeep2_TokenApart k s t = some true := by
  unfold clerestorykeep2_TokenApart
  rw [fact_eq k (by omega), show (300 : Int) = ((300 : Nat) : Int) from rfl, short_eq, short_eq]
  simp only [Option.bind_some]
  have hs : (s.take 300).length ≤ 300 := by rw [List.length_take]; omega
  have ht : (t.take 300).length ≤ 300 := by rw [List.length_take]; omega
  generalize s.take 300 = x at *
  generalize t.take 300 = y at *
  have hlx := toks_len x
  have hly := toks_len y
  rw [Cut_eq k x (by omega) (by omega), Cut_eq k y (by omega) (by omega)]
  simp only [Option.bind_some]
  by_cases hx : x = []
  · subst hx
    have e1 : (((toks []).length : Int) == (0 : Int)) = true := rfl
    simp only [e1, cond_true, Bool.not_true, Bool.not_false, Bool.or_true]
  by_cases hy : y = []
  · subst hy
    have e1 : (((toks []).length : Int) == (0 : Int)) = true := rfl
    simp only [e1, cond_true, cond_self, Bool.not_true, Bool.not_false, Bool.or_true]
  have p1 : 0 < (toks x).length := by rw [toks_cons x hx]; simp
  have p2 : 0 < (toks y).length := by rw [toks_cons y hy]; simp
  have f1 : (((toks x).length : Int) == (0 : Int)) = false := beq_false_of_ne (by omega)
  have f2 : (((toks y).length : Int) == (0 : Int)) = false := beq_false_of_ne (by omega)
  have g2 : ((toks y).getD ((0 : Int).toNat) S28.d).Kind = (tok1 y).1 := by
    rw [toks_cons y hy]; rfl
  simp only [f1, f2, cond_false, Bool.not_false, Bool.not_true, Bool.or_false, g2]
  rw [cond_dec (by omega)]
  by_cases h8 : (tok1 y).1 = 8
  · rw [h8]; rfl
  have e8 : ((tok1 y).1 == (8 : Int)) = false := by simpa using h8
  rw [e8, cond_false]
  have w : IntKind.wrap .i64 (((toks x).length : Int) - 1) = (((toks x).length - 1 : Nat) : Int) := by rw [wrap_i64 (by omega) (by omega)]; omega
  rw [w]
  rw [cond_dec (by omega)]
  have hl : (toks x).getD ((((toks x).length - 1 : Nat) : Int)).toNat S28.d = (toks x)[(toks x).length - 1] := by
    show (toks x).getD ((toks x).length - 1) S28.d = _
    rw [List.getD_eq_getElem?_getD, List.getElem?_eq_getElem (by omega), Option.getD_some]
  have hlast : (toks x).getLast? = some ((toks x)[(toks x).length - 1]) := by
    rw [List.getLast?_eq_getElem?, List.getElem?_eq_getElem (by omega)]
  simp only [hl]
  generalize (toks x)[(toks x).length - 1] = u at *
  by_cases hk3 : u.Kind = 6 ∨ u.Kind = 9 ∨ u.Kind = 8
  · have : cond (cond (u.Kind == (6 : Int)) true (u.Kind == (9 : Int))) true (u.Kind == (8 : Int)) = true := by
      rcases hk3 with h | h | h <;> rw [h] <;> decide
    rw [this, cond_true]
  have e : cond (cond (u.Kind == (6 : Int)) true (u.Kind == (9 : Int))) true (u.Kind == (8 : Int)) = false := by
    have a1 : (u.Kind == (6 : Int)) = false := by simp; omega
    have a2 : (u.Kind == (9 : Int)) = false := by simp; omega
    have a3 : (u.Kind == (8 : Int)) = false := by simp; omega
    rw [a1, a2, a3]; rfl
  rw [e, cond_false]
  have ho : ¬ Unshut x := by
    rintro ⟨v, hv, hk⟩
    have : (toks x).getLast? = some (mk v) := by
      unfold toks; rw [List.getLast?_map, hv]; rfl
    rw [this] at hlast
    have hu : mk v = u := Option.some.inj hlast
    have hu2 : u.Kind = v.1 := by rw [← hu]; rfl
    omega
  have hlen : (x ++ [32] ++ y).length = x.length + 1 + y.length := by simp only [List.length_append, List.length_cons, List.length_nil]
  have b1 : Nat.ble (x.length + ([32] : List UInt8).length) 9223372036854775807 = true := by rw [Nat.ble_eq]; simp only [List.length_cons, List.length_nil]; omega
  have b2 : Nat.ble ((x ++ ([32] : List UInt8)).length + y.length) 9223372036854775807 = true := by rw [Nat.ble_eq]; simp only [List.length_append, List.length_cons, List.length_nil]; omega
  rw [b1, b2, cond_true, cond_true, Cut_eq k _ (by omega) (by omega), toks_apart x y hy h8 ho]
  simp only [Option.bind_some]
  have l3 : (toks x ++ [(⟨8, [32], [], 0⟩ : S28)]).length = (toks x).length + 1 := by simp
  have l4 : (toks x ++ [(⟨8, [32], [], 0⟩ : S28)] ++ toks y).length = (toks x).length + 1 + (toks y).length := by simp only [List.length_append, List.length_cons, List.length_nil]
  rw [cond_dec (by rw [l3]; unfold most; omega), cond_dec (by rw [l4]; unfold most; omega), same_eq k _ (by omega) (by omega)]
  rfl

theorem apart_ex (s t : List UInt8) : ∃ k, clerestorykeep2_TokenApart k s t = some true := ⟨4000, apart_law 4000 s t (Nat.le_refl _)⟩

end Go.Ev.Tk
