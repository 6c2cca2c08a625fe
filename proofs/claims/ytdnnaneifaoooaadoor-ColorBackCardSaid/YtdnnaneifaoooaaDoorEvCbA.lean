/- ColorBack in plain words: lower letters, nine digits. No condition beyond those that each theorem names. -/
import Derived.Test.YtdnnaneifaoooaaDoorEvCb
import Derived.Test.YtdnnaneifaoooaaDoorEvTkS
set_option linter.unusedVariables false
set_option linter.unusedSimpArgs false
set_option linter.constructorNameAsVariable false
set_option maxRecDepth 100000
namespace Go.Ev.Cb
open Go.Ev Go.Ev.Tok

theorem get_at (s : List UInt8) (i : Nat) (c : UInt8) (r : List UInt8) (h : s.drop i = c :: r) : i < s.length ∧ s.getD i 0 = c ∧ s.drop (i + 1) = r := by
  have hi : i < s.length := by
    rcases Nat.lt_or_ge i s.length with h1 | h1
    · exact h1
    · rw [List.drop_eq_nil_of_le h1] at h; cases h
  rw [List.drop_eq_getElem_cons hi] at h
  simp only [List.cons.injEq] at h
  exact ⟨hi, by rw [List.getD_eq_getElem?_getD, List.getElem?_eq_getElem hi]; simpa using h.1, h.2⟩

theorem get_bytes (l : List UInt8) (i : Nat) (hi : i < l.length) : (bytesI l).getD i 0 = ((l.getD i 0).toNat : Int) := by
  unfold bytesI
  simp [List.getD_eq_getElem?_getD, List.getElem?_eq_getElem hi]

theorem lowB_eq (c : UInt8) : (bif (cond (decide (((c.toNat : Nat) : Int) ≥ 65)) (decide (((c.toNat : Nat) : Int) ≤ 90)) false) then IntKind.wrap .u8 (((c.toNat : Nat) : Int) + 32) else ((c.toNat : Nat) : Int)) = (((lowB c).toNat : Nat) : Int) := by
  have h : ∀ n : Fin 256, (bif (cond (decide (((n.val : Nat) : Int) ≥ 65)) (decide (((n.val : Nat) : Int) ≤ 90)) false) then IntKind.wrap .u8 (((n.val : Nat) : Int) + 32) else ((n.val : Nat) : Int)) = (((lowB (UInt8.ofNat n.val)).toNat : Nat) : Int) := by decide +kernel
  have := h ⟨c.toNat, c.toNat_lt⟩
  simpa using this

theorem bytesU_I (l : List UInt8) : bytesU (bytesI l) = l := by
  unfold bytesU bytesI
  rw [List.map_map]
  conv => rhs; rw [← List.map_id l]
  congr 1
  funext c
  simp

theorem lower_loop (k : Nat) (l : List UInt8) (hl : l.length ≤ 100000) : ∀ (n i : Nat), i ≤ l.length → l.length - i < n →
    color_lower.c7 k n ((bytesI l).length : Int) (i : Int) (bytesI ((l.take i).map lowB ++ l.drop i)) (fun y10 => some (bytesU y10)) = some (l.map lowB)
  | 0, i, _, h => by omega
  | n + 1, i, h1, h2 => by
    have hlen : (bytesI l).length = l.length := by simp [bytesI]
    rw [color_lower.c7]
    match hd : l.drop i with
    | [] =>
      have hi : i = l.length := by
        have := congrArg List.length hd
        simp at this; omega
      rw [cond_ndec (by omega)]
      subst hi
      simp [bytesU_I]
    | c :: r =>
      obtain ⟨g1, g2, g3⟩ := get_at l i c r hd
      have hll : (bytesI ((l.take i).map lowB ++ c :: r)).length = l.length := by
        have := congrArg List.length hd
        simp at this
        simp [bytesI]; omega
      have htl : ((l.take i).map lowB).length = i := by simp; omega
      have hg : (bytesI ((l.take i).map lowB ++ c :: r)).getD i 0 = ((c.toNat : Nat) : Int) := by
        rw [get_bytes _ i (by simp; omega), List.getD_eq_getElem?_getD, List.getElem?_append_right (by omega), htl]
        simp
      rw [cond_dec (by omega), cond_dec (by omega)]
      simp only [Int.toNat_natCast, hg]
      rw [wrap_i64 (n := (i : Int) + 1) (by omega) (by omega)]
      have hset : (bytesI ((l.take i).map lowB ++ c :: r)).set i (((lowB c).toNat : Nat) : Int) = bytesI ((l.take (i + 1)).map lowB ++ l.drop (i + 1)) := by
        rw [g3]
        unfold bytesI
        rw [List.map_append, List.set_append_right _ _ (by simp; omega)]
        have : i - (((l.take i).map lowB).map fun b => ((b.toNat : Nat) : Int)).length = 0 := by simp; omega
        rw [this]
        have ht : l.take (i + 1) = l.take i ++ [c] := by
          rw [List.take_add_one, List.getElem?_eq_getElem g1]
          rw [List.getD_eq_getElem?_getD, List.getElem?_eq_getElem g1] at g2
          simp at g2
          simp [g2]
        rw [ht]
        simp
      have hlow := lowB_eq c
      have ih := lower_loop k l hl n (i + 1) (by omega) (by omega)
      rw [show ((i + 1 : Nat) : Int) = (i : Int) + 1 by omega] at ih
      cases hb : (cond (decide (((c.toNat : Nat) : Int) ≥ 65)) (decide (((c.toNat : Nat) : Int) ≤ 90)) false) with
      | true =>
        rw [hb, cond_true] at hlow
        rw [cond_true, cond_dec (by omega), hlow, hset]
        exact ih
      | false =>
        rw [hb, cond_false] at hlow
        rw [cond_false]
        have hc : c = lowB c := UInt8.toNat_inj.1 (by omega)
        have e : bytesI ((l.take i).map lowB ++ c :: r) = bytesI ((l.take (i + 1)).map lowB ++ l.drop (i + 1)) := by
          rw [← hset, ← hlow, ← hg]
          apply List.ext_getElem
          · simp
          · intro j hj hj'
            rw [List.getElem_set]
            split
            · rename_i hij; subst hij
              rw [List.getD_eq_getElem?_getD, List.getElem?_eq_getElem hj]; rfl
            · rfl
        rw [e]
        exact ih

theorem lower_eq (k : Nat) (l : List UInt8) (hl : l.length ≤ 100000) (hk : l.length < k) : color_lower k l = some (l.map lowB) := by
  unfold color_lower
  have := lower_loop k l hl k 0 (by omega) (by omega)
  simpa using this

theorem dig_ok : ∀ x : Fin 16, Pu.hexOk (Fm.dig.getD x.val 0) = true ∧ Pu.hexD (Fm.dig.getD x.val 0) = x.val ∧ lowB (Fm.dig.getD x.val 0) = Fm.dig.getD x.val 0 := by decide +kernel

theorem hexL_eq (U : Nat) : Fm.hexL U = [Fm.dig.getD (Fm.dv U 8 % 16) 0, Fm.dig.getD (Fm.dv U 7 % 16) 0, Fm.dig.getD (Fm.dv U 6 % 16) 0, Fm.dig.getD (Fm.dv U 5 % 16) 0, Fm.dig.getD (Fm.dv U 4 % 16) 0, Fm.dig.getD (Fm.dv U 3 % 16) 0, Fm.dig.getD (Fm.dv U 2 % 16) 0, Fm.dig.getD (Fm.dv U 1 % 16) 0, Fm.dig.getD (Fm.dv U 0 % 16) 0] := by
  unfold Fm.hexL
  rw [show (List.range 9).reverse = [8, 7, 6, 5, 4, 3, 2, 1, 0] by decide]
  rfl

theorem hexV_hexL (U : Nat) (h1 : U < 8589934592) : Pu.hexV 0 (Fm.hexL U) = U := by
  have d : ∀ x, Pu.hexD (Fm.dig.getD (x % 16) 0) = x % 16 := fun x => (dig_ok ⟨x % 16, Nat.mod_lt _ (by decide)⟩).2.1
  rw [hexL_eq]
  simp only [Pu.hexV, d]
  have s0 : Fm.dv U 0 = U := by unfold Fm.dv; rw [Nat.pow_zero, Nat.div_one]
  have s1 := Fm.dv_succ U 0
  have s2 := Fm.dv_succ U 1
  have s3 := Fm.dv_succ U 2
  have s4 := Fm.dv_succ U 3
  have s5 := Fm.dv_succ U 4
  have s6 := Fm.dv_succ U 5
  have s7 := Fm.dv_succ U 6
  have s8 := Fm.dv_succ U 7
  have h8 : Fm.dv U 8 < 16 := by unfold Fm.dv; omega
  generalize Fm.dv U 8 = q8 at *
  generalize Fm.dv U 7 = q7 at *
  generalize Fm.dv U 6 = q6 at *
  generalize Fm.dv U 5 = q5 at *
  generalize Fm.dv U 4 = q4 at *
  generalize Fm.dv U 3 = q3 at *
  generalize Fm.dv U 2 = q2 at *
  generalize Fm.dv U 1 = q1 at *
  generalize Fm.dv U 0 = q0 at *
  have e8 : (0 * 16 + q8 % 16) = q8 := by omega
  rw [e8]
  have e7 : q8 * 16 + q7 % 16 = q7 := by omega
  rw [e7]
  have e6 : q7 * 16 + q6 % 16 = q6 := by omega
  rw [e6]
  have e5 : q6 * 16 + q5 % 16 = q5 := by omega
  rw [e5]
  have e4 : q5 * 16 + q4 % 16 = q4 := by omega
  rw [e4]
  have e3 : q4 * 16 + q3 % 16 = q3 := by omega
  rw [e3]
  have e2 : q3 * 16 + q2 % 16 = q2 := by omega
  rw [e2]
  have e1 : q2 * 16 + q1 % 16 = q1 := by omega
  rw [e1]
  omega

end Go.Ev.Cb
