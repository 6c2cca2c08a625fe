/- The natives of the token laws, in plain words: TokenAlone. No condition beyond those that each theorem names. -/
import Derived.Test.YtafbhggbkhckaaaDoorEvTkB
import Derived.Test.YtafbhggbkhckaaaDoorEvTkT
set_option linter.unusedVariables false
namespace Go.Ev.Tk
open Go Go.Ev.Tok

theorem same_loop (k : Nat) (l : List S28) (hl : l.length ≤ 100000) (K : Option Bool) : ∀ (n i : Nat), i ≤ l.length → l.length - i < n →
    clerestorykeep2_sameTokens.c9 k n l l (i : Int) K = K
  | 0, i, _, h => by omega
  | n + 1, i, hi, h => by
    unfold clerestorykeep2_sameTokens.c9
    by_cases hlt : i < l.length
    · have w : IntKind.wrap .i64 ((i : Int) + 1) = ((i + 1 : Nat) : Int) := by rw [wrap_i64 (by omega) (by omega)]; omega
      simp only [beq_self_eq_true, Bool.and_true, Bool.not_true, w]
      rw [cond_dec (by omega), cond_dec (by omega), cond_dec (by omega), cond_false]
      exact same_loop k l hl K n (i + 1) (by omega) (by omega)
    · rw [cond_ndec (by omega)]

theorem same_eq (k : Nat) (l : List S28) (hl : l.length ≤ 100000) (hk : l.length < k) : clerestorykeep2_sameTokens k l l = some true := by
  unfold clerestorykeep2_sameTokens
  have : ((l.length : Int) != (l.length : Int)) = false := by simp
  simp only [this, cond_false]
  exact same_loop k l hl _ k 0 (by omega) (by omega)

theorem toks_alone (s : List UInt8) (t : S28) (ht : t ∈ toks s) : toks t.Raw = [t] := by
  unfold toks at ht ⊢
  obtain ⟨u, hu, rfl⟩ := List.mem_map.1 ht
  have := cutP_alone _ s (Nat.le_refl _) u hu
  show (cutP u.2.1).map mk = _
  rw [this]
  rfl

theorem toks_rawlen (s : List UInt8) (t : S28) (ht : t ∈ toks s) : t.Raw.length ≤ s.length := by
  have h := raws_toks s
  have : t.Raw.Sublist (raws (toks s)) := List.sublist_flatten_of_mem (List.mem_map_of_mem ht)
  rw [h] at this
  exact this.length_le

theorem alone_loop (k : Nat) (hk : 4000 ≤ k) (x : List UInt8) (hx : x.length ≤ 3000) (b : Bool) (K : Bool → Option Bool) : ∀ (n i : Nat), i ≤ (toks x).length → (toks x).length - i < n →
    clerestorykeep2_TokenAlone.c9 k n b (i : Int) (toks x) K = K b
  | 0, i, _, h => by omega
  | n + 1, i, hi, h => by
    have hl := toks_len x
    unfold clerestorykeep2_TokenAlone.c9
    by_cases hlt : i < (toks x).length
    · have w : IntKind.wrap .i64 ((i : Int) + 1) = ((i + 1 : Nat) : Int) := by rw [wrap_i64 (by omega) (by omega)]; omega
      have hg : (toks x).getD ((i : Int).toNat) S28.d = (toks x)[i] := by
        show (toks x).getD i S28.d = (toks x)[i]
        rw [List.getD_eq_getElem?_getD, List.getElem?_eq_getElem hlt, Option.getD_some]
      have hm : (toks x)[i] ∈ toks x := List.getElem_mem hlt
      have hr := toks_rawlen x _ hm
      have hd : ((toks x).drop (0 + (i : Int).toNat)).take ((((i + 1 : Nat) : Int)).toNat - (i : Int).toNat) = [(toks x)[i]] := by
        have e1 : 0 + (i : Int).toNat = i := by omega
        have e2 : (((i + 1 : Nat) : Int)).toNat - (i : Int).toNat = 1 := by omega
        rw [e1, e2, List.drop_eq_getElem_cons hlt]
        rfl
      simp only [w]
      rw [cond_dec (by omega), cond_dec (by omega), hg, Cut_eq k _ (by omega) (by omega), toks_alone x _ hm]
      simp only [Option.bind_some]
      rw [cond_dec (by omega), hd, same_eq k _ (by simp) (by simp; omega)]
      simp only [Option.bind_some, Bool.not_true, cond_false]
      exact alone_loop k hk x hx b K n (i + 1) (by omega) (by omega)
    · rw [cond_ndec (by omega)]

/-- TokenAlone, in plain words: it says yes to every text. -/
theorem alone_law (k : Nat) (s : List UInt8) (hk : 4000 ≤ k) : clerestorykeep2_TokenAlone k s = some true := by
  unfold clerestorykeep2_TokenAlone
  rw [fact_eq k (by omega), show (400 : Int) = ((400 : Nat) : Int) from rfl, short_eq]
  simp only [Option.bind_some]
  have hs : (s.take 400).length ≤ 400 := by rw [List.length_take]; omega
  generalize s.take 400 = x at *
  have hl := toks_len x
  rw [Cut_eq k x (by omega) (by omega)]
  simp only [Option.bind_some]
  have := alone_loop k hk x (by omega) true (fun (y13 : Bool) => some y13) k 0 (by omega) (by omega)
  rw [show ((0 : Nat) : Int) = (0 : Int) from rfl] at this
  rw [this]

theorem alone_ex (s : List UInt8) : ∃ k, clerestorykeep2_TokenAlone k s = some true := ⟨4000, alone_law 4000 s (Nat.le_refl _)⟩

end Go.Ev.Tk
