/- The natives of the token laws, in plain words: cutting a text up, and TokenAll. No condition beyond those that each theorem names. -/
import Derived.Test.YtmiipooplgcelaaGreatDoorEvMdT
set_option linter.unusedVariables false
namespace Go.Ev.Md
open Go Go.Ev.Tok

def mk (t : Int × List UInt8 × List UInt8 × Int) : S55 := ⟨t.1, t.2.1, t.2.2.1, t.2.2.2⟩
def toks (s : List UInt8) : List S55 := (cutP s).map mk

theorem toks_len (s : List UInt8) : (toks s).length ≤ s.length := by
  unfold toks; rw [List.length_map]; exact cutP_len _ s (Nat.le_refl _)

theorem cut_loop (k : Nat) (K : List S55 → Option (List S55)) : ∀ (n : Nat) (s : List UInt8) (acc : List S55), s.length ≤ 100000 → s.length + 4 < k → s.length < n → acc.length + s.length ≤ 100000 →
    csstok_Cut.c5 k n s acc K = K (acc ++ toks s)
  | 0, s, acc, _, _, h, _ => by omega
  | n + 1, [], acc, _, _, _, _ => by
    unfold csstok_Cut.c5
    show K acc = K (acc ++ [])
    rw [List.append_nil]
  | n + 1, a :: r, acc, hs, hk, hn, ha => by
    have h1 := tok1_ok (a :: r) (by simp)
    generalize hsr : (a :: r) = s at *
    have hne : s ≠ [] := by subst hsr; simp
    unfold csstok_Cut.c5
    have e0 : (!(s == ([] : List UInt8))) = true := by subst hsr; rfl
    rw [e0, cond_true, first_eq k s hs hk hne]
    simp only [Option.bind_some]
    have hl : (tokO s (tok1 s)).2.1.length = (tok1 s).2.1 := by
      show (s.take (tok1 s).2.1).length = _
      rw [List.length_take]; omega
    rw [hl, cond_dec (by rw [List.length_append]; simp only [List.length_cons, List.length_nil, most]; omega), cond_dec (by omega)]
    have e3 : ((tok1 s).2.1 : Int).toNat = (tok1 s).2.1 := rfl
    rw [e3, cut_loop k K n _ _ (by rw [List.length_drop]; omega) (by rw [List.length_drop]; omega) (by rw [List.length_drop]; omega)
      (by rw [List.length_drop, List.length_append]; simp only [List.length_cons, List.length_nil]; omega)]
    have e4 : toks s = mk (tokO s (tok1 s)) :: toks (s.drop (tok1 s).2.1) := by
      unfold toks; rw [cutP_cons s hne]; rfl
    rw [e4, List.append_assoc]
    rfl

theorem Cut_eq (k : Nat) (s : List UInt8) (hs : s.length ≤ 100000) (hk : s.length + 4 < k) : csstok_Cut k s = some (toks s) := by
  unfold csstok_Cut
  rw [cut_loop k _ k s [] hs hk (by omega) (by simpa using hs)]
  rfl

end Go.Ev.Md
