/- The natives of the token laws, in plain words: cutting a text up, and TokenAll. No condition beyond those that each theorem names. -/
import Derived.Test.YtafbhggbkhckaaaDoorEvTkA
set_option linter.unusedVariables false
namespace Go.Ev.Tk
open Go Go.Ev.Tok

def mk (t : Int × List UInt8 × List UInt8 × Int) : S28 := ⟨t.1, t.2.1, t.2.2.1, t.2.2.2⟩
def toks (s : List UInt8) : List S28 := (cutP s).map mk

theorem toks_len (s : List UInt8) : (toks s).length ≤ s.length := by
  unfold toks; rw [List.length_map]; exact cutP_len _ s (Nat.le_refl _)

theorem cut_loop (k : Nat) (K : List S28 → Option (List S28)) : ∀ (n : Nat) (s : List UInt8) (acc : List S28), s.length ≤ 100000 → s.length + 4 < k → s.length < n → acc.length + s.length ≤ 100000 →
    csstok_Cut.c5 k n s acc K = K (acc ++ toks s)
  | 0, s, acc, _, _, h, _ => by omega
  | n + 1, [], acc, _, _, _, _ => by
    unfold csstok_Cut.c5
    show K acc = K (acc ++ [])
    rw [List.append_nil]
  | n + 1, a :: r, acc, hs, hk, hn, ha => by
    have h1 := tok1_ok (a :: r) (by simp)
    generalize hsr : (a :: r) = s at *
    have hne : s ≠ [] := by subst hsr; simp
    unfold csstok_Cut.c5
    have e0 : (!(s == ([] : List UInt8))) = true := by subst hsr; rfl
    rw [e0, cond_true, first_eq k s hs hk hne]
    simp only [Option.bind_some]
    have hl : (tokO s (tok1 s)).2.1.length = (tok1 s).2.1 := by
      show (s.take (tok1 s).2.1).length = _
      rw [List.length_take]; omega
    rw [hl, cond_dec (by rw [List.length_append]; simp only [List.length_cons, List.length_nil, most]; omega), cond_dec (by omega)]
    have e3 : ((tok1 s).2.1 : Int).toNat = (tok1 s).2.1 := rfl
    rw [e3, cut_loop k K n _ _ (by rw [List.length_drop]; omega) (by rw [List.length_drop]; omega) (by rw [List.length_drop]; omega)
      (by rw [List.length_drop, List.length_append]; simp only [List.length_cons, List.length_nil]; omega)]
    have e4 : toks s = mk (tokO s (tok1 s)) :: toks (s.drop (tok1 s).2.1) := by
      unfold toks; rw [cutP_cons s hne]; rfl
    rw [e4, List.append_assoc]
    rfl

theorem Cut_eq (k : Nat) (s : List UInt8) (hs : s.length ≤ 100000) (hk : s.length + 4 < k) : csstok_Cut k s = some (toks s) := by
  unfold csstok_Cut
  rw [cut_loop k _ k s [] hs hk (by omega) (by simpa using hs)]
  rfl

theorem fact_toks : toks [97, 58, 49, 112, 120] = [⟨1, [97], [97], 0⟩, ⟨12, [58], [], 0⟩, ⟨7, [49, 112, 120], [112, 120], 1000⟩] := by kernel_rfl

theorem fact_eq (k : Nat) (hk : 10 ≤ k) : clerestorykeep2_cutFact k = some true := by
  unfold clerestorykeep2_cutFact
  rw [Cut_eq k _ (by decide) (by simp only [List.length_cons, List.length_nil]; omega), fact_toks]
  rfl

theorem short_eq (k : Nat) (s : List UInt8) (n : Nat) : clerestorykeep2_short k s (n : Int) = some (s.take n) := by
  unfold clerestorykeep2_short
  have h : (if (n : Int) < (s.length : Int) then (n : Int) else (s.length : Int)) = ((min n s.length : Nat) : Int) := by split <;> omega
  simp only [h]
  rw [cond_dec (by omega)]
  have e : ((min n s.length : Nat) : Int).toNat = min n s.length := rfl
  rw [e]
  congr 1
  rw [List.take_eq_take_iff]
  omega

theorem all_loop (k : Nat) (x : List UInt8) (b : Bool) (l : List S28) (hl : l.length ≤ 100000) (hr : ∀ t ∈ l, t.Raw ≠ []) (K : List UInt8 → Bool → List S28 → Option Bool) :
    ∀ (n i : Nat), i ≤ l.length → l.length - i < n → clerestorykeep2_TokenAll.c11 k n x b (i : Int) l K = K x b l
  | 0, i, _, h => by omega
  | n + 1, i, hi, h => by
    unfold clerestorykeep2_TokenAll.c11
    by_cases hlt : i < l.length
    · have hm : l.getD ((i : Int).toNat) S28.d ∈ l := by
        show l.getD i S28.d ∈ l
        rw [List.getD_eq_getElem?_getD, List.getElem?_eq_getElem hlt, Option.getD_some]
        exact List.getElem_mem hlt
      have hne : ((l.getD ((i : Int).toNat) S28.d).Raw == ([] : List UInt8)) = false := by
        rw [beq_eq_false_iff_ne]; exact hr _ hm
      have w : IntKind.wrap .i64 ((i : Int) + 1) = ((i + 1 : Nat) : Int) := by rw [wrap_i64 (by omega) (by omega)]; omega
      simp only [hne, w]
      rw [cond_dec (by omega), cond_dec (by omega), cond_false]
      exact all_loop k x b l hl hr K n (i + 1) (by omega) (by omega)
    · rw [cond_ndec (by omega)]

def raws (l : List S28) : List UInt8 := (l.map S28.Raw).flatten

theorem text_join (k : Nat) (l : List S28) (hl : l.length ≤ 100000) (hb : (raws l).length ≤ 100000) (K : List UInt8 → Option (List UInt8)) :
    ∀ (n i : Nat) (acc : List UInt8), i ≤ l.length → l.length - i < n → acc ++ raws (l.drop i) = raws l →
    csstok_Text.c7 k n l (l.length : Int) (i : Int) acc K = K (raws l)
  | 0, i, acc, _, h, _ => by omega
  | n + 1, i, acc, hi, h, he => by
    unfold csstok_Text.c7
    by_cases hlt : i < l.length
    · have w : IntKind.wrap .i64 ((i : Int) + 1) = ((i + 1 : Nat) : Int) := by rw [wrap_i64 (by omega) (by omega)]; omega
      have hg : l.getD ((i : Int).toNat) S28.d = l[i] := by
        show l.getD i S28.d = l[i]
        rw [List.getD_eq_getElem?_getD, List.getElem?_eq_getElem hlt, Option.getD_some]
      have hd : raws (l.drop i) = l[i].Raw ++ raws (l.drop (i + 1)) := by
        rw [List.drop_eq_getElem_cons hlt]; rfl
      have hlen := congrArg List.length he
      rw [hd] at he hlen
      simp only [List.length_append] at hlen
      rw [cond_dec (by omega), cond_dec (by omega), hg]
      unfold f__strings_Builder__WriteString
      rw [wStr_ok acc _ (by unfold blMax; omega)]
      simp only [Option.map_some, Option.bind_some, w]
      exact text_join k l hl hb K n (i + 1) _ (by omega) (by omega) (by rw [List.append_assoc]; exact he)
    · rw [cond_ndec (by omega)]
      have : l.drop i = [] := List.drop_eq_nil_iff.2 (by omega)
      rw [this] at he
      have : acc = raws l := by rw [← he]; exact (List.append_nil acc).symm
      rw [this]

theorem Text_eq (k : Nat) (l : List S28) (hl : l.length ≤ 100000) (hb : (raws l).length ≤ 100000) (hk : l.length < k) : csstok_Text k l = some (raws l) := by
  unfold csstok_Text
  have := text_join k l hl hb (fun (y8 : List UInt8) => (f__strings_Builder__String k y8).bind fun r9 => some r9.1) k 0 [] (by omega) (by omega) rfl
  rw [show ((0 : Nat) : Int) = (0 : Int) from rfl] at this
  rw [this]
  rfl

theorem raws_toks (s : List UInt8) : raws (toks s) = s := by
  have h := (cutP_raw _ s (Nat.le_refl _)).1
  unfold raws toks
  rw [List.map_map]
  exact h

theorem toks_raw (s : List UInt8) : ∀ t ∈ toks s, t.Raw ≠ [] := by
  intro t ht
  unfold toks at ht
  obtain ⟨u, hu, rfl⟩ := List.mem_map.1 ht
  exact (cutP_raw _ s (Nat.le_refl _)).2 u hu

/-- TokenAll, in plain words: it says yes to every text. -/
theorem all_law (k : Nat) (s : List UInt8) (hk : 3010 ≤ k) : clerestorykeep2_TokenAll k s = some true := by
  unfold clerestorykeep2_TokenAll
  rw [fact_eq k (by omega), show (3000 : Int) = ((3000 : Nat) : Int) from rfl, short_eq]
  simp only [Option.bind_some]
  have hs : (s.take 3000).length ≤ 3000 := by rw [List.length_take]; omega
  generalize s.take 3000 = x at *
  have hl := toks_len x
  rw [Cut_eq k x (by omega) (by omega)]
  simp only [Option.bind_some]
  have hr := raws_toks x
  have := all_loop k x true (toks x) (by omega) (toks_raw x) (fun (y12 : List UInt8) (y13 : Bool) (y14 : List S28) => (cond y13 (csstok_Text k y14) (some [])).bind fun r15 => some (cond y13 (r15 == y12) false)) k 0 (by omega) (by omega)
  rw [show ((0 : Nat) : Int) = (0 : Int) from rfl] at this
  rw [this]
  simp only [cond_true]
  rw [Text_eq k (toks x) (by omega) (by rw [hr]; omega) (by omega), hr]
  simp

theorem all_ex (s : List UInt8) : ∃ k, clerestorykeep2_TokenAll k s = some true := ⟨4000, all_law 4000 s (by omega)⟩

end Go.Ev.Tk
