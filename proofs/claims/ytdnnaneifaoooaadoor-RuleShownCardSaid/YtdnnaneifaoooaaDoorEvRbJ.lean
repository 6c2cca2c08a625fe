/- The natives that show rules and hold them against each other, in plain words. No condition beyond those that each theorem names. -/
import Derived.Test.YtdnnaneifaoooaaDoorEvRbI
set_option linter.unusedVariables false
set_option linter.unusedSimpArgs false
namespace Go.Ev.Rb
open Go Go.Ev.Tok

theorem ws_eq (k : Nat) (a acc : List UInt8) (h : acc.length + a.length ≤ 1000000000) : f__strings_Builder__WriteString k a acc = some ((a.length : Int), acc ++ a) := by
  unfold f__strings_Builder__WriteString wStr
  rw [cond_dec (by unfold blMax; omega)]
  rfl

theorem wb_eq (k : Nat) (acc : List UInt8) (h : acc.length + 1 ≤ 1000000000) : f__strings_Builder__WriteByte k (32 : Int) acc = some (acc ++ [32]) :=
  wByte_ok acc 32 (by unfold blMax; omega)

def prR (m : Bool) (h : List UInt8) (ds : List Dc) : List UInt8 := (bif m then atM else []) ++ (h ++ ((bif h.isEmpty then [] else [32]) ++ 123 :: 10 :: (ds.map dsh).flatten))

mutual
/-- What is shown behind what is there, up to where it is too long. -/
def shF : Rl → List UInt8 → List UInt8
  | .mk m h ds rs, acc => shsF rs (acc ++ prR m h ds) ++ [125, 10]
def shsF : List Rl → List UInt8 → List UInt8
  | [], acc => acc
  | r :: l, acc => bif decide (3000 < acc.length) then acc else shsF l (shF r acc)
end

theorem sh_pr (m : Bool) (h : List UInt8) (ds : List Dc) (rs : List Rl) : (Rl.mk m h ds rs).sh = prR m h ds ++ (shw rs ++ [125, 10]) := by
  rw [Rl.sh, prR]; simp

mutual
theorem shF_ok : ∀ (r : Rl) (acc : List UInt8), acc.length ≤ (shF r acc).length ∧ (shF r acc).length ≤ acc.length + r.sh.length ∧ ((shF r acc).length ≤ 3000 → shF r acc = acc ++ r.sh)
  | .mk m h ds rs, acc => by
    obtain ⟨h1, h2, h3⟩ := shsF_ok rs (acc ++ prR m h ds)
    rw [shF, sh_pr]
    simp only [List.length_append, List.length_cons, List.length_nil] at h1 h2 h3 ⊢
    refine ⟨by omega, by omega, fun hl => ?_⟩
    rw [h3 (by omega)]; simp
theorem shsF_ok : ∀ (l : List Rl) (acc : List UInt8), acc.length ≤ (shsF l acc).length ∧ (shsF l acc).length ≤ acc.length + (shw l).length ∧ ((shsF l acc).length ≤ 3000 → shsF l acc = acc ++ shw l)
  | [], acc => by simp [shsF, shw]
  | r :: l, acc => by
    obtain ⟨h1, h2, h3⟩ := shF_ok r acc
    obtain ⟨g1, g2, g3⟩ := shsF_ok l (shF r acc)
    rw [shsF, shw]
    by_cases hb : 3000 < acc.length
    · rw [decide_eq_true hb, cond_true]
      refine ⟨by omega, by omega, fun hl => by omega⟩
    · rw [decide_eq_false hb, cond_false]
      simp only [List.length_append]
      refine ⟨by omega, by omega, fun hl => ?_⟩
      rw [g3 hl, h3 (by omega)]; simp
end

theorem decl_loop (k : Nat) (r : cssrule_show.G.R) (X : List S38) (y z : Int) (ds : List Dc) (hl : ds.length ≤ 100000) (b : Bool) (h : List UInt8) (D : List S66) (S : List S38)
    (K : List S38 → Int → Int → List UInt8 → Bool → List UInt8 → List S66 → List S38 → Option (List UInt8)) : ∀ (n i : Nat) (acc : List UInt8), i ≤ ds.length → ds.length - i < n → acc.length + ((ds.drop i).map dsh).flatten.length ≤ 100000000 →
    cssrule_show.c23 k r n X y z (ds.map md) (ds.length : Int) (i : Int) acc b h D S K = K X y z (acc ++ ((ds.drop i).map dsh).flatten) b h D S
  | 0, i, acc, _, h, _ => by omega
  | n + 1, i, acc, hi, hn, ha => by
    unfold cssrule_show.c23
    simp only [List.length_map]
    match hd : ds.drop i with
    | [] =>
      have hi2 : i = ds.length := by
        have := congrArg List.length hd
        simp at this; omega
      rw [cond_ndec (by omega)]
      simp
    | x :: q =>
      obtain ⟨h1, h2, h3⟩ := atd ds i x q hd
      rw [hd, List.map_cons, List.flatten_cons, List.length_append] at ha
      have w1 : IntKind.wrap .i64 ((i : Int) + 1) = ((i + 1 : Nat) : Int) := by rw [wrap_i64 (by omega) (by omega)]; omega
      have hx : (dsh x).length = x.1.length + (x.2.1.length + (bif x.2.2 then 32 :: 33 :: word else []).length) + 4 := by
        unfold dsh; simp only [List.length_append, List.length_cons, List.length_nil]; omega
      have b1 : Nat.ble (x.1.length + ([58, 32] : List UInt8).length) 9223372036854775807 = true := by rw [Nat.ble_eq]; simp only [List.length_cons, List.length_nil]; omega
      have b2 : Nat.ble ((x.1 ++ [58, 32]).length + x.2.1.length) 9223372036854775807 = true := by rw [Nat.ble_eq]; simp only [List.length_append, List.length_cons, List.length_nil]; omega
      rw [cond_dec (by omega), cond_dec (by omega)]
      simp only [Int.toNat_natCast, h2, w1]
      rw [show (md x).Name = x.1 from rfl, show (md x).Value = x.2.1 from rfl, show (md x).Important = x.2.2 from rfl, b1, cond_true, b2, cond_true]
      rw [ws_eq k _ _ (by simp only [List.length_append, List.length_cons, List.length_nil]; omega)]
      simp only [Option.bind_some]
      cases hip : x.2.2 with
      | true =>
        rw [hip] at hx
        simp only [cond_true, word, List.length_cons, List.length_nil] at hx ⊢
        rw [ws_eq k _ _ (by simp only [List.length_append, List.length_cons, List.length_nil]; omega)]
        simp only [Option.bind_some]
        rw [ws_eq k _ _ (by simp only [List.length_append, List.length_cons, List.length_nil]; omega)]
        simp only [Option.bind_some]
        have e : acc ++ (x.1 ++ [58, 32] ++ x.2.1) ++ [32, 33, 105, 109, 112, 111, 114, 116, 97, 110, 116] ++ [59, 10] = acc ++ dsh x := by simp [dsh, hip, word]
        rw [e, decl_loop k r X y z ds hl b h D S K n (i + 1) (acc ++ dsh x) (by omega) (by omega) (by rw [h3, List.length_append]; omega), h3]
        simp
      | false =>
        rw [hip] at hx
        simp only [cond_false, List.length_nil] at hx ⊢
        rw [ws_eq k _ _ (by simp only [List.length_append, List.length_cons, List.length_nil]; omega)]
        simp only [Option.bind_some]
        have e : acc ++ (x.1 ++ [58, 32] ++ x.2.1) ++ [59, 10] = acc ++ dsh x := by simp [dsh, hip]
        rw [e, decl_loop k r X y z ds hl b h D S K n (i + 1) (acc ++ dsh x) (by omega) (by omega) (by rw [h3, List.length_append]; omega), h3]
        simp

theorem show18 (k : Nat) (hk : 100010 < k) (r : cssrule_show.G.R) (X : List S38) (y z : Int) (acc : List UInt8) (b : Bool) (h : List UInt8) (ds : List Dc) (rs : List Rl) (hl : ds.length ≤ 100000)
    (ha : acc.length + (2 + (ds.map dsh).flatten.length + (shw rs).length + 2) ≤ 100000000) (hr : ∀ acc : List UInt8, acc.length + (shw rs).length ≤ 100000000 → r.cssrule_show (mrs rs) acc = some (shsF rs acc))
    (K : List S38 → Int → Int → List UInt8 → Option (List UInt8)) : cssrule_show.c18 k r X y z acc b h (ds.map md) (mrs rs) K = K X y z (shsF rs (acc ++ 123 :: 10 :: (ds.map dsh).flatten) ++ [125, 10]) := by
  unfold cssrule_show.c18
  rw [ws_eq k _ _ (by simp only [List.length_cons, List.length_nil]; omega)]
  simp only [Option.bind_some, List.length_map]
  rw [show ((0 : Int)) = ((0 : Nat) : Int) from rfl, decl_loop k r X y z ds hl b h (ds.map md) (mrs rs) _ k 0 _ (by omega) (by omega) (by rw [List.drop_zero, List.length_append]; simp only [List.length_cons, List.length_nil]; omega), List.drop_zero]
  have e : acc ++ [123, 10] ++ (ds.map dsh).flatten = acc ++ 123 :: 10 :: (ds.map dsh).flatten := by simp
  simp only [e]
  rw [hr _ (by simp only [List.length_append, List.length_cons]; omega)]
  simp only [Option.bind_some]
  obtain ⟨s1, s2, s3⟩ := shsF_ok rs (acc ++ 123 :: 10 :: (ds.map dsh).flatten)
  rw [ws_eq k _ _ (by simp only [List.length_append, List.length_cons, List.length_nil] at s2 ⊢; omega)]
  rfl

theorem show12 (k : Nat) (hk : 100010 < k) (r : cssrule_show.G.R) (X : List S38) (y z : Int) (acc : List UInt8) (b : Bool) (h : List UInt8) (ds : List Dc) (rs : List Rl) (hl : ds.length ≤ 100000)
    (ha : acc.length + (h.length + (bif h.isEmpty then [] else [(32 : UInt8)]).length + 2 + (ds.map dsh).flatten.length + (shw rs).length + 2) ≤ 100000000) (hr : ∀ acc : List UInt8, acc.length + (shw rs).length ≤ 100000000 → r.cssrule_show (mrs rs) acc = some (shsF rs acc))
    (K : List S38 → Int → Int → List UInt8 → Option (List UInt8)) : cssrule_show.c12 k r X y z acc b h (ds.map md) (mrs rs) K = K X y z (shsF rs (acc ++ (h ++ ((bif h.isEmpty then [] else [32]) ++ 123 :: 10 :: (ds.map dsh).flatten))) ++ [125, 10]) := by
  unfold cssrule_show.c12
  rw [ws_eq k _ _ (by omega)]
  simp only [Option.bind_some]
  rw [isE h]
  cases he : h.isEmpty with
  | true =>
    rw [he] at ha
    simp only [cond_true, List.length_nil] at ha
    simp only [Bool.not_true, cond_false, cond_true]
    rw [show18 k hk r X y z (acc ++ h) b h ds rs hl (by rw [List.length_append]; omega) hr]
    simp
  | false =>
    rw [he] at ha
    simp only [cond_false, List.length_cons, List.length_nil] at ha
    simp only [Bool.not_false, cond_true, cond_false]
    rw [wb_eq k _ (by rw [List.length_append]; omega)]
    simp only [Option.bind_some]
    rw [show18 k hk r X y z _ b h ds rs hl (by simp only [List.length_append, List.length_cons, List.length_nil]; omega) hr]
    simp

theorem shw_drop (L : List Rl) : ∀ i : Nat, (shw (L.drop i)).length ≤ (shw L).length := by
  have happ : ∀ a b : List Rl, shw (a ++ b) = shw a ++ shw b := by
    intro a b
    induction a with
    | nil => rfl
    | cons r a ih => rw [List.cons_append, shw, shw, ih]; simp
  intro i
  have := happ (L.take i) (L.drop i)
  rw [List.take_append_drop] at this
  rw [this, List.length_append]; omega

theorem shw_mem {L : List Rl} {r : Rl} (h : r ∈ L) : r.sh.length ≤ (shw L).length := by
  induction L with
  | nil => cases h
  | cons a l ih =>
    rw [shw, List.length_append]
    rcases List.mem_cons.1 h with e | e
    · rw [e]; omega
    · have := ih e; omega

theorem lngs_mem {L : List Rl} (hl : lngs L = false) {m : Bool} {h : List UInt8} {ds : List Dc} {rs : List Rl} (hm : Rl.mk m h ds rs ∈ L) : lngs rs = false ∧ ds.length ≤ 30 := by
  induction L with
  | nil => cases hm
  | cons a l ih =>
    rw [lngs, Bool.or_eq_false_iff] at hl
    rcases List.mem_cons.1 hm with e | e
    · rw [← e, lngR, Bool.or_eq_false_iff] at hl
      refine ⟨hl.1.1, ?_⟩
      have := hl.1.2
      rw [decide_eq_false_iff_not] at this
      omega
    · exact ih hl.2 e

theorem cnts_mem {L : List Rl} {m : Bool} {h : List UInt8} {ds : List Dc} {rs : List Rl} (hm : Rl.mk m h ds rs ∈ L) : cnts rs < cnts L := by
  obtain ⟨a, b, e⟩ := List.append_of_mem hm
  rw [e, cnts_app, cnts, cntR]; omega

theorem show_loop (k : Nat) (hk : 100010 < k) (r : cssrule_show.G.R) (L : List Rl) (hc : cnts L ≤ 100000) (hl : lngs L = false)
    (hr : ∀ m h ds rs, Rl.mk m h ds rs ∈ L → ∀ acc : List UInt8, acc.length + (shw rs).length ≤ 100000000 → r.cssrule_show (mrs rs) acc = some (shsF rs acc))
    (K : List UInt8 → Option (List UInt8)) (hK : ∀ x, K x = some x) : ∀ (n i : Nat) (acc : List UInt8), i ≤ L.length → L.length - i < n → acc.length + (shw (L.drop i)).length ≤ 100000000 →
    cssrule_show.c3 k r n (mrs L) (L.length : Int) (i : Int) acc K = some (shsF (L.drop i) acc)
  | 0, i, acc, _, h, _ => by omega
  | n + 1, i, acc, hi, hn, ha => by
    have hlen := len_cnts L
    unfold cssrule_show.c3
    match hd : L.drop i with
    | [] =>
      have hi2 : i = L.length := by
        have := congrArg List.length hd
        simp at this; omega
      rw [cond_ndec (by omega), hK, shsF]
    | .mk m h ds rs :: q =>
      obtain ⟨h1, h2, h3⟩ := atr L i _ q hd
      have w1 : IntKind.wrap .i64 ((i : Int) + 1) = ((i + 1 : Nat) : Int) := by rw [wrap_i64 (by omega) (by omega)]; omega
      have hmem : Rl.mk m h ds rs ∈ L := List.mem_of_mem_drop (by rw [hd]; simp)
      obtain ⟨l1, l2⟩ := lngs_mem hl hmem
      rw [hd, shw, List.length_append, sh_pr, prR] at ha
      simp only [List.length_append, List.length_cons, List.length_nil] at ha
      rw [cond_dec (by omega), cond_dec (by rw [mrs_len]; omega), shsF]
      show ((some ((acc.length : Int), acc)).bind _) = _
      simp only [Option.bind_some, Int.toNat_natCast, h2, mr]
      by_cases hb : 3000 < acc.length
      · rw [decide_eq_true (show ((acc.length : Int) > 3000) by omega), decide_eq_true hb]
        rfl
      · rw [decide_eq_false (show ¬ ((acc.length : Int) > 3000) by omega), decide_eq_false hb]
        simp only [cond_false]
        have hb2 : (bif h.isEmpty then [] else [(32 : UInt8)]).length ≤ 1 := by cases h.isEmpty <;> simp
        have fin : ∀ acc' : List UInt8, acc' = shF (Rl.mk m h ds rs) acc → cssrule_show.c3 k r n (mrs L) (L.length : Int) ((i + 1 : Nat) : Int) acc' K = some (shsF q (shF (Rl.mk m h ds rs) acc)) := by
          intro acc' e
          obtain ⟨s1, s2, s3⟩ := shF_ok (Rl.mk m h ds rs) acc
          rw [sh_pr, prR] at s2
          simp only [List.length_append, List.length_cons, List.length_nil] at s2
          rw [e]
          have := show_loop k hk r L hc hl hr K hK n (i + 1) (shF (Rl.mk m h ds rs) acc) (by omega) (by omega) (by rw [h3]; omega)
          rw [h3] at this
          exact this
        cases m with
        | true =>
          simp only [cond_true] at ha ⊢
          have hat : atM.length = 7 := rfl
          rw [hat] at ha
          rw [ws_eq k _ _ (by simp only [List.length_cons, List.length_nil]; omega)]
          simp only [Option.bind_some]
          rw [show12 k hk r _ _ _ _ true h ds rs (by omega) (by simp only [List.length_append, List.length_cons, List.length_nil]; omega) (hr _ _ _ _ hmem)]
          simp only [w1]
          refine fin _ ?_
          rw [shF, prR]; simp [atM]
        | false =>
          simp only [cond_false, List.length_nil] at ha ⊢
          rw [show12 k hk r _ _ _ _ false h ds rs (by omega) (by omega) (hr _ _ _ _ hmem)]
          simp only [w1]
          refine fin _ ?_
          rw [shF, prR]; simp

theorem show_rec (k : Nat) (hk : 100010 < k) : ∀ (m : Nat) (L : List Rl), cnts L ≤ 100000 → lngs L = false → cnts L < m → ∀ acc : List UInt8, acc.length + (shw L).length ≤ 100000000 → (cssrule_show.G.rec k m).cssrule_show (mrs L) acc = some (shsF L acc)
  | 0, L, _, _, h, _, _ => by omega
  | m + 1, L, hc, hl, h, acc, ha => by
    show cssrule_show.nat k (cssrule_show.G.rec k m) (mrs L) acc = _
    unfold cssrule_show.nat
    have hlen := len_cnts L
    have := show_loop k hk (cssrule_show.G.rec k m) L hc hl (fun mm hh ds rs hm acc' ha' => show_rec k hk m rs (by have := cnts_mem hm; omega) (lngs_mem hl hm).1 (by have := cnts_mem hm; omega) acc' ha')
      (fun (y77 : List UInt8) => some y77) (fun _ => rfl) k 0 acc (by omega) (by omega) (by rw [List.drop_zero]; exact ha)
    rw [List.drop_zero] at this
    rw [mrs_len]
    exact this

/-! Rules are the same as themselves. -/

theorem sdecl_loop (k : Nat) (l : List S66) (hl : l.length ≤ 100000) (K : Option Bool) : ∀ (n i : Nat), i ≤ l.length → l.length - i < n → api_SDecl_.c9 k n l l (l.length : Int) (i : Int) K = K
  | 0, i, _, h => by omega
  | n + 1, i, hi, hn => by
    unfold api_SDecl_.c9
    rcases Nat.lt_or_ge i l.length with h | h
    · have w1 : IntKind.wrap .i64 ((i : Int) + 1) = ((i + 1 : Nat) : Int) := by rw [wrap_i64 (by omega) (by omega)]; omega
      rw [cond_dec (by omega), cond_dec (by omega), cond_dec (by omega)]
      simp only [Int.toNat_natCast, beq_self_eq_true, Bool.and_self, Bool.not_true, cond_false, w1]
      exact sdecl_loop k l hl K n (i + 1) (by omega) (by omega)
    · rw [cond_ndec (by omega)]

theorem sdecl_eq (k : Nat) (hk : 100010 < k) (l : List S66) (hl : l.length ≤ 100000) : api_SDecl_ k l l = some true := by
  unfold api_SDecl_
  have : ((l.length : Int) != (l.length : Int)) = false := by simp
  simp only [this, cond_false]
  exact sdecl_loop k l hl _ k 0 (by omega) (by omega)

theorem srule_loop (k : Nat) (r : cssrule_same.G.R) (L : List Rl) (hL : L.length ≤ 100000) (hr : ∀ m h ds rs, Rl.mk m h ds rs ∈ L → r.cssrule_same_1 m h (ds.map md) (mrs rs) m h (ds.map md) (mrs rs) = some true) (K : Option Bool) :
    ∀ (n i : Nat), i ≤ L.length → L.length - i < n → api_SRule_.c9 k r n (mrs L) (mrs L) (L.length : Int) (i : Int) K = K
  | 0, i, _, h => by omega
  | n + 1, i, hi, hn => by
    unfold api_SRule_.c9
    match hd : L.drop i with
    | [] =>
      have hi2 : i = L.length := by
        have := congrArg List.length hd
        simp at this; omega
      rw [cond_ndec (by omega)]
    | .mk m h ds rs :: q =>
      obtain ⟨h1, h2, h3⟩ := atr L i _ q hd
      have w1 : IntKind.wrap .i64 ((i : Int) + 1) = ((i + 1 : Nat) : Int) := by rw [wrap_i64 (by omega) (by omega)]; omega
      have hmem : Rl.mk m h ds rs ∈ L := List.mem_of_mem_drop (by rw [hd]; simp)
      rw [cond_dec (by omega), cond_dec (by rw [mrs_len]; omega), cond_dec (by rw [mrs_len]; omega)]
      simp only [Int.toNat_natCast, h2, mr, w1]
      rw [hr _ _ _ _ hmem]
      simp only [Option.bind_some, Bool.not_true, cond_false]
      exact srule_loop k r L hL hr K n (i + 1) (by omega) (by omega)

theorem same_rec (k : Nat) (hk : 100010 < k) : ∀ (m : Nat) (L : List Rl), cnts L ≤ 100000 → lngs L = false → 3 * cnts L + 3 ≤ m → (cssrule_same.G.rec k m).cssrule_same (mrs L) (mrs L) = some true
  | 0, L, _, _, h => by omega
  | 1, L, _, _, h => by omega
  | 2, L, _, _, h => by omega
  | m + 3, L, hc, hl, h => by
    show cssrule_same.nat k (cssrule_same.G.rec k (m + 2)) (mrs L) (mrs L) = _
    unfold cssrule_same.nat
    show (api_SRule_.nat k (cssrule_same.G.rec k (m + 1)) (mrs L) (mrs L)).bind _ = _
    unfold api_SRule_.nat
    have hlen := len_cnts L
    have e : (((mrs L).length : Int) != ((mrs L).length : Int)) = false := by simp
    simp only [e, cond_false]
    have := srule_loop k (cssrule_same.G.rec k (m + 1)) L (by omega) (by
      intro mm hh ds rs hm
      show cssrule_same_1.nat k (cssrule_same.G.rec k m) mm hh (ds.map md) (mrs rs) mm hh (ds.map md) (mrs rs) = _
      unfold cssrule_same_1.nat
      obtain ⟨l1, l2⟩ := lngs_mem hl hm
      have hcm := cnts_mem hm
      simp only [beq_self_eq_true, cond_true]
      rw [sdecl_eq k hk _ (by rw [List.length_map]; omega)]
      simp only [Option.bind_some, cond_true]
      rw [same_rec k hk m rs (by omega) l1 (by omega)]
      rfl) (some true) k 0 (by omega) (by omega)
    rw [mrs_len]
    show (api_SRule_.c9 k _ k (mrs L) (mrs L) (L.length : Int) ((0 : Nat) : Int) (some true)).bind _ = _
    rw [this]
    rfl

theorem rsame_loop (k : Nat) (hk : 100010 < k) (r : clerestorykeep2_sameRules.G.R) (L : List Rl) (hL : L.length ≤ 100000) (hl : lngs L = false) (hr : ∀ m h ds rs, Rl.mk m h ds rs ∈ L → r.clerestorykeep2_sameRules (mrs rs) (mrs rs) = some true) (K : Option Bool) :
    ∀ (n i : Nat), i ≤ L.length → L.length - i < n → clerestorykeep2_sameRules.c9 k r n (mrs L) (mrs L) (i : Int) K = K
  | 0, i, _, h => by omega
  | n + 1, i, hi, hn => by
    unfold clerestorykeep2_sameRules.c9
    simp only [mrs_len]
    match hd : L.drop i with
    | [] =>
      have hi2 : i = L.length := by
        have := congrArg List.length hd
        simp at this; omega
      rw [cond_ndec (by omega)]
    | .mk m h ds rs :: q =>
      obtain ⟨h1, h2, h3⟩ := atr L i _ q hd
      have w1 : IntKind.wrap .i64 ((i : Int) + 1) = ((i + 1 : Nat) : Int) := by rw [wrap_i64 (by omega) (by omega)]; omega
      have hmem : Rl.mk m h ds rs ∈ L := List.mem_of_mem_drop (by rw [hd]; simp)
      obtain ⟨l1, l2⟩ := lngs_mem hl hmem
      have hdec : (decide (0 ≤ (i : Int) ∧ (i : Int) < (L.length : Int))) = true := decide_eq_true (by omega)
      rw [cond_dec (by omega)]
      simp only [hdec, Int.toNat_natCast, h2, mr, w1, beq_self_eq_true, Bool.not_true, Bool.not_false, Bool.true_or, cond_true, cond_false]
      rw [same_eq k _ (by rw [List.length_map]; omega) (by rw [List.length_map]; omega), hr _ _ _ _ hmem]
      simp only [Option.bind_some, Bool.not_true, Bool.not_false, Bool.true_or, cond_true, cond_false]
      exact rsame_loop k hk r L hL hl hr K n (i + 1) (by omega) (by omega)

theorem rsame_rec (k : Nat) (hk : 100010 < k) : ∀ (m : Nat) (L : List Rl), cnts L ≤ 100000 → lngs L = false → cnts L < m → (clerestorykeep2_sameRules.G.rec k m).clerestorykeep2_sameRules (mrs L) (mrs L) = some true
  | 0, L, _, _, h => by omega
  | m + 1, L, hc, hl, h => by
    show clerestorykeep2_sameRules.nat k (clerestorykeep2_sameRules.G.rec k m) (mrs L) (mrs L) = _
    unfold clerestorykeep2_sameRules.nat
    have hlen := len_cnts L
    have e : (((mrs L).length : Int) != ((mrs L).length : Int)) = false := by simp
    simp only [e, cond_false]
    exact rsame_loop k hk _ L (by omega) hl (fun mm hh ds rs hm => rsame_rec k hk m rs (by have := cnts_mem hm; omega) (lngs_mem hl hm).1 (by have := cnts_mem hm; omega)) (some true) k 0 (by omega) (by omega)

theorem rsame_eq (k : Nat) (hk : 100010 < k) (L : List Rl) (hc : cnts L ≤ 100000) (hl : lngs L = false) : clerestorykeep2_sameRules k (mrs L) (mrs L) = some true := rsame_rec k hk k L hc hl (by omega)

/-- Rules that are shown. -/
theorem Show_eq (k : Nat) (hk : k = 200011) (l : List Rl) (hg : ∀ r ∈ l, GoodR false 3 r) (hc : cnts l ≤ 60) (hl : lngs l = false) (hb : (shw l).length ≤ 100000000) :
    cssrule_Show k (mrs l) = some (bif decide (3000 < (shw l).length) then (([] : List UInt8), (2 : Int)) else (shw l, 0)) := by
  have hk' : 100010 < k := by omega
  unfold cssrule_Show
  have h1 : cssrule_show k (mrs l) ([] : List UInt8) = some (shsF l []) := show_rec k hk' k l (by omega) hl (by omega) [] (by simpa using hb)
  obtain ⟨s1, s2, s3⟩ := shsF_ok l []
  rw [h1]
  simp only [Option.bind_some]
  show ((some (((shsF l []).length : Int), shsF l [])).bind _) = _
  simp only [Option.bind_some]
  rw [List.length_nil] at s2
  by_cases h2 : 3000 < (shsF l []).length
  · rw [decide_eq_true (show (((shsF l []).length : Int) > 3000) by omega), decide_eq_true (show 3000 < (shw l).length by omega)]
    rfl
  · have e := s3 (by omega)
    rw [List.nil_append] at e
    rw [e] at h2 ⊢
    rw [decide_eq_false (show ¬ (((shw l).length : Int) > 3000) by omega), decide_eq_false h2]
    simp only [cond_false]
    show ((some (shw l, shw l)).bind _) = _
    simp only [Option.bind_some]
    have hr : rls 3 (cutP (shw l)) = l := by
      have := shown_cut 3 l hg []
      rw [List.append_nil, cutP_nil, rls_nil 3 (A := []) (by simp), List.append_nil] at this
      exact this
    rw [Parse_eq k hk', hr, decide_eq_false h2, hl, decide_eq_false (show ¬ 60 < cnts l by omega)]
    simp only [Option.bind_some, Bool.or_self, cond_false]
    have hne : ((0 : Int) != 0) = false := rfl
    simp only [hne, Bool.not_false, cond_true, cond_false]
    have h3 : cssrule_same k (mrs l) (mrs l) = some true := same_rec k hk' k l (by omega) hl (by omega)
    rw [h3]
    rfl

end Go.Ev.Rb
