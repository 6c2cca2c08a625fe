/- ColorBack: a color's text, and reading it. No condition beyond those that each theorem names. -/
import Derived.Test.YtdnnaneifaoooaaDoorEvCbA
set_option linter.unusedVariables false
set_option linter.unusedSimpArgs false
set_option maxRecDepth 100000
namespace Go.Ev.Cb
open Go.Ev Go.Ev.Tok

/-- What is told of eight digits. -/
def txt (D : List UInt8) : List UInt8 := 35 :: (D.take 6 ++ (bif D.drop 6 == [102, 102] then [] else D.drop 6))

theorem wrap_u32' (c : Int) : IntKind.wrap .u32 c = c % 4294967296 := by
  rw [IntKind.wrap_u32]

def uOf (c : Int) : Nat := (c % 4294967296).toNat

theorem cond_ble {α : Type} {n m : Nat} {x y : α} (h : n ≤ m) : cond (Nat.ble n m) x y = x := by rw [Nat.ble_eq_true_of_le h]; rfl

theorem Text_tail (k : Nat) (y8 y7 y6 y5 y4 y3 y2 y1 y0 : UInt8) (r4 : List UInt8) (hr : r4 = [y8, y7, y6, y5, y4, y3, y2, y1, y0]) :
    (cond (decide (0 ≤ (1 : Int) ∧ (1 : Int) ≤ (r4.length : Int))) (
cond (decide (0 ≤ (6 : Int) ∧ (6 : Int) ≤ ((r4.drop (1 : Int).toNat).length : Int))) (
let v5 : List UInt8 := ((r4.drop (1 : Int).toNat).take (6 : Int).toNat)
cond (Nat.ble (([35] : List UInt8).length + v5.length) 9223372036854775807) (
cond (decide (0 ≤ (6 : Int) ∧ (6 : Int) ≤ ((r4.drop (1 : Int).toNat).length : Int))) (
let v6 : List UInt8 := ((r4.drop (1 : Int).toNat).drop (6 : Int).toNat)
(color_tail k v6).bind fun r7 =>
cond (Nat.ble ((([35] : List UInt8) ++ v5).length + r7.length) 9223372036854775807) (
let v8 : List UInt8 := ((([35] : List UInt8) ++ v5) ++ r7)
some v8) none) none) none) none) none : Option (List UInt8)) = some (txt (r4.drop 1)) := by
  have h5 : (r4.drop (1 : Int).toNat).take (6 : Int).toNat = [y7, y6, y5, y4, y3, y2] := by subst hr; rfl
  have h6 : (r4.drop (1 : Int).toNat).drop (6 : Int).toNat = [y1, y0] := by subst hr; rfl
  have hl : r4.length = 9 := by subst hr; rfl
  have hl2 : (r4.drop (1 : Int).toNat).length = 8 := by subst hr; rfl
  simp only [h5, h6, hl, hl2]
  rw [cond_dec (by decide), cond_dec (by decide)]
  have b1 : Nat.ble (([35] : List UInt8).length + ([y7, y6, y5, y4, y3, y2] : List UInt8).length) 9223372036854775807 = true := Nat.ble_eq_true_of_le (by simp only [List.length_cons, List.length_nil]; omega)
  rw [b1]
  simp only [cond_true]
  unfold color_tail
  have ht : txt (r4.drop 1) = 35 :: ([y7, y6, y5, y4, y3, y2] ++ (bif ([y1, y0] : List UInt8) == [102, 102] then [] else [y1, y0])) := by subst hr; rfl
  rw [ht]
  cases hb : ([y1, y0] : List UInt8) == [102, 102] with
  | true =>
    simp only [cond_true, Option.bind_some]
    have b2 : Nat.ble ((([35] : List UInt8) ++ [y7, y6, y5, y4, y3, y2]).length + ([] : List UInt8).length) 9223372036854775807 = true := Nat.ble_eq_true_of_le (by simp only [List.length_append, List.length_cons, List.length_nil]; omega)
    rw [b2]
    rfl
  | false =>
    simp only [cond_false, Option.bind_some]
    have b2 : Nat.ble ((([35] : List UInt8) ++ [y7, y6, y5, y4, y3, y2]).length + ([y1, y0] : List UInt8).length) 9223372036854775807 = true := Nat.ble_eq_true_of_le (by simp only [List.length_append, List.length_cons, List.length_nil]; omega)
    rw [b2]
    rfl

theorem Text_eq (k : Nat) (c : Int) : ∀ U, U = uOf c + 4294967296 → color_Text k c = some (txt ((Fm.hexL U).drop 1)) := by
  intro U hU
  have h0 : 0 ≤ c % 4294967296 := Int.emod_nonneg _ (by decide)
  have h1 : c % 4294967296 < 4294967296 := Int.emod_lt_of_pos _ (by decide)
  unfold color_Text
  rw [wrap_u32']
  have e1 : IntKind.wrap .u64 (c % 4294967296) = c % 4294967296 := by rw [IntKind.wrap_u64]; omega
  have e2 : IntKind.wrap .u64 (c % 4294967296 + 4294967296) = c % 4294967296 + 4294967296 := by rw [IntKind.wrap_u64]; omega
  simp only [e1, e2]
  have e3 : strconv_FormatUint k (c % 4294967296 + 4294967296) 16 = some (Fm.hexL U) := by
    unfold strconv_FormatUint Fm.fmtS
    rw [show (decide (4294967296 ≤ c % 4294967296 + 4294967296 ∧ c % 4294967296 + 4294967296 < 8589934592)) = true from decide_eq_true (by omega)]
    have : (c % 4294967296 + 4294967296).toNat = U := by rw [hU]; unfold uOf; omega
    rw [this]
    rfl
  rw [e3]
  simp only [Option.bind_some]
  rw [hexL_eq]
  exact Text_tail k _ _ _ _ _ _ _ _ _ _ rfl

def up (c : UInt8) : UInt8 := bif decide (97 ≤ c.toNat) then c - 32 else c
/-- A digit as it is told. -/
def isH (c : UInt8) : Bool := Pu.hexOk c && (lowB c == c) && ([48, 49, 50, 51, 52, 53, 54, 55, 56, 57, 97, 98, 99, 100, 101, 102] : List UInt8).contains c && (lowB (up c) == c)

theorem dig_isH (x : Nat) : isH (Fm.dig.getD (x % 16) 0) = true :=
  have h : ∀ i : Fin 16, isH (Fm.dig.getD i.val 0) = true := by decide +kernel
  h ⟨x % 16, Nat.mod_lt _ (by decide)⟩

theorem isH_all {l : List UInt8} (h : l.all isH = true) : l.all Pu.hexOk = true ∧ l.map lowB = l ∧ (∀ c ∈ l, ([48, 49, 50, 51, 52, 53, 54, 55, 56, 57, 97, 98, 99, 100, 101, 102] : List UInt8).contains c = true) ∧ (l.map up).map lowB = l := by
  have h' : ∀ c ∈ l, isH c = true := List.all_eq_true.1 h
  refine ⟨List.all_eq_true.2 fun c hc => ?_, ?_, fun c hc => ?_, ?_⟩
  · have := h' c hc; unfold isH at this; simp only [Bool.and_eq_true] at this; exact this.1.1.1
  · conv => rhs; rw [← List.map_id l]
    exact List.map_congr_left fun c hc => by
      have := h' c hc; unfold isH at this; simp only [Bool.and_eq_true] at this; exact eq_of_beq this.1.1.2
  · have := h' c hc; unfold isH at this; simp only [Bool.and_eq_true] at this; exact this.1.2
  · rw [List.map_map]
    conv => rhs; rw [← List.map_id l]
    exact List.map_congr_left fun c hc => by
      have := h' c hc; unfold isH at this; simp only [Bool.and_eq_true] at this; exact eq_of_beq this.2

theorem dropWhile_all {α : Type} {p : α → Bool} : ∀ {l : List α}, (∀ c ∈ l, p c = true) → l.dropWhile p = []
  | [], _ => rfl
  | c :: r, h => by
    rw [List.dropWhile_cons, if_pos (h c (by simp))]
    exact dropWhile_all fun c hc => h c (by simp [hc])

theorem trim_nil {l s : List UInt8} (h : ∀ c ∈ l, s.contains c = true) : Lib.trimS l s = [] := by
  unfold Lib.trimS Lib.trimRightS
  rw [dropWhile_all (fun c hc => h c (by simpa using hc))]
  rfl

theorem c26_eq (k : Nat) (D : List UInt8) (hD : D.all isH = true) (h8 : D.length = 8) : color_hex.c26 k D = some (IntKind.wrap .i64 (Pu.hexV 0 D : Nat), true) := by
  unfold color_hex.c26 strconv_ParseUint Pu.parS
  rw [(isH_all hD).1, h8]
  have : D.isEmpty = false := by cases D with | nil => cases h8 | cons => rfl
  rw [this]
  rfl

theorem hex_eq (k : Nat) (r D : List UInt8) (hr : r.all isH = true) (h : (r.length = 6 ∧ D = r ++ [102, 102]) ∨ (r.length = 8 ∧ D = r)) :
    color_hex k r = some (IntKind.wrap .i64 (Pu.hexV 0 D : Nat), true) := by
  have hD : D.all isH = true ∧ D.length = 8 := by
    rcases h with ⟨h1, h2⟩ | ⟨h1, h2⟩
    · subst h2
      rw [List.all_append, hr, List.length_append, h1]
      exact ⟨by decide +kernel, rfl⟩
    · subst h2; exact ⟨hr, h1⟩
  unfold color_hex strings_Trim trimB
  rw [trim_nil (isH_all hr).2.2.1]
  have hb : r.length.blt 9223372036854775807 = true := by
    rw [Nat.blt_eq]
    rcases h with ⟨h1, h2⟩ | ⟨h1, h2⟩ <;> omega
  rw [hb]
  have ha : (asciiB ([48, 49, 50, 51, 52, 53, 54, 55, 56, 57, 97, 98, 99, 100, 101, 102] : List UInt8) && (([48, 49, 50, 51, 52, 53, 54, 55, 56, 57, 97, 98, 99, 100, 101, 102] : List UInt8)).length.blt findMax && true) = true := by decide +kernel
  rw [ha, cond_true, Option.bind_some]
  have hnn : (!(([] : List UInt8) == [])) = false := rfl
  rw [hnn, cond_false]
  have e3 : ((r.length : Int) == 3) = false := by rcases h with ⟨h1, h2⟩ | ⟨h1, h2⟩ <;> rw [h1] <;> rfl
  have e4 : ((r.length : Int) == 4) = false := by rcases h with ⟨h1, h2⟩ | ⟨h1, h2⟩ <;> rw [h1] <;> rfl
  simp only [e3, e4, cond_false]
  unfold color_hex.c22
  rcases h with ⟨h1, h2⟩ | ⟨h1, h2⟩
  · have e6 : ((r.length : Int) == 6) = true := by rw [h1]; rfl
    simp only [e6, cond_true]
    rw [cond_ble (by simp [h1]), ← h2]
    exact c26_eq k D hD.1 hD.2
  · have e6 : ((r.length : Int) == 6) = false := by rw [h1]; rfl
    simp only [e6, cond_false]
    rw [← h2]
    exact c26_eq k D hD.1 hD.2

theorem cutp (k : Nat) (r : List UInt8) : strings_CutPrefix k (35 :: r) [35] = some (r, true) := by
  have h1 : stringslite_HasPrefix k (35 :: r) [35] = some true := by
    unfold stringslite_HasPrefix
    have : (decide (((35 :: r).length : Int) ≥ (([35] : List UInt8).length : Int))) = true := decide_eq_true (by simp only [List.length_cons, List.length_nil]; omega)
    have h2 : (decide (0 ≤ (([35] : List UInt8).length : Int) ∧ (([35] : List UInt8).length : Int) ≤ ((35 :: r).length : Int))) = true := decide_eq_true (by simp only [List.length_cons, List.length_nil]; omega)
    simp only [this, h2]
    rfl
  unfold strings_CutPrefix stringslite_CutPrefix
  rw [h1]
  simp only [Option.bind_some, Bool.not_true, cond_false]
  rw [cond_dec (by simp only [List.length_cons, List.length_nil]; omega)]
  rfl

theorem read_of (k : Nat) (x r D : List UInt8) (hx : color_lower k x = some (35 :: r)) (hr : r.all isH = true) (h : (r.length = 6 ∧ D = r ++ [102, 102]) ∨ (r.length = 8 ∧ D = r)) :
    color_Read k x = some (IntKind.wrap .i64 (Pu.hexV 0 D : Nat), 0) := by
  unfold color_Read
  rw [hx]
  simp only [Option.bind_some]
  have e1 : ((35 :: r : List UInt8) == [116, 114, 97, 110, 115, 112, 97, 114, 101, 110, 116]) = false := rfl
  have e2 : color_named k (35 :: r) = some (0, false) := rfl
  rw [e1, cond_false, e2]
  simp only [Option.bind_some, cond_false]
  rw [cutp]
  simp only [Option.bind_some, cond_true]
  rw [hex_eq k r D hr h]
  rfl

theorem get_map_len (f : UInt8 → UInt8) (l : List UInt8) : (l.map f).length = l.length := by simp

theorem upB_eq (c : UInt8) : (bif decide (((c.toNat : Nat) : Int) ≥ 97) then IntKind.wrap .u8 (((c.toNat : Nat) : Int) - 32) else ((c.toNat : Nat) : Int)) = (((up c).toNat : Nat) : Int) := by
  have h : ∀ n : Fin 256, (bif decide (((n.val : Nat) : Int) ≥ 97) then IntKind.wrap .u8 (((n.val : Nat) : Int) - 32) else ((n.val : Nat) : Int)) = (((up (UInt8.ofNat n.val)).toNat : Nat) : Int) := by decide +kernel
  have := h ⟨c.toNat, c.toNat_lt⟩
  simpa using this

theorem up_loop (k : Nat) (l : List UInt8) (hl : l.length ≤ 100000) (a : Int) (b : Bool) (x e : Int) (K : Int → Bool → Int → Int → List Int → Option Bool) : ∀ (n i : Nat), i ≤ l.length → l.length - i < n →
    clerestorykeep2_ColorBack.c13 k n a b x e (i : Int) (bytesI ((l.take i).map up ++ l.drop i)) K = K a b x e (bytesI (l.map up))
  | 0, i, _, h => by omega
  | n + 1, i, h1, h2 => by
    rw [clerestorykeep2_ColorBack.c13]
    match hd : l.drop i with
    | [] =>
      have hi : i = l.length := by
        have := congrArg List.length hd
        simp at this; omega
      subst hi
      have hll : (bytesI ((l.take l.length).map up ++ [])).length = l.length := by simp [bytesI]
      rw [cond_ndec (by omega)]
      simp
    | c :: r =>
      obtain ⟨g1, g2, g3⟩ := get_at l i c r hd
      have hll : (bytesI ((l.take i).map up ++ c :: r)).length = l.length := by
        have := congrArg List.length hd
        simp at this
        simp [bytesI]; omega
      have htl : ((l.take i).map up).length = i := by simp; omega
      have hg : (bytesI ((l.take i).map up ++ c :: r)).getD i 0 = ((c.toNat : Nat) : Int) := by
        rw [get_bytes _ i (by simp; omega), List.getD_eq_getElem?_getD, List.getElem?_append_right (by omega), htl]
        simp
      rw [cond_dec (by omega), cond_dec (by omega)]
      simp only [Int.toNat_natCast, hg]
      rw [wrap_i64 (n := (i : Int) + 1) (by omega) (by omega)]
      have hset : (bytesI ((l.take i).map up ++ c :: r)).set i (((up c).toNat : Nat) : Int) = bytesI ((l.take (i + 1)).map up ++ l.drop (i + 1)) := by
        rw [g3]
        unfold bytesI
        rw [List.map_append, List.set_append_right _ _ (by simp; omega)]
        have : i - (((l.take i).map up).map fun b => ((b.toNat : Nat) : Int)).length = 0 := by simp; omega
        rw [this]
        have ht : l.take (i + 1) = l.take i ++ [c] := by
          rw [List.take_add_one, List.getElem?_eq_getElem g1]
          rw [List.getD_eq_getElem?_getD, List.getElem?_eq_getElem g1] at g2
          simp at g2
          simp [g2]
        rw [ht]
        simp
      have hlow := upB_eq c
      have ih := up_loop k l hl a b x e K n (i + 1) (by omega) (by omega)
      rw [show ((i + 1 : Nat) : Int) = (i : Int) + 1 by omega] at ih
      cases hb : (decide (((c.toNat : Nat) : Int) ≥ 97)) with
      | true =>
        rw [hb, cond_true] at hlow
        rw [cond_true, cond_dec (by omega), cond_dec (by omega), hlow, hset]
        exact ih
      | false =>
        rw [hb, cond_false] at hlow
        rw [cond_false]
        have e : bytesI ((l.take i).map up ++ c :: r) = bytesI ((l.take (i + 1)).map up ++ l.drop (i + 1)) := by
          rw [← hset, ← hlow, ← hg]
          apply List.ext_getElem
          · simp
          · intro j hj hj'
            rw [List.getElem_set]
            split
            · rename_i hij; subst hij
              rw [List.getD_eq_getElem?_getD, List.getElem?_eq_getElem hj]; rfl
            · rfl
        rw [e]
        exact ih

/-- What stands behind the sign is digits, and all eight are those that were told. -/
theorem txt_ok (D : List UInt8) (hD : D.all isH = true) (h8 : D.length = 8) : ∃ r, txt D = 35 :: r ∧ r.all isH = true ∧ ((r.length = 6 ∧ D = r ++ [102, 102]) ∨ (r.length = 8 ∧ D = r)) := by
  have h1 : (D.take 6).all isH = true := List.all_eq_true.2 fun c hc => List.all_eq_true.1 hD c (List.mem_of_mem_take hc)
  unfold txt
  cases hb : D.drop 6 == [102, 102] with
  | true =>
    refine ⟨D.take 6, by simp, h1, .inl ⟨by simp [h8], ?_⟩⟩
    rw [← eq_of_beq hb]
    exact (List.take_append_drop 6 D).symm
  | false =>
    refine ⟨D, by simp, hD, .inr ⟨h8, rfl⟩⟩

theorem red_ok : clerestorykeep2_red 60 = some true := by kernel_rfl

theorem law_of (k : Nat) (c x : Int) (s s2 : List UInt8) (h1 : clerestorykeep2_red k = some true) (h2 : color_Text k c = some s) (h3 : color_Read k s = some (x, 0))
    (h4 : ∀ K, clerestorykeep2_ColorBack.c13 k k c true x 0 (0 : Int) (bytesI s) K = K c true x 0 (bytesI s2)) (h5 : color_Read k s2 = some (x, 0)) (h6 : x = IntKind.wrap .i64 (IntKind.wrap .u32 c)) :
    clerestorykeep2_ColorBack k c = some true := by
  unfold clerestorykeep2_ColorBack
  rw [h1, Option.bind_some, h2, Option.bind_some, h3, Option.bind_some, h4, bytesU_I, h5, Option.bind_some]
  have e1 : (x == IntKind.wrap .i64 (IntKind.wrap .u32 c)) = true := by rw [h6]; exact beq_self_eq_true _
  have e2 : (x == x) = true := beq_self_eq_true _
  simp only [e1, e2]
  rfl

theorem back_ex (c : Int) : ∃ k, clerestorykeep2_ColorBack k c = some true := by
  refine ⟨60, ?_⟩
  obtain ⟨U, hUU⟩ : ∃ U, U = uOf c + 4294967296 := ⟨_, rfl⟩
  have hU : uOf c < 4294967296 := by unfold uOf; omega
  have hall : (Fm.hexL U).all isH = true := by
    rw [hexL_eq]
    simp only [List.all_cons, dig_isH, List.all_nil, Bool.and_true]
  have hv := hexV_hexL U (by omega)
  have hl9 : (Fm.hexL U).length = 9 := by rw [hexL_eq]; rfl
  have h1st : Fm.hexL U = 49 :: (Fm.hexL U).drop 1 := by
    rw [hexL_eq]
    have : Fm.dv U 8 = 1 := by rw [hUU]; unfold Fm.dv; omega
    rw [this]; rfl
  have hD8 : ((Fm.hexL U).drop 1).length = 8 := by simp [hl9]
  have hDall : ((Fm.hexL U).drop 1).all isH = true := List.all_eq_true.2 fun x hx => List.all_eq_true.1 hall x (List.mem_of_mem_drop hx)
  have hT := Text_eq 60 c U hUU
  rw [h1st] at hv
  generalize (Fm.hexL U).drop 1 = D at *
  have hVD : Pu.hexV 0 D = uOf c := by
    match D, hD8 with
    | [a, b, c, d, e, f, g, h], _ =>
      simp only [Pu.hexV] at hv ⊢
      have : Pu.hexD 49 = 1 := rfl
      rw [this] at hv
      omega
  obtain ⟨r, hr1, hr2, hr3⟩ := txt_ok D hDall hD8
  have hrl : r.length ≤ 8 := by rcases hr3 with ⟨h, _⟩ | ⟨h, _⟩ <;> omega
  have hlow : color_lower 60 (35 :: r) = some (35 :: r) := by
    rw [lower_eq 60 _ (by simp; omega) (by simp; omega)]
    rw [List.map_cons, (isH_all hr2).2.1]
    rfl
  have hlow2 : color_lower 60 ((35 :: r).map up) = some (35 :: r) := by
    rw [lower_eq 60 _ (by simp; omega) (by simp; omega)]
    rw [List.map_cons, List.map_cons, (isH_all hr2).2.2.2]
    rfl
  have hR1 := read_of 60 _ r D hlow hr2 hr3
  have hR2 := read_of 60 _ r D hlow2 hr2 hr3
  rw [hVD] at hR1 hR2
  have hu : ((uOf c : Nat) : Int) = IntKind.wrap .u32 c := by rw [wrap_u32']; unfold uOf; omega
  refine law_of 60 c (IntKind.wrap .i64 (uOf c : Nat)) (35 :: r) ((35 :: r).map up) red_ok (by rw [hT, hr1]) hR1 (fun K => ?_) hR2 (by rw [hu])
  have hloop := up_loop 60 (35 :: r) (by simp; omega) c true (IntKind.wrap .i64 (uOf c : Nat)) 0 K 60 0 (by omega) (by simp; omega)
  simp only [List.take_zero, List.map_nil, List.nil_append, List.drop_zero] at hloop
  exact hloop

end Go.Ev.Cb
