/- CountBack, as its native says it: true. Its condition: the text that comes in is no longer than 1048576. -/
import Derived.Test.YtgoglplnajofnaaDoorEvCmL
set_option linter.unusedVariables false
set_option linter.unusedSimpArgs false
set_option maxRecDepth 100000
namespace Go.Ev.Cm
open Go.Ev

theorem in_eq (k : Nat) (a b c : Int) : count_in k a b c = some (decide (b ≤ a ∧ a ≤ c)) := by
  unfold count_in
  by_cases h1 : b ≤ a <;> by_cases h2 : a ≤ c <;> simp [h1, h2]

/-! ### letters -/

def wrO : List UInt8 → Nat → Option Nat
  | [], n => some n
  | c :: r, n => if c.toNat < 97 ∨ 122 < c.toNat ∨ 1000000 < n then none else wrO r (26 * n + (c.toNat - 97) + 1)

theorem wrO_app : ∀ (a b : List UInt8) (n : Nat), wrO (a ++ b) n = (wrO a n).bind (wrO b)
  | [], b, n => rfl
  | c :: r, b, n => by
    rw [List.cons_append, wrO, wrO]
    split
    · rfl
    · exact wrO_app r b _

theorem wrO_le : ∀ (s : List UInt8) (n v : Nat), wrO s n = some v → n ≤ 26001000 → v ≤ 26001000
  | [], n, v, h, hn => by cases h; exact hn
  | c :: r, n, v, h, hn => by
    rw [wrO] at h
    split at h
    · cases h
    · rename_i hc
      exact wrO_le r _ v h (by omega)

theorem letF_val : ∀ (f n : Nat), n < 26 ^ f → n ≤ 1000000 → wrO (letF f n).reverse 0 = some n ∧ ∀ c ∈ letF f n, 97 ≤ c.toNat ∧ c.toNat ≤ 122
  | 0, n, h, _ => by
    have : n = 0 := by simpa using h
    subst this
    exact ⟨rfl, fun c hc => by cases hc⟩
  | f + 1, 0, _, _ => ⟨rfl, fun c hc => by cases hc⟩
  | f + 1, n + 1, h, hn => by
    obtain ⟨h1, h2⟩ := letF_val f (n / 26) (by rw [Nat.pow_succ] at h; omega) (by omega)
    have hc : (UInt8.ofNat (97 + n % 26)).toNat = 97 + n % 26 := by rw [UInt8.toNat_ofNat']; omega
    rw [letF, List.reverse_cons, wrO_app, h1]
    refine ⟨?_, fun c hc' => ?_⟩
    · show wrO [UInt8.ofNat (97 + n % 26)] (n / 26) = _
      rw [wrO, hc, if_neg (by omega), wrO]
      congr 1; omega
    · rcases List.mem_cons.1 hc' with rfl | h3
      · rw [hc]; omega
      · exact h2 c h3

theorem letS_val {n : Nat} (hn : n ≤ 1000000) : wrO (letS n) 0 = some n ∧ ∀ c ∈ letS n, 97 ≤ c.toNat ∧ c.toNat ≤ 122 := by
  obtain ⟨h1, h2⟩ := letF_val 8 n (by omega) hn
  exact ⟨h1, fun c hc => h2 c (by unfold letS at hc; simpa using hc)⟩

theorem letS_len (n : Nat) : (letS n).length ≤ 8 := by
  unfold letS; rw [List.length_reverse]; exact letF_len 8 n

theorem letS_ne {n : Nat} (h : 0 < n) : letS n ≠ [] := by
  obtain ⟨m, rfl⟩ : ∃ m, n = m + 1 := ⟨n - 1, by omega⟩
  unfold letS
  rw [letF]
  simp

theorem worth_loop (k : Nat) (s : List UInt8) (hs : s.length ≤ 1000000000) (K : Int → Option Int) : ∀ (f i n : Nat), i ≤ s.length → s.length - i < f → n ≤ 26001000 →
    count_worth.c7 k f s (n : Int) (s.length : Int) (i : Int) K = match wrO (s.drop i) n with | some v => K (v : Int) | none => some 0
  | 0, i, n, _, h, _ => by omega
  | f + 1, i, n, hi, hf, hn => by
    unfold count_worth.c7
    simp only [Int.toNat_natCast]
    by_cases hlt : i < s.length
    · rw [List.drop_eq_getElem_cons hlt, wrO]
      have hg : s.getD i 0 = s[i] := by rw [List.getD_eq_getElem?_getD, List.getElem?_eq_getElem hlt]; rfl
      have e0 : decide (0 ≤ (i : Int) ∧ (i : Int) < (s.length : Int)) = true := decide_eq_true (by omega)
      have hc256 := (s[i]).toNat_lt
      rw [cond_dec (by omega)]
      simp only [hg, e0, Bool.true_or, cond_true]
      by_cases hbad : s[i].toNat < 97 ∨ 122 < s[i].toNat ∨ 1000000 < n
      · rw [if_pos hbad]
        have : (cond (cond (decide (((s[i].toNat : Nat) : Int) < 97)) true (decide (((s[i].toNat : Nat) : Int) > 122))) true (decide ((n : Int) > 1000000))) = true := by
          by_cases h1 : ((s[i].toNat : Nat) : Int) < 97
          · rw [decide_eq_true h1]; rfl
          · by_cases h2 : ((s[i].toNat : Nat) : Int) > 122
            · rw [decide_eq_false h1, decide_eq_true h2]; rfl
            · rw [decide_eq_false h1, decide_eq_false h2, decide_eq_true (by omega)]; rfl
        rw [this]
        rfl
      · rw [if_neg hbad]
        have : (cond (cond (decide (((s[i].toNat : Nat) : Int) < 97)) true (decide (((s[i].toNat : Nat) : Int) > 122))) true (decide ((n : Int) > 1000000))) = false := by
          rw [decide_eq_false (by omega), decide_eq_false (by omega), decide_eq_false (by omega)]; rfl
        rw [this]
        have w1 : IntKind.wrap .i64 ((26 : Int) * (n : Int)) = ((26 * n : Nat) : Int) := by rw [wrap_i64 (by omega) (by omega)]; omega
        have w2 : IntKind.wrap .u8 (((s[i].toNat : Nat) : Int) - 97) = ((s[i].toNat - 97 : Nat) : Int) := by rw [wrap_u8]; omega
        have w3 : IntKind.wrap .i64 ((s[i].toNat - 97 : Nat) : Int) = ((s[i].toNat - 97 : Nat) : Int) := by rw [wrap_i64 (by omega) (by omega)]
        have w4 : IntKind.wrap .i64 (((26 * n : Nat) : Int) + ((s[i].toNat - 97 : Nat) : Int)) = ((26 * n + (s[i].toNat - 97) : Nat) : Int) := by rw [wrap_i64 (by omega) (by omega)]; omega
        have w5 : IntKind.wrap .i64 (((26 * n + (s[i].toNat - 97) : Nat) : Int) + 1) = ((26 * n + (s[i].toNat - 97) + 1 : Nat) : Int) := by rw [wrap_i64 (by omega) (by omega)]; omega
        have w6 : IntKind.wrap .i64 ((i : Int) + 1) = ((i + 1 : Nat) : Int) := by rw [wrap_i64 (by omega) (by omega)]; omega
        simp only [cond_false, w1, w2, w3, w4, w5, w6]
        exact worth_loop k s hs K f (i + 1) _ (by omega) (by omega) (by omega)
    · rw [cond_ndec (by omega), List.drop_eq_nil_of_le (by omega)]
      rfl

def wrt (s : List UInt8) : Int := (((wrO s 0).getD 0 : Nat) : Int)

theorem worth_eq (k : Nat) (s : List UInt8) (hs : s.length ≤ 1000000000) (hk : s.length < k) : count_worth k s = some (wrt s) := by
  unfold count_worth
  have := worth_loop k s hs (fun y => some y) k 0 0 (Nat.zero_le _) (by omega) (by omega)
  rw [List.drop_zero] at this
  refine this.trans ?_
  unfold wrt
  cases wrO s 0 <;> rfl

/-! ### Roman digits -/

def rdg (c : UInt8) : Int := ixbS [105, 118, 120, 108, 99, 100, 109] (c.toNat : Int)
def rvl (i : Int) : Int := ([(1 : Int), (5 : Int), (10 : Int), (50 : Int), (100 : Int), (500 : Int), (1000 : Int)]).getD i.toNat (0 : Int)

theorem rdg_rng (c : UInt8) : rdg c < 0 ∨ (0 ≤ rdg c ∧ rdg c < 7 ∧ 1 ≤ rvl (rdg c) ∧ rvl (rdg c) ≤ 1000) := by
  have h : ∀ n : Fin 256, rdg (UInt8.ofNat n.val) < 0 ∨ (0 ≤ rdg (UInt8.ofNat n.val) ∧ rdg (UInt8.ofNat n.val) < 7 ∧ 1 ≤ rvl (rdg (UInt8.ofNat n.val)) ∧ rvl (rdg (UInt8.ofNat n.val)) ≤ 1000) := by decide +kernel
  have := h ⟨c.toNat, c.toNat_lt⟩
  simpa using this

def vlO : List UInt8 → Int → Int → Option Int
  | [], n, _ => some n
  | c :: r, n, m => bif decide (rdg c < 0) || decide (5000 < n) then none else bif decide (rvl (rdg c) < m) then vlO r (n - rvl (rdg c)) m else vlO r (n + rvl (rdg c)) (rvl (rdg c))

theorem value_loop (k : Nat) (s : List UInt8) (hs : s.length ≤ 1000000000) (K : Int → Option Int) : ∀ (f i : Nat) (n m : Int), i ≤ s.length → i < f → n ≤ 6000 → -(1000 * ((s.length : Int) - i)) ≤ n →
    count_value.c7 k f s n m ((i : Int) - 1) K = match vlO ((s.take i).reverse) n m with | some v => K v | none => some 0
  | 0, i, n, m, _, h, _, _ => by omega
  | f + 1, 0, n, m, _, _, _, _ => by
    unfold count_value.c7
    rw [cond_ndec (by omega)]
    rfl
  | f + 1, i + 1, n, m, hi, hf, hn, hn2 => by
    unfold count_value.c7
    have w0 : (((i + 1 : Nat) : Int) - 1) = (i : Int) := by omega
    have hg : s.getD i 0 = s[i] := by rw [List.getD_eq_getElem?_getD, List.getElem?_eq_getElem (by omega)]; rfl
    have et : (s.take (i + 1)).reverse = s[i] :: (s.take i).reverse := by
      rw [List.take_succ_eq_append_getElem (by omega), List.reverse_append]; rfl
    rw [w0, cond_dec (by omega), cond_dec (by omega), et, vlO]
    simp only [Int.toNat_natCast, hg]
    have er : strings_IndexByte k [105, 118, 120, 108, 99, 100, 109] ((s[i].toNat : Nat) : Int) = some (rdg s[i]) := rfl
    simp only [er, Option.bind_some]
    have ew : (cond (decide (rdg s[i] < 0)) true (decide (n > 5000))) = (decide (rdg s[i] < 0) || decide (5000 < n)) := by cases decide (rdg s[i] < 0) <;> rfl
    rw [ew]
    cases hb : (decide (rdg s[i] < 0) || decide (5000 < n)) with
    | true => rfl
    | false =>
      rw [Bool.or_eq_false_iff] at hb
      have hb1 := of_decide_eq_false hb.1
      have hb2 := of_decide_eq_false hb.2
      obtain ⟨h1, h2, h3, h4⟩ := (rdg_rng s[i]).resolve_left hb1
      simp only [cond_false]
      rw [cond_dec (by omega)]
      show cond (decide (rvl (rdg s[i]) < m)) _ _ = _
      have w1 : IntKind.wrap .i64 ((i : Int) - 1) = (i : Int) - 1 := by rw [wrap_i64 (by omega) (by omega)]
      cases hd : decide (rvl (rdg s[i]) < m) with
      | true =>
        simp only [cond_true]
        show count_value.c7 k f s (IntKind.wrap .i64 (n - rvl (rdg s[i]))) m (IntKind.wrap .i64 ((i : Int) - 1)) K = _
        rw [w1, wrap_i64 (n := n - rvl (rdg s[i])) (by omega) (by omega)]
        exact value_loop k s hs K f i _ m (by omega) (by omega) (by omega) (by omega)
      | false =>
        simp only [cond_false]
        show count_value.c7 k f s (IntKind.wrap .i64 (n + rvl (rdg s[i]))) (rvl (rdg s[i])) (IntKind.wrap .i64 ((i : Int) - 1)) K = _
        rw [w1, wrap_i64 (n := n + rvl (rdg s[i])) (by omega) (by omega)]
        exact value_loop k s hs K f i _ _ (by omega) (by omega) (by omega) (by omega)

def vlu (s : List UInt8) : Int := (vlO s.reverse 0 0).getD 0

theorem value_eq (k : Nat) (s : List UInt8) (hs : s.length ≤ 1000000000) (hk : s.length < k) : count_value k s = some (vlu s) := by
  unfold count_value
  rw [show IntKind.wrap .i64 ((s.length : Int) - 1) = (s.length : Int) - 1 from by rw [wrap_i64 (by omega) (by omega)]]
  have := value_loop k s hs (fun y => some y) k s.length 0 0 (Nat.le_refl _) hk (by omega) (by omega)
  rw [List.take_length] at this
  refine this.trans ?_
  unfold vlu
  cases vlO s.reverse 0 0 <;> rfl

/-! ### the case of letters -/

theorem enc_len (r : Int) : (Lib.encodeRune r).length ≤ 4 := by
  unfold Lib.encodeRune
  rw [List.length_map]
  exact (Lib.encodeRuneZ_length r).2

theorem map_len (f : Int → Int) : ∀ (n : Nat) (l : List UInt8), (Lib.mapGoD f n l).length ≤ 4 * n
  | 0, l => Nat.le_refl _
  | n + 1, l => by
    rw [Lib.mapGoD]
    split
    · simp
    · rw [List.length_append]
      have h1 := map_len f n (l.drop (Lib.decodeL l).2)
      have h2 : (if 0 ≤ f (Lib.decodeL l).1 then Lib.encodeRune (f (Lib.decodeL l).1) else []).length ≤ 4 := by
        split
        · exact enc_len _
        · simp
      omega

theorem lower_len (s : List UInt8) : (Lib.toLowerD s).length ≤ 4 * s.length := map_len _ _ _

def chkC (c : UInt8) : Bool := !(decide (97 ≤ c.toNat) && decide (c.toNat ≤ 122)) || (Lib.lowerB c == c && Lib.lowerB (Lib.upperB c) == c && decide (65 ≤ (Lib.upperB c).toNat) && decide ((Lib.upperB c).toNat ≤ 90))

theorem low_ok {c : UInt8} (h : 97 ≤ c.toNat ∧ c.toNat ≤ 122) : Lib.lowerB c = c ∧ Lib.lowerB (Lib.upperB c) = c ∧ 65 ≤ (Lib.upperB c).toNat ∧ (Lib.upperB c).toNat ≤ 90 := by
  have hall : ∀ n : Fin 256, chkC (UInt8.ofNat n.val) = true := by decide +kernel
  have := hall ⟨c.toNat, c.toNat_lt⟩
  simp only [UInt8.ofNat_toNat] at this
  unfold chkC at this
  rw [decide_eq_true h.1, decide_eq_true h.2] at this
  simpa [Bool.and_eq_true, and_assoc] using this

/-- Small letters, and great ones of them. -/
structure Sml (s : List UInt8) : Prop where
  ne : s ≠ []
  low : ∀ c ∈ s, 97 ≤ c.toNat ∧ c.toNat ≤ 122

theorem Sml.lowA {s : List UInt8} (h : Sml s) : Lib.toLowerD s = s := by
  rw [Lib.toLowerD_ascii s fun b hb => by have := h.low b hb; omega]
  unfold Lib.toLowerA
  conv => rhs; rw [← List.map_id s]
  exact List.map_congr_left fun c hc => (low_ok (h.low c hc)).1

theorem Sml.uppA {s : List UInt8} (h : Sml s) : Lib.toUpperD s = Lib.toUpperA s := Lib.toUpperD_ascii s fun b hb => by have := h.low b hb; omega

theorem Sml.lowU {s : List UInt8} (h : Sml s) : Lib.toLowerD (Lib.toUpperA s) = s := by
  unfold Lib.toUpperA
  rw [Lib.toLowerD_ascii _ fun b hb => by
    obtain ⟨c, hc, rfl⟩ := List.mem_map.1 hb
    have := low_ok (h.low c hc)
    omega]
  unfold Lib.toLowerA
  rw [List.map_map]
  conv => rhs; rw [← List.map_id s]
  exact List.map_congr_left fun c hc => (low_ok (h.low c hc)).2.1

theorem syn {c : UInt8} {r : List UInt8} (h : 58 ≤ c.toNat) : atoiR (c :: r) = (0, true) := by
  have e : Lib.parseMag (if c.toNat = 43 ∨ c.toNat = 45 then r else c :: r) = .syntax := by
    rw [if_neg (by omega)]
    unfold Lib.parseMag
    rw [if_neg (by simp), Lib.parseUint10, if_neg (by omega)]
  unfold atoiR Lib.atoiAll
  simp only [e]

theorem Sml.syn {s : List UInt8} (h : Sml s) : atoiR s = (0, true) := by
  cases s with
  | nil => exact absurd rfl h.ne
  | cons c r => exact Cm.syn (by have := h.low c (by simp); omega)

theorem Sml.synU {s : List UInt8} (h : Sml s) : atoiR (Lib.toUpperA s) = (0, true) := by
  cases s with
  | nil => exact absurd rfl h.ne
  | cons c r =>
    show atoiR (Lib.upperB c :: _) = _
    exact Cm.syn (by have := low_ok (h.low c (by simp)); omega)

theorem letS_sml {n : Nat} (h0 : 0 < n) (hn : n ≤ 1000000) : Sml (letS n) := ⟨letS_ne h0, (letS_val hn).2⟩

def chkR (n : Nat) : Bool := !(romS n).isEmpty && ((romS n).all fun c => decide (97 ≤ c.toNat) && decide (c.toNat ≤ 122)) && (vlO (romS n).reverse 0 0 == some (n : Int)) && Nat.ble (romS n).length 100

theorem romAll : ((List.range 3999).all fun (i : Nat) => chkR (i + 1)) = true := by decide +kernel

theorem rom_ok {n : Nat} (h1 : 1 ≤ n) (h2 : n ≤ 3999) : Sml (romS n) ∧ vlu (romS n) = (n : Int) ∧ (romS n).length ≤ 100 := by
  have := List.all_eq_true.1 romAll (n - 1) (List.mem_range.2 (by omega))
  simp only [show n - 1 + 1 = n by omega] at this
  unfold chkR at this
  rw [Bool.and_eq_true, Bool.and_eq_true, Bool.and_eq_true] at this
  obtain ⟨⟨⟨a1, a2⟩, a3⟩, a4⟩ := this
  refine ⟨⟨fun e => ?_, fun c hc => ?_⟩, ?_, Nat.le_of_ble_eq_true a4⟩
  · rw [e] at a1; cases a1
  · have := List.all_eq_true.1 a2 c hc
    simpa using this
  · unfold vlu
    rw [eq_of_beq a3]
    rfl

/-! ### numbers, told and read -/

theorem parse_app : ∀ (a b : List UInt8) (n : Nat), Lib.parseUint10 n (a ++ b) = match Lib.parseUint10 n a with | .ok v => Lib.parseUint10 v b | .syntax => .syntax | .range => .range
  | [], b, n => rfl
  | c :: r, b, n => by
    rw [List.cons_append, Lib.parseUint10, Lib.parseUint10]
    split
    · split
      · rfl
      · split
        · rfl
        · exact parse_app r b _
    · rfl

theorem parse_dec : ∀ (f u : Nat), u ≤ f → u ≤ 1000000000 → Lib.parseUint10 0 (Lib.decDigits u) = .ok u ∧ Lib.decDigits u ≠ [] ∧ (Lib.decDigits u).length ≤ u + 1 ∧ ∀ c ∈ Lib.decDigits u, 48 ≤ c.toNat ∧ c.toNat ≤ 57
  | f, u, hf, hu => by
    rw [Lib.decDigits]
    have hc : ∀ d, d < 10 → (UInt8.ofNat (48 + d)).toNat = 48 + d := fun d hd => by rw [UInt8.toNat_ofNat']; omega
    by_cases h : u < 10
    · rw [dif_pos h]
      refine ⟨?_, by simp, by simp, fun c hc' => ?_⟩
      · rw [Lib.parseUint10, hc u h, if_pos (by omega), if_neg (by omega), if_neg (by omega), Lib.parseUint10]
        congr 1; omega
      · rw [List.mem_singleton.1 hc', hc u h]; omega
    · rw [dif_neg h]
      match f with
      | 0 => omega
      | f + 1 =>
        obtain ⟨h1, h2, h3, h4⟩ := parse_dec f (u / 10) (by omega) (by omega)
        refine ⟨?_, by simp, by rw [List.length_append]; simp; omega, fun c hc' => ?_⟩
        · rw [parse_app, h1]
          simp only
          rw [Lib.parseUint10, hc _ (by omega), if_pos (by omega), if_neg (by omega), if_neg (by omega), Lib.parseUint10]
          congr 1; omega
        · rcases List.mem_append.1 hc' with h5 | h5
          · exact h4 c h5
          · rw [List.mem_singleton.1 h5, hc _ (by omega)]; omega

theorem itoa_ok {n : Int} (h1 : -1000000 ≤ n) (h2 : n ≤ 1000000) : atoiR (Lib.itoa n) = (n, false) ∧ (Lib.itoa n).length ≤ 2000000 := by
  unfold Lib.itoa atoiR
  by_cases h : n < 0
  · rw [if_pos h]
    obtain ⟨a1, a2, a3, a4⟩ := parse_dec n.natAbs n.natAbs (Nat.le_refl _) (by omega)
    refine ⟨?_, by rw [List.length_cons]; omega⟩
    have e : Lib.parseMag (if (45 : UInt8).toNat = 43 ∨ (45 : UInt8).toNat = 45 then Lib.decDigits n.natAbs else 45 :: Lib.decDigits n.natAbs) = .ok n.natAbs := by
      rw [if_pos (by decide)]
      unfold Lib.parseMag
      rw [if_neg a2, a1]
    unfold Lib.atoiAll
    simp only [e]
    have h45 : (45 : UInt8).toNat = 45 := rfl
    simp only [h45, not_true_eq_false, false_and, if_false, true_and, if_true]
    rw [if_neg (by omega)]
    simp only [Prod.mk.injEq, and_true]
    omega
  · rw [if_neg h]
    obtain ⟨a1, a2, a3, a4⟩ := parse_dec n.toNat n.toNat (Nat.le_refl _) (by omega)
    refine ⟨?_, by omega⟩
    cases hd : Lib.decDigits n.toNat with
    | nil => exact absurd hd a2
    | cons c r =>
      have hc := a4 c (by rw [hd]; simp)
      have e : Lib.parseMag (if c.toNat = 43 ∨ c.toNat = 45 then r else c :: r) = .ok n.toNat := by
        rw [if_neg (by omega)]
        unfold Lib.parseMag
        rw [if_neg (by simp), ← hd, a1]
      unfold Lib.atoiAll
      simp only [e]
      have h45 : ¬ c.toNat = 45 := by omega
      simp only [h45, not_false_eq_true, true_and, false_and, if_false]
      rw [if_neg (by omega)]
      simp only [Prod.mk.injEq, and_true]
      omega

/-! ### a mark -/

def mP (kind : Nat) (n : Int) : List UInt8 :=
  bif kind.beq 3 && decide (0 < n) then letS n.toNat else bif kind.beq 4 && decide (0 < n) then Lib.toUpperA (letS n.toNat)
  else bif kind.beq 5 && decide (1 ≤ n ∧ n ≤ 3999) then romS n.toNat else bif kind.beq 6 && decide (1 ≤ n ∧ n ≤ 3999) then Lib.toUpperA (romS n.toNat) else Lib.itoa n

theorem upp_some {s : List UInt8} (h : Sml s) (hl : s.length ≤ 1000) : uppS s = some (Lib.toUpperA s) := by
  unfold uppS
  rw [show s.length.blt 35184372088832 = true from by rw [Nat.blt_eq]; omega, h.uppA]
  rfl

theorem mark_eq (k : Nat) (hk : 10020 ≤ k) {kind : Nat} (h2 : 2 ≤ kind) (h6 : kind ≤ 6) {n : Int} (hn1 : -1000000 ≤ n) (hn2 : n ≤ 1000000) : count_mark k (kind : Int) n = some (mP kind n) := by
  have e3 : itoaS n = some (Lib.itoa n) := by
    unfold itoaS
    rw [cond_dec (by omega)]
  have let_ : 0 < n → count_letters k n = some (letS n.toNat) := fun h => by
    have := letters_eq k (by omega) n.toNat (by omega)
    rw [Int.toNat_of_nonneg (by omega)] at this
    exact this
  have rom_ : 1 ≤ n ∧ n ≤ 3999 → count_roman k n = some (romS n.toNat) := fun h => by
    have := roman_eq k n.toNat hk (by omega)
    rw [Int.toNat_of_nonneg (by omega)] at this
    exact this
  match kind, h2, h6 with
  | 2, _, _ =>
    show (itoaS n).bind (fun r15 => some r15) = some (Lib.itoa n)
    rw [e3]; rfl
  | 3, _, _ =>
    show cond (decide (n > 0)) ((count_letters k n).bind fun r4 => some r4) ((itoaS n).bind fun r15 => some r15) = some (bif decide (0 < n) then letS n.toNat else Lib.itoa n)
    by_cases h : 0 < n
    · rw [cond_dec (by omega), cond_dec h, let_ h]; rfl
    · rw [cond_ndec (by omega), cond_ndec h, e3]; rfl
  | 4, _, _ =>
    show cond (decide (n > 0)) ((count_letters k n).bind fun r6 => (strings_ToUpper k r6).bind fun r7 => some r7) ((itoaS n).bind fun r15 => some r15) = some (bif decide (0 < n) then Lib.toUpperA (letS n.toNat) else Lib.itoa n)
    by_cases h : 0 < n
    · have hl := letS_len n.toNat
      rw [cond_dec (by omega), cond_dec h, let_ h]
      simp only [Option.bind_some]
      rw [show strings_ToUpper k (letS n.toNat) = uppS (letS n.toNat) from rfl, upp_some (letS_sml (by omega) (by omega)) (by omega)]
      rfl
    · rw [cond_ndec (by omega), cond_ndec h, e3]; rfl
  | 5, _, _ =>
    show ((count_in k n 1 3999).bind fun r8 => cond r8 ((count_roman k n).bind fun r10 => some r10) ((itoaS n).bind fun r15 => some r15)) = some (bif decide (1 ≤ n ∧ n ≤ 3999) then romS n.toNat else Lib.itoa n)
    rw [in_eq]
    simp only [Option.bind_some]
    by_cases h : 1 ≤ n ∧ n ≤ 3999
    · rw [cond_dec h, cond_dec h, rom_ h]; rfl
    · rw [cond_ndec h, cond_ndec h, e3]; rfl
  | 6, _, _ =>
    show ((count_in k n 1 3999).bind fun r11 => cond r11 ((count_roman k n).bind fun r13 => (strings_ToUpper k r13).bind fun r14 => some r14) ((itoaS n).bind fun r15 => some r15)) = some (bif decide (1 ≤ n ∧ n ≤ 3999) then Lib.toUpperA (romS n.toNat) else Lib.itoa n)
    rw [in_eq]
    simp only [Option.bind_some]
    by_cases h : 1 ≤ n ∧ n ≤ 3999
    · obtain ⟨r1, _, r3⟩ := rom_ok (n := n.toNat) (by omega) (by omega)
      rw [cond_dec h, cond_dec h, rom_ h]
      simp only [Option.bind_some]
      rw [show strings_ToUpper k (romS n.toNat) = uppS (romS n.toNat) from rfl, upp_some r1 (by omega)]
      rfl
    · rw [cond_ndec h, cond_ndec h, e3]; rfl

theorem Mark_eq (k : Nat) (hk : 10020 ≤ k) {kind : Nat} (h2 : 2 ≤ kind) (h6 : kind ≤ 6) {n : Int} (hn1 : -1000000 ≤ n) (hn2 : n ≤ 1000000) : count_Mark k (kind : Int) n = some (mP kind n, 0) := by
  unfold count_Mark
  rw [in_eq, in_eq, mark_eq k hk h2 h6 hn1 hn2]
  simp only [Option.bind_some]
  rw [decide_eq_true (by omega), decide_eq_true (by omega)]
  rfl

/-! ### a mark's number -/

def num (kind : Nat) (s : List UInt8) : Int :=
  bif (atoiR s).2 then (bif kind.beq 3 || kind.beq 4 then wrt (Lib.toLowerD s) else bif kind.beq 5 || kind.beq 6 then vlu (Lib.toLowerD s) else (atoiR s).1) else (atoiR s).1

def bck (kind : Nat) (s : List UInt8) : Int × Int := bif decide (-1000000 ≤ num kind s ∧ num kind s ≤ 1000000) && (mP kind (num kind s) == s) then (num kind s, 0) else (0, 5)

theorem c24_eq (k : Nat) (hk : 10020 ≤ k) {kind : Nat} (h2 : 2 ≤ kind) (h6 : kind ≤ 6) (s : List UInt8) (n : Int) :
    count_Back.c24 k (kind : Int) s n = some (bif decide (-1000000 ≤ n ∧ n ≤ 1000000) && (mP kind n == s) then (n, 0) else (0, 5)) := by
  unfold count_Back.c24
  rw [in_eq]
  simp only [Option.bind_some]
  by_cases h : -1000000 ≤ n ∧ n ≤ 1000000
  · rw [decide_eq_true h, mark_eq k hk h2 h6 h.1 h.2]
    simp only [Bool.not_true, Bool.not_false, cond_true, cond_false, Option.bind_some, Bool.true_and]
    cases mP kind n == s <;> rfl
  · rw [decide_eq_false h]
    rfl

theorem Back_eq (k : Nat) (hk : 100000000 ≤ k) {kind : Nat} (h2 : 2 ≤ kind) (h6 : kind ≤ 6) (s : List UInt8) (hs : s.length ≤ 10000000) : count_Back k (kind : Int) s = some (bck kind s) := by
  have ea : strconv_Atoi k s = some (atoiR s) := by
    show atoiS s = _
    unfold atoiS
    rw [show Nat.ble s.length 281474976710656 = true from Nat.ble_eq_true_of_le (by omega)]
    rfl
  have el : strings_ToLower k s = some (Lib.toLowerD s) := by
    show lowS s = _
    unfold lowS
    rw [show s.length.blt 35184372088832 = true from by rw [Nat.blt_eq]; omega]
    rfl
  have hll := lower_len s
  have ew := worth_eq k (Lib.toLowerD s) (by omega) (by omega)
  have ev := value_eq k (Lib.toLowerD s) (by omega) (by omega)
  have c24 := fun n => c24_eq k (by omega) h2 h6 s n
  unfold count_Back
  rw [in_eq, decide_eq_true (by omega)]
  simp only [Option.bind_some, Bool.not_true, cond_false, ea, el, ew, ev, c24]
  unfold bck num
  cases (atoiR s).2 with
  | false => simp only [Bool.not_false, Bool.not_true, cond_false]
  | true =>
    simp only [Bool.not_true, Bool.not_false, cond_true]
    match kind, h2, h6 with
    | 2, _, _ => rfl
    | 3, _, _ => rfl
    | 4, _, _ => rfl
    | 5, _, _ => rfl
    | 6, _, _ => rfl

theorem num_mark {kind : Nat} (h2 : 2 ≤ kind) (h6 : kind ≤ 6) {n : Int} (hn1 : -1000000 ≤ n) (hn2 : n ≤ 1000000) : num kind (mP kind n) = n ∧ (mP kind n).length ≤ 2000000 := by
  obtain ⟨i1, i2⟩ := itoa_ok hn1 hn2
  have it : num kind (Lib.itoa n) = n := by unfold num; rw [i1]; rfl
  match kind, h2, h6 with
  | 2, _, _ => exact ⟨it, i2⟩
  | 3, _, _ =>
    show num 3 (bif decide (0 < n) then letS n.toNat else Lib.itoa n) = n ∧ (bif decide (0 < n) then letS n.toNat else Lib.itoa n).length ≤ 2000000
    by_cases h : 0 < n
    · have hs := letS_sml (n := n.toNat) (by omega) (by omega)
      have hl := letS_len n.toNat
      rw [cond_dec h]
      refine ⟨?_, by omega⟩
      unfold num
      rw [hs.syn, hs.lowA]
      show wrt (letS n.toNat) = n
      unfold wrt
      rw [(letS_val (by omega)).1]
      exact Int.toNat_of_nonneg (by omega)
    · rw [cond_ndec h]; exact ⟨it, i2⟩
  | 4, _, _ =>
    show num 4 (bif decide (0 < n) then Lib.toUpperA (letS n.toNat) else Lib.itoa n) = n ∧ (bif decide (0 < n) then Lib.toUpperA (letS n.toNat) else Lib.itoa n).length ≤ 2000000
    by_cases h : 0 < n
    · have hs := letS_sml (n := n.toNat) (by omega) (by omega)
      have hl := letS_len n.toNat
      rw [cond_dec h]
      refine ⟨?_, by unfold Lib.toUpperA; rw [List.length_map]; omega⟩
      unfold num
      rw [hs.synU, hs.lowU]
      show wrt (letS n.toNat) = n
      unfold wrt
      rw [(letS_val (by omega)).1]
      exact Int.toNat_of_nonneg (by omega)
    · rw [cond_ndec h]; exact ⟨it, i2⟩
  | 5, _, _ =>
    show num 5 (bif decide (1 ≤ n ∧ n ≤ 3999) then romS n.toNat else Lib.itoa n) = n ∧ (bif decide (1 ≤ n ∧ n ≤ 3999) then romS n.toNat else Lib.itoa n).length ≤ 2000000
    by_cases h : 1 ≤ n ∧ n ≤ 3999
    · obtain ⟨r1, r2, r3⟩ := rom_ok (n := n.toNat) (by omega) (by omega)
      rw [cond_dec h]
      refine ⟨?_, by omega⟩
      unfold num
      rw [r1.syn, r1.lowA]
      show vlu (romS n.toNat) = n
      rw [r2]
      exact Int.toNat_of_nonneg (by omega)
    · rw [cond_ndec h]; exact ⟨it, i2⟩
  | 6, _, _ =>
    show num 6 (bif decide (1 ≤ n ∧ n ≤ 3999) then Lib.toUpperA (romS n.toNat) else Lib.itoa n) = n ∧ (bif decide (1 ≤ n ∧ n ≤ 3999) then Lib.toUpperA (romS n.toNat) else Lib.itoa n).length ≤ 2000000
    by_cases h : 1 ≤ n ∧ n ≤ 3999
    · obtain ⟨r1, r2, r3⟩ := rom_ok (n := n.toNat) (by omega) (by omega)
      rw [cond_dec h]
      refine ⟨?_, by unfold Lib.toUpperA; rw [List.length_map]; omega⟩
      unfold num
      rw [r1.synU, r1.lowU]
      show vlu (romS n.toNat) = n
      rw [r2]
      exact Int.toNat_of_nonneg (by omega)
    · rw [cond_ndec h]; exact ⟨it, i2⟩

theorem fact (k : Nat) (hk : 10020 ≤ k) : clerestorykeep2_fourth k = some true := by
  unfold clerestorykeep2_fourth
  have := Mark_eq k hk (kind := 5) (by omega) (by omega) (n := 14) (by omega) (by omega)
  rw [show ((5 : Nat) : Int) = 5 from rfl] at this
  rw [this]
  have e : mP 5 14 = [120, 105, 118] := by decide +kernel
  rw [e]
  rfl

theorem kinds (a : Int) : ∃ m : Nat, m < 5 ∧ IntKind.wrap .i64 ((2 : Int) + (IntKind.wrap .i64 (Int.tmod (IntKind.wrap .u64 a) (5 : Int)))) = (2 + m : Nat) := by
  rw [wrap_u64, tmod_u _ (by omega)]
  generalize a % 18446744073709551616 = q
  refine ⟨(q % 5).toNat, by omega, ?_⟩
  rw [wrap_i64 (n := q % 5) (by omega) (by omega), wrap_i64 (by omega) (by omega)]
  omega

theorem tmod_rng (a : Int) : -1000000 ≤ Int.tmod a 1000001 ∧ Int.tmod a 1000001 ≤ 1000000 := by
  rcases Int.le_total 0 a with h | h
  · have := Int.tmod_nonneg 1000001 h
    have := Int.tmod_lt_of_pos a (show (0 : Int) < 1000001 by decide)
    omega
  · have e : Int.tmod a 1000001 = - Int.tmod (-a) 1000001 := by rw [Int.neg_tmod]; omega
    have h1 := Int.tmod_nonneg 1000001 (show 0 ≤ -a by omega)
    have h2 := Int.tmod_lt_of_pos (-a) (show (0 : Int) < 1000001 by decide)
    omega

def K0 : Nat := 100000000

theorem law (a b : Int) (s : List UInt8) (hs : s.length ≤ 1048576) : clerestorykeep2_CountBack K0 a b s = some true := by
  have hk : 100000000 ≤ K0 := by decide
  have hk2 : 10020 ≤ K0 := by decide
  unfold clerestorykeep2_CountBack
  rw [fact K0 hk2]
  obtain ⟨m, hm, hk'⟩ := kinds a
  have p1 : ((5 : Int) != 0) = true := rfl
  have p2 : ((1000001 : Int) != 0) = true := rfl
  obtain ⟨hr1, hr2⟩ := tmod_rng b
  simp only [Option.bind_some, p1, p2, cond_true, hk']
  generalize Int.tmod b 1000001 = n at hr1 hr2
  obtain ⟨n1, n2⟩ := num_mark (kind := 2 + m) (by omega) (by omega) hr1 hr2
  rw [Mark_eq K0 hk2 (by omega) (by omega) hr1 hr2]
  simp only [Option.bind_some]
  rw [Back_eq K0 hk (by omega) (by omega) _ (by omega)]
  simp only [Option.bind_some]
  rw [Back_eq K0 hk (by omega) (by omega) s (by omega)]
  simp only [Option.bind_some]
  have eb : bck (2 + m) (mP (2 + m) n) = (n, 0) := by
    unfold bck
    rw [n1, decide_eq_true ⟨hr1, hr2⟩, beq_self_eq_true]
    rfl
  rw [eb]
  unfold bck
  by_cases h : (decide (-1000000 ≤ num (2 + m) s ∧ num (2 + m) s ≤ 1000000) && (mP (2 + m) (num (2 + m) s) == s)) = true
  · rw [h]
    rw [Bool.and_eq_true] at h
    have h1 := of_decide_eq_true h.1
    simp only [cond_true]
    rw [Mark_eq K0 hk2 (by omega) (by omega) h1.1 h1.2]
    simp only [Option.bind_some, beq_self_eq_true, h.2]
    rfl
  · rw [Bool.not_eq_true] at h
    rw [h]
    simp only [cond_false]
    rw [Mark_eq K0 hk2 (by omega) (by omega) (n := 0) (by omega) (by omega)]
    simp only [Option.bind_some, beq_self_eq_true]
    rfl

theorem law_ex (a b : Int) (s : List UInt8) (_ : True) (_ : True) (hs : s.length ≤ 1048576) : ∃ k, clerestorykeep2_CountBack k a b s = some true := ⟨K0, law a b s hs⟩

end Go.Ev.Cm
