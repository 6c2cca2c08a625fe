/- The natives that read rules, in plain words. No condition beyond those that each theorem names. -/
import Derived.Test.YtdnnaneifaoooaaDoorEvRbW
import Derived.Test.YtdnnaneifaoooaaDoorEvTkV
set_option linter.unusedVariables false
set_option linter.unusedSimpArgs false
namespace Go.Ev.Rb
open Go Go.Ev.Tok

mutual
def mr : Rl → S38
  | .mk m h ds rs => ⟨m, h, ds.map md, mrs rs⟩
def mrs : List Rl → List S38
  | [] => []
  | r :: l => mr r :: mrs l
end

theorem mrs_app : ∀ (a b : List Rl), mrs (a ++ b) = mrs a ++ mrs b
  | [], b => rfl
  | r :: a, b => by rw [List.cons_append, mrs, mrs, mrs_app a b]; rfl

theorem mrs_len : ∀ (a : List Rl), (mrs a).length = a.length
  | [] => rfl
  | r :: a => by rw [mrs, List.length_cons, List.length_cons, mrs_len a]

theorem decls_is (k : Nat) (hk : 100010 < k) (L : List Tk) (h : Fit L) (hr : (rw L).length ≤ 100000) : cssrule_decls k (L.map mk) = some ((decs L).map md) := decls_eq k hk L h hr

theorem anyBad_loop (k : Nat) (L : List Tk) (hl : L.length ≤ 100000) (K : Option Int) : ∀ (n i : Nat), i ≤ L.length → L.length - i < n →
    ∃ x, api_SToken__v2.c5 k n (L.map mk) (L.length : Int) (i : Int) K = (bif (L.drop i).any badT then some ((x : Nat) : Int) else K)
  | 0, i, _, h => by omega
  | n + 1, i, hi, hn => by
    unfold api_SToken__v2.c5
    simp only [List.length_map]
    match hd : L.drop i with
    | [] =>
      have hi2 : i = L.length := by
        have := congrArg List.length hd
        simp at this; omega
      rw [cond_ndec (by omega)]
      exact ⟨0, rfl⟩
    | t :: q =>
      obtain ⟨h1, h2, h3, h4⟩ := at' L i t q hd
      have w1 : IntKind.wrap .i64 ((i : Int) + 1) = ((i + 1 : Nat) : Int) := by rw [wrap_i64 (by omega) (by omega)]; omega
      rw [cond_dec (by omega), cond_dec (by omega)]
      simp only [Int.toNat_natCast]
      rw [h2, show cssrule_bad k (mk t).Kind (mk t).Raw (mk t).Value (mk t).Num = some (badT t) from bad_eq k t]
      simp only [Option.bind_some, w1]
      cases hb : badT t with
      | true => exact ⟨i, by rw [List.any_cons, hb]; rfl⟩
      | false =>
        obtain ⟨x, hx⟩ := anyBad_loop k L hl K n (i + 1) (by omega) (by omega)
        rw [h3] at hx
        exact ⟨x, by rw [cond_false, hx, List.any_cons, hb]; rfl⟩

theorem anyBad (k : Nat) (hk : 100001 < k) (L : List Tk) (hl : L.length ≤ 100000) : api_SToken_ k (L.map mk) = some (L.any badT) := by
  unfold api_SToken_ api_SToken__v2
  obtain ⟨x, hx⟩ := anyBad_loop k L hl (some (-1 : Int)) k 0 (by omega) (by omega)
  simp only [List.length_map]
  rw [show ((0 : Int)) = ((0 : Nat) : Int) from rfl, hx, List.drop_zero]
  cases L.any badT with
  | true => simp only [cond_true, Option.bind_some]; rw [decide_eq_true (by omega)]
  | false => rfl

def R3 (o : Option Rl) (x : Bool × (List UInt8) × (List S66) × (List S38) × Bool) : Prop := match o with
  | none => x.2.2.2.2 = false
  | some (.mk m h ds rs) => x = (m, h, ds.map md, mrs rs, true)

theorem rule_eq (k : Nat) (hk : 100010 < k) (r : cssrule_rules.G.R) (d : Nat) (hd : d ≤ 3) (hr : ∀ d', d = d' + 1 → ∀ M : List Tk, Fit M → (rw M).length ≤ 100000 → r.cssrule_rules (M.map mk) (((3 - d' : Nat) : Nat) : Int) = some (mrs (rls d' M)))
    (h i : List Tk) (hf : Fit h) (hrw : (rw h).length ≤ 100000) (fi : Fit i) (irw : (rw i).length ≤ 100000) : ∃ x, cssrule_rule.nat k r (h.map mk) (i.map mk) ((3 - d : Nat) : Int) = some x ∧ R3 (rul (sb d) h i) x := by
  unfold cssrule_rule.nat rul
  rw [anyBad k (by omega) h hf.len]
  simp only [Option.bind_some]
  cases hb : h.any badT with
  | true => exact ⟨_, rfl, rfl⟩
  | false =>
    simp only [cond_false]
    match h with
    | [] =>
      have e0 : cssrule_Head k (([] : List Tk).map mk) = some (hdP false false []) := Head_eq k (by omega) [] hf hrw
      have e1 : cssrule_Head k ([] : List S106) = some [] := e0
      show ∃ x, ((cssrule_Head k ([] : List S106)).bind fun r8 => (cssrule_decls k (i.map mk)).bind fun r9 => some (false, r8, r9, ([] : List S38), true)) = some x ∧ _
      rw [e1, decls_is k hk i fi irw]
      exact ⟨_, rfl, rfl⟩
    | t :: q =>
      have e1 : (((((t :: q).map mk).length : Nat) : Int) == (0 : Int)) = false := beq_eq_false_iff_ne.2 (by simp only [List.length_map, List.length_cons]; omega)
      have e2 : (decide (0 ≤ (0 : Int) ∧ (0 : Int) < ((((t :: q).map mk).length : Nat) : Int))) = true := decide_eq_true (by simp only [List.length_map, List.length_cons]; omega)
      have e3 : ((t :: q).map mk).getD (0 : Int).toNat S106.d = mk t := rfl
      have e4 : (decide (0 ≤ (1 : Int) ∧ (1 : Int) ≤ ((((t :: q).map mk).length : Nat) : Int))) = true := decide_eq_true (by simp only [List.length_map, List.length_cons]; omega)
      have e5 : ((t :: q).map mk).drop (1 : Int).toNat = q.map mk := rfl
      simp only [e1, e2, e3, e4, e5, Bool.true_or, cond_true, cond_false]
      rw [show ((mk t).Kind != 3) = !atT t from rfl, show (mk t).Value = t.2.2.1 from rfl]
      cases ha : atT t with
      | false =>
        simp only [Bool.not_false, cond_true]
        rw [Head_eq k (by omega) _ hf hrw, decls_is k hk i fi irw]
        exact ⟨_, rfl, rfl⟩
      | true =>
        simp only [Bool.not_true, cond_false]
        rw [show strings_EqualFold k t.2.2.1 ([109, 101, 100, 105, 97] : List UInt8) = some (fldT t medW) from fold_eq k t medW (hf.va t (by simp)) (by kernel_rfl)]
        simp only [Option.bind_some]
        have fq : Fit q := hf.sub (List.sublist_cons_self t q)
        have qrw := rw_sub (List.sublist_cons_self t q)
        match d with
        | 0 =>
          simp only [sb]
          have : (cond (!fldT t medW) true (decide ((((3 - 0 : Nat) : Nat) : Int) ≥ 3))) = true := by cases fldT t medW <;> rfl
          rw [this]
          exact ⟨_, rfl, rfl⟩
        | d' + 1 =>
          simp only [sb]
          cases hm : fldT t medW with
          | false => exact ⟨_, rfl, rfl⟩
          | true =>
            have e6 : (decide ((((3 - (d' + 1) : Nat) : Nat) : Int) ≥ 3)) = false := decide_eq_false (by omega)
            have w1 : IntKind.wrap .i64 ((((3 - (d' + 1) : Nat) : Nat) : Int) + 1) = (((3 - d' : Nat) : Nat) : Int) := by rw [wrap_i64 (by omega) (by omega)]; omega
            simp only [Bool.not_true, cond_false, e6, w1]
            rw [Head_eq k (by omega) q fq (by omega)]
            simp only [Option.bind_some]
            rw [hr d' rfl i fi irw]
            exact ⟨_, rfl, rfl⟩

theorem rules_loop (k : Nat) (hk : 100010 < k) (r : cssrule_rules.G.R) (d : Nat) (hr : ∀ h i : List Tk, Fit h → (rw h).length ≤ 100000 → Fit i → (rw i).length ≤ 100000 → ∃ x, r.cssrule_rule (h.map mk) (i.map mk) ((3 - d : Nat) : Int) = some x ∧ R3 (rul (sb d) h i) x) :
    ∀ (n m : Nat) (L : List Tk) (acc : List S38), Fit L → (rw L).length ≤ 100000 → L.length < n → L.length < m → acc.length + L.length ≤ 100001 →
    cssrule_rules.c5 k r n (L.map mk) ((3 - d : Nat) : Int) acc = some (acc ++ mrs (rlsF (sb d) m L))
  | 0, m, L, acc, _, _, h, _, _ => by omega
  | n + 1, 0, L, acc, _, _, _, h, _ => by omega
  | n + 1, m + 1, L, acc, hf, hw, hn, hm, hacc => by
    unfold cssrule_rules.c5
    rw [solid_eq k (by omega) L hf.len, rlsF]
    simp only [Option.bind_some]
    have hS := hf.sol
    have hSw := rw_sub (sol_sub L)
    have hSl := sol_le L
    generalize hSe : sol L = S at *
    match S, hS, hSw, hSl with
    | [], _, _, _ =>
      show some acc = some (acc ++ mrs [])
      rw [mrs, List.append_nil]
    | t :: q, hS, hSw, hSl =>
      have e1 : (((((t :: q).map mk).length : Nat) : Int) == (0 : Int)) = false := beq_eq_false_iff_ne.2 (by simp only [List.length_map, List.length_cons]; omega)
      have e2 : (decide (0 ≤ (0 : Int) ∧ (0 : Int) < ((((t :: q).map mk).length : Nat) : Int))) = true := decide_eq_true (by simp only [List.length_map, List.length_cons]; omega)
      have e3 : ((t :: q).map mk).getD (0 : Int).toNat S106.d = mk t := rfl
      simp only [e1, e2, e3, cond_true, cond_false]
      rw [show ((mk t).Kind == 3) = atT t from rfl, find_eq k (by omega) (t :: q) hS (atT t) (q.length + 2) (by simp only [List.length_cons]; omega)]
      simp only [Option.bind_some]
      have hfl := fnd_len (hdT (atT t)) (q.length + 2) (t :: q)
      rw [show fnd (hdE (atT t)) (q.length + 2) (t :: q) = hdN t q from rfl]
      have hfl : hdN t q ≤ (t :: q).length := hfl
      simp only [List.length_cons] at hSl
      match hd : (t :: q).drop (hdN t q) with
      | [] =>
        have hi2 : hdN t q = (t :: q).length := by
          have := congrArg List.length hd
          simp only [List.length_drop, List.length_nil] at this; omega
        have e4 : (((hdN t q : Nat) : Int) == ((((t :: q).map mk).length : Nat) : Int)) = true := by rw [List.length_map, hi2]; exact beq_self_eq_true _
        rw [e4]
        show some acc = some (acc ++ mrs [])
        rw [mrs, List.append_nil]
      | x :: D =>
        obtain ⟨h1, h2, h3, h4⟩ := at' (t :: q) (hdN t q) x D hd
        have e4 : (((hdN t q : Nat) : Int) == ((((t :: q).map mk).length : Nat) : Int)) = false := beq_eq_false_iff_ne.2 (by rw [List.length_map]; omega)
        have hlen := hf.len
        have w1 : IntKind.wrap .i64 (((hdN t q : Nat) : Int) + 1) = ((hdN t q + 1 : Nat) : Int) := by simp only [List.length_cons] at h1; rw [wrap_i64 (by omega) (by omega)]; omega
        simp only [e4, cond_false, w1, Int.toNat_natCast]
        have hDl := congrArg List.length h3
        simp only [List.length_drop, List.length_cons] at hDl
        have hDf : Fit D := by rw [← h3]; exact hS.drop _
        have hDw : (rw D).length ≤ 100000 := by have := rw_sub (List.drop_sublist (hdN t q + 1) (t :: q)); rw [h3] at this; omega
        rw [cond_dec (by simp only [List.length_map, List.length_cons] at h1 ⊢; omega), h2]
        rw [show cssrule_brace k (mk x).Kind (mk x).Raw (mk x).Value (mk x).Num = some (brcT x) from brace_eq k x]
        simp only [Option.bind_some]
        cases hb : brcT x with
        | false =>
          simp only [cond_false]
          unfold cssrule_rules.c38
          rw [cond_dec (by simp only [List.length_map, List.length_cons] at h1 ⊢; omega)]
          simp only [Int.toNat_natCast]
          rw [← List.map_drop, h3]
          exact rules_loop k hk r d hr n m D acc hDf hDw (by omega) (by omega) (by omega)
        | true =>
          simp only [cond_true]
          rw [block_eq k (by omega) (t :: q) hS (hdN t q) x D hd]
          simp only [Option.bind_some]
          have hbl := blk_len D [clo x]
          have hHf : Fit ((t :: q).take (hdN t q)) := hS.take _
          have hHw : (rw ((t :: q).take (hdN t q))).length ≤ 100000 := by have := rw_sub (List.take_sublist (hdN t q) (t :: q)); omega
          have hIf : Fit (inn x D) := hDf.take _
          have hIw : (rw (inn x D)).length ≤ 100000 := by
            have := rw_sub (List.take_sublist (bif (blk [clo x] D).2 then (blk [clo x] D).1 - 1 else (blk [clo x] D).1) D)
            unfold inn; omega
          have hEf : Fit (D.drop (blk [clo x] D).1) := hDf.drop _
          have hEw : (rw (D.drop (blk [clo x] D).1)).length ≤ 100000 := by have := rw_sub (List.drop_sublist (blk [clo x] D).1 D); omega
          have hEl : (D.drop (blk [clo x] D).1).length ≤ D.length := by rw [List.length_drop]; omega
          -- what is done with the rule
          have hfin : ∀ I : List S106, I = (inn x D).map mk → cssrule_rules.c32 k r ((t :: q).map mk) ((3 - d : Nat) : Int) ((hdN t q : Nat) : Int) ((hdN t q + 1 + (blk [clo x] D).1 : Nat) : Int) I acc (fun (y17 : List S106) (y18 : Int) (y19 : Int) (y20 : List S38) =>
              cssrule_rules.c38 k r y17 y18 y19 y20 (fun (y25 : List S106) (y26 : Int) (y27 : List S38) => cssrule_rules.c5 k r n y25 y26 y27)) =
              some (acc ++ mrs ((rul (sb d) ((t :: q).take (hdN t q)) (inn x D)).toList ++ rlsF (sb d) m (D.drop (blk [clo x] D).1))) := by
            intro I hI
            unfold cssrule_rules.c32
            rw [cond_dec (by simp only [List.length_map, List.length_cons] at h1 ⊢; omega)]
            simp only [Int.toNat_natCast]
            obtain ⟨y, y1, y2⟩ := hr _ _ hHf hHw hIf hIw
            rw [← List.map_take, hI, y1]
            simp only [Option.bind_some]
            have hc38 : ∀ a : List S38, a.length + (D.drop (blk [clo x] D).1).length ≤ 100001 → cssrule_rules.c38 k r ((t :: q).map mk) ((3 - d : Nat) : Int) ((hdN t q + 1 + (blk [clo x] D).1 : Nat) : Int) a (fun (y25 : List S106) (y26 : Int) (y27 : List S38) => cssrule_rules.c5 k r n y25 y26 y27) = some (a ++ mrs (rlsF (sb d) m (D.drop (blk [clo x] D).1))) := by
              intro a ha
              unfold cssrule_rules.c38
              rw [cond_dec (by simp only [List.length_map, List.length_cons] at h1 ⊢; omega)]
              simp only [Int.toNat_natCast]
              rw [← List.map_drop, ← List.drop_drop, h3]
              exact rules_loop k hk r d hr n m _ a hEf hEw (by omega) (by omega) (by omega)
            unfold R3 at y2
            cases hru : rul (sb d) ((t :: q).take (hdN t q)) (inn x D) with
            | none =>
              rw [hru] at y2
              simp only at y2
              rw [y2, cond_false, hc38 acc (by omega)]
              rfl
            | some rr =>
              obtain ⟨mm, hh, dd, ss⟩ := rr
              rw [hru] at y2
              simp only at y2
              rw [y2]
              simp only [cond_true]
              rw [cond_dec (by rw [List.length_append]; simp only [List.length_cons, List.length_nil, most]; omega), hc38 _ (by rw [List.length_append]; simp only [List.length_cons, List.length_nil]; omega), mrs_app, List.append_assoc]
              rfl
          rw [cond_dec (by simp only [List.length_map, List.length_cons] at h1 ⊢; omega)]
          cases hcl : (blk [clo x] D).2 with
          | false =>
            simp only [cond_false]
            refine hfin _ ?_
            unfold inn
            rw [hcl, cond_false, Int.toNat_natCast, ← List.map_take, ← List.map_drop, List.drop_take, h3]
            have : hdN t q + 1 + (blk [clo x] D).1 - (hdN t q + 1) = (blk [clo x] D).1 := by omega
            rw [this]
          | true =>
            have hp := blk_pos _ _ hcl
            have w2 : IntKind.wrap .i64 (((hdN t q + 1 + (blk [clo x] D).1 : Nat) : Int) - 1) = ((hdN t q + (blk [clo x] D).1 : Nat) : Int) := by simp only [List.length_cons] at h1; rw [wrap_i64 (by omega) (by omega)]; omega
            simp only [cond_true, w2, Int.toNat_natCast]
            rw [cond_dec (by simp only [List.length_map, List.length_cons] at h1 ⊢; omega)]
            refine hfin _ ?_
            unfold inn
            rw [hcl, cond_true, ← List.map_take, ← List.map_drop, List.drop_take, h3]
            have : hdN t q + (blk [clo x] D).1 - (hdN t q + 1) = (blk [clo x] D).1 - 1 := by omega
            rw [this]

theorem rules_rec (k : Nat) (hk : 100010 < k) : ∀ (d m : Nat), d ≤ 3 → 2 * d + 2 ≤ m → ∀ L : List Tk, Fit L → (rw L).length ≤ 100000 → (cssrule_rules.G.rec k m).cssrule_rules (L.map mk) ((3 - d : Nat) : Int) = some (mrs (rls d L))
  | d, 0, _, h, _, _, _ => by omega
  | d, 1, _, h, _, _, _ => by omega
  | d, m + 2, hd, h, L, hf, hw => by
    show cssrule_rules.nat k (cssrule_rules.G.rec k (m + 1)) (L.map mk) ((3 - d : Nat) : Int) = _
    unfold cssrule_rules.nat
    have hl := hf.len
    have := rules_loop k hk (cssrule_rules.G.rec k (m + 1)) d (fun h i hh1 hh2 hi1 hi2 => rule_eq k hk (cssrule_rules.G.rec k m) d hd (fun d' hd' M hM1 hM2 => rules_rec k hk d' m (by omega) (by omega) M hM1 hM2) h i hh1 hh2 hi1 hi2) k (L.length + 1) L [] hf hw (by omega) (by omega) (by simp; omega)
    rw [this, rls_sb]
    rfl

theorem rules_eq (k : Nat) (hk : 100010 < k) (L : List Tk) (hf : Fit L) (hw : (rw L).length ≤ 100000) : cssrule_rules k (L.map mk) (0 : Int) = some (mrs (rls 3 L)) :=
  rules_rec k hk 3 k (by omega) (by omega) L hf hw

mutual
def cntR : Rl → Nat
  | .mk _ _ _ rs => cnts rs + 1
def cnts : List Rl → Nat
  | [] => 0
  | r :: l => cntR r + cnts l
end

mutual
def lngR : Rl → Bool
  | .mk _ _ ds rs => lngs rs || decide (30 < ds.length)
def lngs : List Rl → Bool
  | [] => false
  | r :: l => lngR r || lngs l
end

theorem cnts_app : ∀ (a b : List Rl), cnts (a ++ b) = cnts a + cnts b
  | [], b => by simp [cnts]
  | r :: a, b => by rw [List.cons_append, cnts, cnts, cnts_app a b]; omega

theorem lngs_app : ∀ (a b : List Rl), lngs (a ++ b) = (lngs a || lngs b)
  | [], b => by simp [lngs]
  | r :: a, b => by rw [List.cons_append, lngs, lngs, lngs_app a b, Bool.or_assoc]

theorem len_cnts : ∀ (a : List Rl), a.length ≤ cnts a
  | [] => by simp
  | .mk m h ds rs :: a => by
    have := len_cnts a
    rw [cnts, cntR, List.length_cons]; omega

theorem atr (L : List Rl) (i : Nat) (t : Rl) (r : List Rl) (h : L.drop i = t :: r) : i < L.length ∧ (mrs L).getD i S38.d = mr t ∧ L.drop (i + 1) = r := by
  have hi : i < L.length := by
    rcases Nat.lt_or_ge i L.length with h1 | h1
    · exact h1
    · rw [List.drop_eq_nil_of_le h1] at h; cases h
  have hm : ∀ L : List Rl, mrs L = L.map mr := by
    intro L
    induction L with
    | nil => rfl
    | cons a b ih => rw [mrs, ih]; rfl
  rw [List.drop_eq_getElem_cons hi] at h
  simp only [List.cons.injEq] at h
  refine ⟨hi, ?_, h.2⟩
  rw [hm, List.getD_eq_getElem?_getD, List.getElem?_map, List.getElem?_eq_getElem hi, h.1]; rfl

theorem drop_cnts (L : List Rl) : ∀ i : Nat, cnts (L.drop i) ≤ cnts L := by
  intro i
  have := cnts_app (L.take i) (L.drop i)
  rw [List.take_append_drop] at this
  omega

theorem many_loop (k : Nat) (r : cssrule_many.G.R) (L : List Rl) (hL : cnts L ≤ 100000) (hr : ∀ m h ds rs, Rl.mk m h ds rs ∈ L → ∃ x, r.cssrule_many (mrs rs) = some (x, lngs rs) ∧ (lngs rs = false → x = (cnts rs : Int)))
    (K : Int → Option (Int × Bool)) (hK : ∀ x, K x = some (x, false)) : ∀ (n i c : Nat), i ≤ L.length → L.length - i < n → c + cnts (L.drop i) ≤ 1000000 →
    ∃ x, cssrule_many.c7 k r n (c : Int) (mrs L) (L.length : Int) (i : Int) K = some (x, lngs (L.drop i)) ∧ (lngs (L.drop i) = false → x = ((c + (cnts (L.drop i) - (L.length - i)) : Nat) : Int))
  | 0, i, c, _, h, _ => by omega
  | n + 1, i, c, hi, hn, hc => by
    have hlen := len_cnts L
    unfold cssrule_many.c7
    match hd : L.drop i with
    | [] =>
      have hi2 : i = L.length := by
        have := congrArg List.length hd
        simp at this; omega
      rw [cond_ndec (by omega), hK]
      exact ⟨_, rfl, fun _ => by simp [cnts]⟩
    | .mk m h ds rs :: q =>
      obtain ⟨h1, h2, h3⟩ := atr L i _ q hd
      have w1 : IntKind.wrap .i64 ((i : Int) + 1) = ((i + 1 : Nat) : Int) := by rw [wrap_i64 (by omega) (by omega)]; omega
      have hmem : Rl.mk m h ds rs ∈ L := List.mem_of_mem_drop (by rw [hd]; simp)
      obtain ⟨x, x1, x2⟩ := hr m h ds rs hmem
      have hcn : cnts (L.drop i) = cnts rs + 1 + cnts q := by rw [hd, cnts, cntR]
      rw [cond_dec (by omega), cond_dec (by rw [mrs_len]; omega)]
      simp only [Int.toNat_natCast, h2, mr]
      rw [x1]
      simp only [Option.bind_some, w1, List.length_map]
      cases hl : lngs rs with
      | true =>
        have : lngs (Rl.mk m h ds rs :: q) = true := by rw [lngs, lngR, hl]; rfl
        rw [this]
        exact ⟨_, rfl, fun h => by cases h⟩
      | false =>
        have hx := x2 hl
        rw [cond_false]
        by_cases h30 : 30 < ds.length
        · have : lngs (Rl.mk m h ds rs :: q) = true := by rw [lngs, lngR, decide_eq_true h30]; simp
          rw [this, decide_eq_true (by omega)]
          exact ⟨_, rfl, fun h => by cases h⟩
        · have h4 : lngs (Rl.mk m h ds rs :: q) = lngs q := by rw [lngs, lngR, hl, decide_eq_false h30]; rfl
          have w2 : IntKind.wrap .i64 ((c : Int) + x) = ((c + cnts rs : Nat) : Int) := by rw [hx, wrap_i64 (by omega) (by omega)]; omega
          rw [decide_eq_false (by omega), cond_false, w2, h4]
          obtain ⟨y, y1, y2⟩ := many_loop k r L hL hr K hK n (i + 1) (c + cnts rs) (by omega) (by omega) (by rw [h3]; omega)
          rw [h3] at y1 y2
          refine ⟨y, y1, fun hf => ?_⟩
          rw [y2 hf]
          have := len_cnts q
          have hql := congrArg List.length h3
          simp only [List.length_drop] at hql
          rw [cnts, cntR]
          congr 1
          omega

theorem many_rec (k : Nat) (hk : 100001 < k) : ∀ (m : Nat) (L : List Rl), cnts L ≤ 100000 → cnts L < m → ∃ x, (cssrule_many.G.rec k m).cssrule_many (mrs L) = some (x, lngs L) ∧ (lngs L = false → x = (cnts L : Int))
  | 0, L, _, h => by omega
  | m + 1, L, hL, h => by
    show ∃ x, cssrule_many.nat k (cssrule_many.G.rec k m) (mrs L) = _ ∧ _
    unfold cssrule_many.nat
    have hlen := len_cnts L
    have hsub : ∀ mm hh ds rs, Rl.mk mm hh ds rs ∈ L → cnts rs < cnts L := by
      intro mm hh ds rs hm
      obtain ⟨a, b, e⟩ := List.append_of_mem hm
      rw [e, cnts_app, cnts, cntR]; omega
    obtain ⟨x, x1, x2⟩ := many_loop k (cssrule_many.G.rec k m) L hL (fun mm hh ds rs hm => many_rec k hk m rs (by have := hsub _ _ _ _ hm; omega) (by have := hsub _ _ _ _ hm; omega))
      (fun (y11 : Int) => some (y11, false)) (fun _ => rfl) k 0 L.length (by omega) (by omega) (by rw [List.drop_zero]; omega)
    rw [List.drop_zero] at x1 x2
    rw [mrs_len]
    refine ⟨x, x1, fun hf => ?_⟩
    rw [x2 hf]
    congr 1
    omega

theorem many_eq (k : Nat) (hk : 100001 < k) (L : List Rl) (hL : cnts L ≤ 100000) : ∃ x, cssrule_many k (mrs L) = some (x, lngs L) ∧ (lngs L = false → x = (cnts L : Int)) := many_rec k hk k L hL (by omega)

/-- There are not more rules than blocks. -/
theorem cnt_rlsF (sub : Option (List Tk → List Rl)) (hsub : ∀ f, sub = some f → ∀ L, cnts (f L) ≤ L.countP brcT) : ∀ (n : Nat) (L : List Tk), cnts (rlsF sub n L) ≤ L.countP brcT
  | 0, L => by rw [rlsF, cnts]; omega
  | n + 1, L => by
    rw [rlsF]
    have hs : (sol L).countP brcT ≤ L.countP brcT := (sol_sub L).countP_le
    match hL : sol L with
    | [] => simp [cnts]
    | t :: q =>
      rw [hL] at hs
      simp only
      match hd : (t :: q).drop (hdN t q) with
      | [] => simp [cnts]
      | x :: D =>
        have h1 : (x :: D).countP brcT ≤ (t :: q).countP brcT := by rw [← hd]; exact (List.drop_sublist _ _).countP_le
        rw [List.countP_cons] at h1
        simp only
        cases hb : brcT x with
        | false =>
          rw [hb] at h1
          rw [cond_false]
          have := cnt_rlsF sub hsub n D
          simp only [Bool.false_eq_true, if_false] at h1
          omega
        | true =>
          rw [hb] at h1
          simp only [if_true] at h1
          rw [cond_true, cnts_app]
          have h2 := cnt_rlsF sub hsub n (D.drop (blk [clo x] D).1)
          have h3 : (inn x D).countP brcT + (D.drop (blk [clo x] D).1).countP brcT ≤ D.countP brcT := by
            have e : (inn x D).countP brcT ≤ (D.take (blk [clo x] D).1).countP brcT := by
              unfold inn
              refine (List.take_sublist_take_left ?_).countP_le
              cases (blk [clo x] D).2 <;> simp
            have e2 := congrArg (List.countP brcT) (List.take_append_drop (blk [clo x] D).1 D)
            rw [List.countP_append] at e2
            omega
          have h4 : cnts (rul sub ((t :: q).take (hdN t q)) (inn x D)).toList ≤ (inn x D).countP brcT + 1 := by
            unfold rul
            cases ((t :: q).take (hdN t q)).any badT with
            | true => simp [cnts]
            | false =>
              rw [cond_false]
              cases (t :: q).take (hdN t q) with
              | nil => simp [cnts, cntR]
              | cons u v =>
                simp only
                cases atT u with
                | false => simp [cnts, cntR]
                | true =>
                  simp only [Bool.not_true, cond_false]
                  cases hsb : sub with
                  | none => simp [cnts]
                  | some f =>
                    simp only
                    cases fldT u medW with
                    | false => simp [cnts]
                    | true =>
                      have := hsub f hsb (inn x D)
                      simp only [cond_true, Option.toList_some, cnts, cntR]
                      omega
          omega

theorem cnt_rls : ∀ (d : Nat) (L : List Tk), cnts (rls d L) ≤ L.countP brcT
  | 0, L => by rw [rls_sb]; exact cnt_rlsF _ (by intro f h; cases h) _ L
  | d + 1, L => by rw [rls_sb]; exact cnt_rlsF _ (by intro f h; simp only [sb, Option.some.injEq] at h; rw [← h]; exact cnt_rls d) _ L

theorem cnt_cut (s : List UInt8) (hs : s.length ≤ 100000) : cnts (rls 3 (cutP s)) ≤ s.length := by
  have h1 := cnt_rls 3 (cutP s)
  have h2 := List.countP_le_length (p := brcT) (l := cutP s)
  have h3 := cutP_len _ s (Nat.le_refl _)
  omega

/-- A sheet that is read. -/
theorem Parse_eq (k : Nat) (hk : 100010 < k) (s : List UInt8) : cssrule_Parse k s = some (bif decide (3000 < s.length) || (lngs (rls 3 (cutP s)) || decide (60 < cnts (rls 3 (cutP s)))) then ((2 : Int), ([] : List S38)) else (0, mrs (rls 3 (cutP s)))) := by
  unfold cssrule_Parse
  by_cases h : 3000 < s.length
  · have e : (decide ((s.length : Int) > 3000)) = true := decide_eq_true (by omega)
    have e2 : (decide (3000 < s.length)) = true := decide_eq_true h
    simp only [e, e2, cond_true, Bool.true_or]
  · have e : (decide ((s.length : Int) > 3000)) = false := decide_eq_false (by omega)
    have e2 : (decide (3000 < s.length)) = false := decide_eq_false h
    simp only [e, e2, cond_false, Bool.false_or]
    rw [Cut_eq k s (by omega) (by omega)]
    simp only [Option.bind_some]
    rw [show toks s = (cutP s).map mk from rfl, rules_eq k hk (cutP s) (Fit.cut s (by omega)) (by rw [rw_cut]; omega)]
    simp only [Option.bind_some]
    have hc := cnt_cut s (by omega)
    obtain ⟨x, x1, x2⟩ := many_eq k (by omega) (rls 3 (cutP s)) (by omega)
    rw [x1]
    simp only [Option.bind_some]
    cases hl : lngs (rls 3 (cutP s)) with
    | true => rfl
    | false =>
      rw [x2 hl]
      simp only [cond_false, Bool.false_or]
      by_cases h3 : 60 < cnts (rls 3 (cutP s))
      · rw [decide_eq_true (show (((cnts (rls 3 (cutP s)) : Nat) : Int) > 60) by omega), decide_eq_true h3]; rfl
      · rw [decide_eq_false (show ¬ (((cnts (rls 3 (cutP s)) : Nat) : Int) > 60) by omega), decide_eq_false h3]; rfl

end Go.Ev.Rb
