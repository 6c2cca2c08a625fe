/- VarAgain, as its native says it: true. Its condition: no list or text that comes in is longer than 1048576. -/
import Derived.Test.YtipobmmndkgdfaaDoorEvVaW
set_option linter.unusedVariables false
set_option linter.unusedSimpArgs false
set_option maxRecDepth 100000
namespace Go.Ev.Va
open Go Go.Ev.Tok

/-- Fuel. -/
def K0 : Nat := 200000000

theorem k0 : 100000000 < K0 := by decide

theorem put_fact : clerestorykeep2_put K0 = some true := by kernel_rfl

/-! ### what is told, in order -/

theorem fin_mem {kn : List S27} : ∀ {l : List S27} {x : S27}, x ∈ fin kn l → ∃ v ∈ l, x.1 = v.1 ∧ (lastP kn v.1).2 = true ∧ x.2 = (lastP kn v.1).1
  | [], x, h => by cases h
  | v :: r, x, h => by
    rw [fin] at h
    rcases List.mem_append.1 h with h1 | h1
    · cases hl : (lastP kn v.1).2 with
      | true =>
        rw [hl, cond_true] at h1
        rw [List.mem_singleton.1 h1]
        exact ⟨v, by simp, rfl, hl, rfl⟩
      | false => rw [hl, cond_false] at h1; cases h1
    · obtain ⟨u, h2, h3⟩ := fin_mem h1
      exact ⟨u, by simp [h2], h3⟩

theorem fin_sub (kn : List S27) : ∀ l : List S27, ((fin kn l).map (·.1)).Sublist (l.map (·.1))
  | [] => List.Sublist.refl _
  | v :: r => by
    rw [fin, List.map_append, List.map_cons]
    cases (lastP kn v.1).2 with
    | true => exact (fin_sub kn r).cons_cons _
    | false => exact (fin_sub kn r).cons _

theorem fin_ct {kn l : List S27} (h : Ct l) : Ct (fin kn l) where
  own x hx := by
    obtain ⟨v, h1, h2, _⟩ := fin_mem hx
    rw [h2]; exact h.own v h1
  nd := h.nd.sublist (fin_sub kn l)
  len := Nat.le_trans (fin_len kn l) h.len

theorem fin_all {kn : List S27} : ∀ {l : List S27}, (∀ v ∈ l, lastP kn v.1 = (v.2, true)) → fin kn l = l
  | [], _ => rfl
  | v :: r, h => by
    rw [fin, h v (by simp), fin_all fun u hu => h u (by simp [hu])]
    rfl

theorem res_val (k : Nat) (hk : 10000001 < k) {all : List S27} (h : Ct all) : ∀ x ∈ resA k all, x.2.length ≤ 400 := by
  intro x hx
  obtain ⟨v, h1, h2, h3, h4⟩ := fin_mem hx
  have hll : (lft all).length ≤ all.length := List.length_filter_le _ _
  have hcl := h.len
  have hkn := (rsv_known k hk 30 [] (lft all) ⟨by simp, fun x hx => by cases hx⟩ (by omega)).1
  rw [h4]
  exact lastP_len hkn.val v.1

/-! ### values that ask for nothing -/

theorem fillV_plain (k : Nat) (hk : 10000001 < k) (kn : List S27) (s : List UInt8) (h : s.any (· == 40) = false) (hl : s.length ≤ 400) : fillV k s kn = (s, true) := by
  unfold fillV
  rw [Fill_plain k hk kn s (no_fun s h), decide_eq_true hl]
  rfl

theorem ring_plain {all : List S27} (h : ∀ x ∈ all, x.2.any (· == 40) = false) (n : Nm) : ring all n = false := by
  cases hr : ring all n with
  | false => rfl
  | true =>
    exfalso
    have he : ∀ a b, b ∉ edg all a := by
      intro a b hb
      have := edg_sub hb
      obtain ⟨v, h1, h2⟩ := List.mem_flatMap.1 this
      rw [onV_plain v.2 (h v h1)] at h2
      cases h2
    have hp := ring_iff.1 hr
    cases hp with
    | one h2 => exact he _ _ h2
    | snoc _ h2 => exact he _ _ h2

theorem stp_plain (k : Nat) (hk : 10000001 < k) (left : List S27) : ∀ (r kn nx : List S27), (∀ x ∈ r, x.2.any (· == 40) = false ∧ x.2.length ≤ 400) → stp k left r kn nx = (kn ++ r, nx)
  | [], kn, nx, _ => by rw [stp, List.append_nil]
  | v :: r, kn, nx, h => by
    obtain ⟨h1, h2⟩ := h v (by simp)
    rw [stp, show wts left v.2 = false from by unfold wts; rw [onV_plain v.2 h1]; rfl, cond_false, fillV_plain k hk kn v.2 h1 h2]
    simp only [cond_true]
    show stp k left r (kn ++ [v]) nx = _
    rw [stp_plain k hk left r (kn ++ [v]) nx (fun x hx => h x (by simp [hx])), List.append_assoc]
    rfl

theorem resA_plain (k : Nat) (hk : 10000001 < k) {a : List S27} (hc : Ct a) (h : ∀ x ∈ a, x.2.any (· == 40) = false ∧ x.2.length ≤ 400) : resA k a = a := by
  unfold resA
  have hl : lft a = a := List.filter_eq_self.2 fun x hx => by rw [ring_plain fun y hy => (h y hy).1]; rfl
  rw [hl]
  have hr : rsv k 30 [] a = a := by
    match a, h with
    | [], _ => rfl
    | v :: r, h =>
      rw [rsv, stp_plain k hk (v :: r) (v :: r) [] [] h]
      rfl
  rw [hr]
  exact fin_all fun v hv => lastP_mem hc.nd hv

/-! ### the law's own loops -/

theorem same_loop (k : Nat) (L : List S27) (hL : L.length ≤ 1000000) : ∀ (n i : Nat), i ≤ L.length → L.length - i < n → clerestorykeep2_sameVars.c9 k n L L (i : Int) (some true) = some true
  | 0, i, _, h => by omega
  | n + 1, i, hi, hn => by
    unfold clerestorykeep2_sameVars.c9
    simp only [Int.toNat_natCast]
    match hd : L.drop i with
    | [] =>
      have := end_of hi hd
      rw [cond_ndec (by omega)]
    | t :: q =>
      obtain ⟨h1, h2, h3, h4⟩ := atS S27.d L i t q hd
      have w1 : IntKind.wrap .i64 ((i : Int) + 1) = ((i + 1 : Nat) : Int) := by rw [wrap_i64 (by omega) (by omega)]; omega
      rw [cond_dec (by omega), cond_dec (by omega), cond_dec (by omega)]
      simp only [beq_self_eq_true, Bool.and_self, Bool.not_true, cond_false, w1]
      exact same_loop k L hL n (i + 1) (by omega) (by omega)

theorem same_eq (k : Nat) (L : List S27) (hL : L.length ≤ 1000000) (hk : L.length < k) : clerestorykeep2_sameVars k L L = some true := by
  unfold clerestorykeep2_sameVars
  simp only [bne_self_eq_false, cond_false]
  exact same_loop k L hL k 0 (Nat.zero_le _) (by omega)

theorem again_loop (k : Nat) (b : Bool) (L : List S27) (hL : L.length ≤ 1000000) (hV : ∀ x ∈ L, x.2.length ≤ 400) (hk : 1000000 < k) (K : Bool → List S27 → Option Bool) : ∀ (n i : Nat), i ≤ L.length → L.length - i < n →
    clerestorykeep2_VarAgain.c9 k n b (i : Int) L K = bif (L.drop i).any (fun x => x.2.any (· == 40)) then some b else K b L
  | 0, i, _, h => by omega
  | n + 1, i, hi, hn => by
    unfold clerestorykeep2_VarAgain.c9
    simp only [Int.toNat_natCast]
    match hd : L.drop i with
    | [] =>
      have := end_of hi hd
      rw [cond_ndec (by omega)]
      rfl
    | t :: q =>
      obtain ⟨h1, h2, h3, h4⟩ := atS S27.d L i t q hd
      have w1 : IntKind.wrap .i64 ((i : Int) + 1) = ((i + 1 : Nat) : Int) := by rw [wrap_i64 (by omega) (by omega)]; omega
      have hv := hV t h4
      rw [cond_dec (by omega), cond_dec (by omega)]
      simp only [h2, w1, show clerestorykeep2_hasText k t.Value [40] = some (hasT [40] t.2) from has_eq k t.2 [40] (by omega) (by decide) (by decide) (by omega), hasT_one, Option.bind_some]
      rw [List.any_cons]
      cases t.2.any (· == 40) with
      | true => rfl
      | false =>
        simp only [cond_false, Bool.false_or]
        rw [again_loop k b L hL hV hk K n (i + 1) (by omega) (by omega), h3]

theorem again (l : List S27) (hl : ∀ x ∈ l, x.2.length ≤ NB) (hn : l.length ≤ NB) : clerestorykeep2_VarAgain K0 l = some true := by
  unfold NB at hn
  unfold clerestorykeep2_VarAgain
  rw [put_fact]
  simp only [Option.bind_some]
  obtain ⟨m, hm, hm2, hm3⟩ : ∃ m : Nat, (if (30 : Int) < (l.length : Int) then (30 : Int) else (l.length : Int)) = (m : Int) ∧ m ≤ l.length ∧ m ≤ 30 := by
    split
    · exact ⟨30, rfl, by omega, by omega⟩
    · exact ⟨l.length, rfl, by omega, by omega⟩
  simp only [hm, Int.toNat_natCast]
  rw [cond_dec (by omega), Resolve_eq K0 k0 (l.take m) (by rw [List.length_take]; omega) fun x hx => hl x (List.mem_of_mem_take hx)]
  simp only [Option.bind_some]
  obtain ⟨hc, _⟩ := cnt_ok (l.take m) [] ct_nil
  have hval := res_val K0 (by decide) hc
  have hct : Ct (resP K0 (l.take m)) := fin_ct hc
  have hlen := hct.len
  have hK : (resP K0 (l.take m)).length < K0 := Nat.lt_of_le_of_lt hlen (by decide)
  have := again_loop K0 true (resP K0 (l.take m)) (by omega) hval (by decide) (fun (y11 : Bool) (y12 : List S27) =>
    (vars_Resolve K0 y12).bind fun r13 => (clerestorykeep2_sameVars K0 y12 r13).bind fun r14 => some (cond y11 r14 false)) K0 0 (Nat.zero_le _) (by omega)
  rw [List.drop_zero] at this
  refine this.trans ?_
  cases ha : (resP K0 (l.take m)).any (fun x => x.2.any (· == 40)) with
  | true => rfl
  | false =>
    rw [cond_false]
    have hno : ∀ x ∈ resP K0 (l.take m), x.2.any (· == 40) = false ∧ x.2.length ≤ 400 := fun x hx => by
      refine ⟨?_, hval x hx⟩
      rw [List.any_eq_false] at ha
      exact Bool.eq_false_iff.2 (ha x hx)
    rw [Resolve_eq K0 k0 _ (by omega) fun x hx => by have := hval x hx; unfold NB; omega]
    simp only [Option.bind_some]
    have e : resP K0 (resP K0 (l.take m)) = resP K0 (l.take m) := by
      have h1 : cntP [] (resP K0 (l.take m)) = resP K0 (l.take m) := by
        rw [cnt_id _ [] (by rw [List.nil_append]; exact hct), List.nil_append]
      show resA K0 (cntP [] (resP K0 (l.take m))) = _
      rw [h1]
      exact resA_plain K0 (by decide) hct hno
    rw [e, same_eq K0 _ (by omega) hK]
    rfl

theorem again_ex (l : List S27) (h : l.length ≤ 1048576 ∧ ∀ y0 ∈ l, y0.1.length ≤ 1048576 ∧ y0.2.length ≤ 1048576) : ∃ k, clerestorykeep2_VarAgain k l = some true :=
  ⟨K0, again l (fun x hx => (h.2 x hx).2) h.1⟩

end Go.Ev.Va
