/- What a filled value hangs on: the names that it asks for alone. No condition beyond those that each theorem names. -/
import Derived.Test.YtipobmmndkgdfaaDoorEvVaH
set_option linter.unusedVariables false
set_option linter.unusedSimpArgs false
set_option linter.unusedSectionVars false
set_option maxRecDepth 100000
namespace Go.Ev.Va
open Go Go.Ev.Tok

/-! ### names of parts -/

theorem ask1_app {x : Nm} (S : List Tk) : ∀ {r : List Tk}, x ∈ ask1 r → x ∈ ask1 (r ++ S)
  | [], h => by cases h
  | t :: r, h => by
    rw [List.cons_append, ask1_cons]
    rw [ask1_cons] at h
    cases hs : silT t with
    | true => rw [hs, cond_true] at h; rw [cond_true]; exact ask1_app S h
    | false => rw [hs, cond_false] at h; rw [cond_false]; exact h

theorem onL_app {x : Nm} (S : List Tk) : ∀ {l : List Tk}, x ∈ onL l → x ∈ onL (l ++ S)
  | [], h => by cases h
  | t :: r, h => by
    rw [List.cons_append, onL]
    rw [onL] at h
    rcases List.mem_append.1 h with h1 | h1
    · refine List.mem_append.2 (.inl ?_)
      cases hv : varT t with
      | true => rw [hv, cond_true] at h1; rw [cond_true]; exact ask1_app S h1
      | false => rw [hv, cond_false] at h1; cases h1
    · exact List.mem_append.2 (.inr (onL_app S h1))

theorem onL_behind {x : Nm} {l : List Tk} (h : x ∈ onL l) : ∀ P : List Tk, x ∈ onL (P ++ l)
  | [] => h
  | t :: P => by
    rw [List.cons_append, onL]
    exact List.mem_append.2 (.inr (onL_behind h P))

theorem sil_var {t : Tk} (h : silT t = true) : varT t = false := by
  unfold silT at h
  unfold varT
  cases h2 : t.1 == 2 with
  | false => rfl
  | true =>
    rw [eq_of_beq h2] at h
    cases h

theorem ask1_nsl : ∀ r : List Tk, ask1 (nsl r) = ask1 r
  | [] => rfl
  | t :: r => by
    have ih := ask1_nsl r
    unfold nsl at ih ⊢
    rw [List.filter_cons, ask1_cons]
    cases hs : silT t with
    | true => simp only [Bool.not_true, Bool.false_eq_true, if_false, cond_true]; exact ih
    | false => simp only [Bool.not_false, if_true, cond_false]; rw [ask1_cons, hs]; rfl

theorem onL_nsl : ∀ l : List Tk, onL (nsl l) = onL l
  | [] => rfl
  | t :: r => by
    have ih := onL_nsl r
    have ih2 := ask1_nsl r
    unfold nsl at ih ih2 ⊢
    rw [List.filter_cons]
    cases hs : silT t with
    | true => simp only [Bool.not_true, Bool.false_eq_true, if_false]; rw [onL, sil_var hs]; exact ih
    | false => simp only [Bool.not_false, if_true]; rw [onL, onL, ih, ih2]

/-! ### what is bad ends at a line's end -/

theorem tx_bad (q : UInt8) : ∀ r : List UInt8, (tx q r).1 = false → (tx q r).2.1 < r.length → (10 : UInt8) ∈ r
  | [], _, h => by simp at h
  | [c], h1, h2 => by
    unfold tx at h1 h2
    cases hq : c == q with
    | true => rw [hq] at h1; cases h1
    | false =>
      rw [hq] at h1 h2
      simp only [cond_false] at h1 h2
      cases h10 : c == 10 with
      | true => rw [eq_of_beq h10]; simp
      | false => rw [h10] at h2; simp at h2
  | c :: d :: r, h1, h2 => by
    unfold tx at h1 h2
    cases hq : c == q with
    | true => rw [hq] at h1; cases h1
    | false =>
      rw [hq] at h1 h2
      simp only [cond_false] at h1 h2
      cases h10 : c == 10 with
      | true => rw [eq_of_beq h10]; simp
      | false =>
        rw [h10] at h1 h2
        simp only [cond_false] at h1 h2
        cases h92 : c == 92 with
        | true =>
          rw [h92] at h1 h2
          simp only [cond_true, List.length_cons] at h1 h2
          have := tx_bad q r h1 (by omega)
          simp [this]
        | false =>
          rw [h92] at h1 h2
          simp only [cond_false, List.length_cons] at h1 h2
          have := tx_bad q (d :: r) h1 (by simp only [List.length_cons]; omega)
          exact List.mem_cons_of_mem _ this

theorem tok1_bad (s : List UInt8) (h : (tok1 s).1 = 6) (hl : (tok1 s).2.1 < s.length) : (10 : UInt8) ∈ s := by
  unfold tok1 at h hl
  by_cases c1 : cnt isBlank s > 0
  · rw [if_pos c1] at h; cases h
  rw [if_neg c1] at h hl
  cases c2 : hd1 s 47 && hd1 (s.drop 1) 42 with
  | true => rw [c2] at h; cases h
  | false =>
  rw [c2] at h hl
  simp only [cond_false] at h hl
  cases c3 : hd1 s 39 || hd1 s 34 with
  | true =>
    rw [c3] at h hl
    simp only [cond_true] at h hl
    cases c4 : (tx (s.getD 0 0) (s.drop 1)).1 with
    | true => rw [c4] at h; cases h
    | false =>
      rw [c4] at hl
      simp only [cond_false] at hl
      exact List.mem_of_mem_drop (tx_bad _ _ c4 (by rw [List.length_drop]; omega))
  | false =>
  rw [c3] at h hl
  simp only [cond_false] at h hl
  cases c5 : hd1 s 35 && decide (1 < s.length) && (isSg (s.getD 1 0) || esc (s.drop 1)) with
  | true => rw [c5] at h; cases h
  | false =>
  rw [c5] at h hl
  simp only [cond_false] at h hl
  cases c6 : hd1 s 64 && bg (s.drop 1) with
  | true => rw [c6] at h; cases h
  | false =>
  rw [c6] at h hl
  simp only [cond_false] at h hl
  by_cases c7 : nlen s > 0
  · rw [if_pos c7] at h
    unfold numT at h
    cases c9 : hd1 (s.drop (nlen s)) 37 with
    | true => rw [c9] at h; cases h
    | false =>
      rw [c9] at h
      cases c10 : bg (s.drop (nlen s)) <;> rw [c10] at h <;> cases h
  rw [if_neg c7] at h hl
  cases c8 : bg s with
  | true =>
    rw [c8] at h
    simp only [cond_true] at h
    unfold nameT at h
    cases c9 : hd1 (s.drop (nm s).2) 40 with
    | true => rw [c9] at h; cases h
    | false => rw [c9] at h; cases h
  | false =>
    rw [c8] at h hl
    simp only [cond_false] at h hl
    match s, hl, c8, h with
    | a :: b :: r, _, c8, h =>
      have h92 : a = 92 := by
        unfold oneK at h
        rw [show (a :: b :: r).getD 0 0 = a from rfl] at h
        cases h92 : a == 92 with
        | true => exact eq_of_beq h92
        | false =>
          rw [h92] at h
          generalize (a == 40 || a == 91 || a == 123) = p at h
          generalize (a == 41 || a == 93 || a == 125) = q at h
          cases p <;> cases q <;> cases h
      subst h92
      have : (b != 10) = false := by
        have e : bg (92 :: b :: r) = (isSt 92 || (((92 : UInt8) == 92) && b != 10)) := rfl
        rw [e] at c8
        have e2 : isSt 92 = false := by decide
        rw [e2] at c8
        simpa using c8
      have hb : b = 10 := by simpa using this
      rw [hb]; simp

theorem bad_nl {s : List UInt8} {A B : List Tk} {t : Tk} (h : cutP s = A ++ t :: B) (hB : B ≠ []) (ht : badT t = true) : (10 : UInt8) ∈ s := by
  obtain ⟨_, h2, h3⟩ := cut_split A (t :: B) s h
  have hne : rw (t :: B) ≠ [] := by intro e; rw [e, cutP_nil] at h2; cases h2
  have h4 := h2
  rw [cutP_cons _ hne] at h4
  injection h4 with h5 h6
  have e1 : (tok1 (rw (t :: B))).1 = 6 := by
    have := congrArg (fun x : Tk => x.1) h5
    have e6 : t.1 = 6 := eq_of_beq ht
    rw [← e6]; exact this
  have hlt : (tok1 (rw (t :: B))).2.1 < (rw (t :: B)).length := by
    rcases Nat.lt_or_ge (tok1 (rw (t :: B))).2.1 (rw (t :: B)).length with h | h
    · exact h
    · rw [List.drop_eq_nil_of_le h, cutP_nil] at h6
      exact absurd h6.symm hB
  rw [h3]
  exact List.mem_append.2 (.inr (tok1_bad _ e1 hlt))

/-! ### what is asked -/

theorem asked_in (k : Nat) (hk : 10000001 < k) (L : List Tk) (h : L.length ≤ 10000000) : ∃ (nm : List UInt8) (M : List Tk) (b c : Bool), vars_asked k (L.map mk) = some (nm, M.map mk, b, c) ∧ M <:+ L ∧ (c = true → nm ∈ ask1 L) := by
  unfold vars_asked
  rw [asked3 k _ k L h (by omega)]
  have hs := List.dropWhile_suffix silT (l := L)
  have ha : ask1 L = match L.dropWhile silT with
    | [] => []
    | x :: _ => bif x.1 == 1 then [x.2.2.1] else [] := rfl
  rw [ha]
  generalize L.dropWhile silT = M at hs
  match M, hs with
  | [], _ => exact ⟨[], [], false, false, rfl, List.nil_suffix, fun h => by cases h⟩
  | t :: r, hs =>
    have hl : (t :: r).length ≤ L.length := hs.length_le
    have e0 : ((((((t :: r).map mk).length : Nat) : Int)) == 0) = false := by simp only [List.length_map, List.length_cons]; rw [beq_eq_false_iff_ne]; omega
    have e2 : (decide (0 ≤ (0 : Int) ∧ (0 : Int) < ((((t :: r).map mk).length : Nat) : Int))) = true := decide_eq_true (by simp only [List.length_map, List.length_cons]; omega)
    have e5 : (decide (0 ≤ (1 : Int) ∧ (1 : Int) ≤ ((((t :: r).map mk).length : Nat) : Int))) = true := decide_eq_true (by simp only [List.length_map, List.length_cons]; omega)
    have e3 : ((t :: r).map mk).getD (0 : Int).toNat S51.d = mk t := rfl
    have e4 : ((t :: r).map mk).drop (1 : Int).toNat = r.map mk := rfl
    simp only [e0, e2, e3, e4, e5, Bool.true_or, cond_true, cond_false]
    cases hn : ((mk t).Kind != (1 : Int)) with
    | true => exact ⟨[], [], false, false, rfl, List.nil_suffix, fun h => by cases h⟩
    | false =>
      simp only [cond_false]
      have hin : (mk t).Value ∈ (bif t.1 == 1 then [t.2.2.1] else []) := by
        have : (t.1 == 1) = true := by
          have h1 : (t.1 != 1) = false := hn
          simpa using h1
        rw [this, cond_true]
        exact List.mem_singleton.2 rfl
      have hr : r.length ≤ 10000000 := by simp only [List.length_cons] at hl; omega
      rw [asked15 k _ _ k r hr (by omega)]
      have hs2 := (List.dropWhile_suffix silT (l := r)).trans ((List.suffix_cons t r).trans hs)
      generalize r.dropWhile silT = N at hs2
      match N, hs2 with
      | [], _ => exact ⟨_, [], false, true, rfl, List.nil_suffix, fun _ => hin⟩
      | u :: q, hs2 =>
        have e0 : ((((((u :: q).map mk).length : Nat) : Int)) == 0) = false := by simp only [List.length_map, List.length_cons]; rw [beq_eq_false_iff_ne]; omega
        have e2 : (decide (0 ≤ (0 : Int) ∧ (0 : Int) < ((((u :: q).map mk).length : Nat) : Int))) = true := decide_eq_true (by simp only [List.length_map, List.length_cons]; omega)
        have e5 : (decide (0 ≤ (1 : Int) ∧ (1 : Int) ≤ ((((u :: q).map mk).length : Nat) : Int))) = true := decide_eq_true (by simp only [List.length_map, List.length_cons]; omega)
        have e3 : ((u :: q).map mk).getD (0 : Int).toNat S51.d = mk u := rfl
        have e4 : ((u :: q).map mk).drop (1 : Int).toNat = q.map mk := rfl
        simp only [e0, e2, e3, e4, e5, Bool.true_or, cond_true, cond_false]
        generalize (cond ((mk u).Kind != (12 : Int)) true (!((mk u).Raw == ([44] : List UInt8)))) = z
        cases z with
        | true => exact ⟨[], [], false, false, rfl, List.nil_suffix, fun h => by cases h⟩
        | false => exact ⟨_, q, true, true, rfl, (List.suffix_cons u q).trans hs2, fun _ => hin⟩

/-! ### filled alike -/

theorem cnd {α : Type} {b : Bool} {x x' y y' : α} (h1 : b = true → x = x') (h2 : b = false → y = y') : cond b x y = cond b x' y' := by
  cases b with
  | true => exact h1 rfl
  | false => exact h2 rfl

theorem bnd {α β : Type} {o : Option α} {f g : α → Option β} (h : ∀ a, o = some a → f a = g a) : o.bind f = o.bind g := by
  cases o with
  | none => rfl
  | some a => exact h a rfl

section
variable {vs vs' : List S27} (k : Nat) (hk : 10000001 < k) (hv : vs.length ≤ 1000) (hv' : vs'.length ≤ 1000)
include hk hv hv'

theorem put_congr (r : vars_Fill.G.R) (L : List Tk) (hf : Fit L) (hrw : (rw L).length ≤ 10000000) (hl : ∀ n ∈ ask1 L, lastP vs n = lastP vs' n)
    (hr : ∀ M : List Tk, M <:+ L → r.vars_Fill (hdP false false M) vs = r.vars_Fill (hdP false false M) vs') : vars_put.nat k r (L.map mk) vs = vars_put.nat k r (L.map mk) vs' := by
  obtain ⟨nm, M, b, c, h1, h2, h3⟩ := asked_in k hk L hf.len
  unfold vars_put.nat
  rw [h1]
  simp only [Option.bind_some]
  cases c with
  | false => rfl
  | true =>
    rw [last_eq k vs nm hv, last_eq k vs' nm hv', hl nm (h3 rfl)]
    simp only [Bool.not_true, cond_false, Option.bind_some]
    refine cnd (fun _ => rfl) fun _ => ?_
    cases b with
    | false => rfl
    | true =>
      have hM := rw_sub h2.sublist
      rw [Head_eq k hk M (hf.sub h2.sublist) (by omega)]
      simp only [Bool.not_true, cond_false, Option.bind_some]
      rw [hr M h2]

theorem fill_congr_loop (r : vars_Fill.G.R) (L : List Tk) (h : Fit L) (hput : ∀ (P : List Tk) (t : Tk) (q : List Tk) (z : Nat), L = P ++ t :: q → varT t = true → 2 ≤ z → z ≤ q.length + 1 → r.vars_put ((q.take (z - 2)).map mk) vs = r.vars_put ((q.take (z - 2)).map mk) vs')
    (K : List UInt8 → Option (List UInt8 × Bool)) : ∀ (n i : Nat) (acc : List UInt8), i ≤ L.length → vars_Fill.c13 k r n vs (L.map mk) (i : Int) acc K = vars_Fill.c13 k r n vs' (L.map mk) (i : Int) acc K
  | 0, i, acc, _ => rfl
  | n + 1, i, acc, hi => by
    have hl := h.len
    rw [vars_Fill.c13, vars_Fill.c13]
    simp only [List.length_map, Int.toNat_natCast]
    refine cnd (fun hlt => ?_) fun _ => rfl
    have hlt := of_decide_eq_true hlt
    match hd : L.drop i with
    | [] => have := end_of hi hd; omega
    | t :: q =>
      obtain ⟨h1, h2, h3, h4⟩ := at' L i t q hd
      have w1 : IntKind.wrap .i64 ((i : Int) + 1) = ((i + 1 : Nat) : Int) := by rw [wrap_i64 (by omega) (by omega)]; omega
      refine cnd (fun _ => ?_) fun _ => rfl
      simp only [h2, show vars_isVar k (mk t).Kind (mk t).Raw (mk t).Value (mk t).Num = some (varT t) from isVar_eq k t (h.va t h4), Option.bind_some, w1]
      refine cnd (fun _ => ?_) fun hvt => ?_
      · refine cnd (fun _ => ?_) fun _ => rfl
        refine bnd fun a _ => ?_
        exact fill_congr_loop r L h hput K n (i + 1) _ (by omega)
      · have hvt : varT t = true := by simpa using hvt
        refine cnd (fun _ => ?_) fun _ => rfl
        have hfq : Fit (t :: q) := by rw [← hd]; exact h.drop i
        have hlq : (t :: q).length = L.length - i := by rw [← hd, List.length_drop]
        have ht2 : (t.1 == 2) = true := by unfold varT at hvt; rw [Bool.and_eq_true] at hvt; exact hvt.1
        obtain ⟨z, hz, hz2⟩ := closed_ok k hk t q hfq ht2
        rw [← List.map_drop, hd, hz]
        simp only [Option.bind_some]
        rcases hz2 with rfl | ⟨hz2, hz3⟩
        · rfl
        · have hz0 : ((z : Int) == (0 : Int)) = false := by rw [beq_eq_false_iff_ne]; omega
          have w2 : IntKind.wrap .i64 ((i : Int) + (z : Int)) = ((i + z : Nat) : Int) := by rw [wrap_i64 (by omega) (by omega)]; omega
          have w3 : IntKind.wrap .i64 (((i + z : Nat) : Int) - 1) = ((i + z - 1 : Nat) : Int) := by rw [wrap_i64 (by omega) (by omega)]; omega
          rw [hz0]
          simp only [cond_false, w2, w3, Int.toNat_natCast]
          refine cnd (fun _ => ?_) fun _ => rfl
          have hsl : ((L.map mk).take (i + z - 1)).drop (i + 1) = ((q.take (z - 2)).map mk) := by
            rw [List.drop_take, ← List.map_drop, h3, ← List.map_take]
            congr 2; omega
          rw [hsl, hput (L.take i) t q z (by rw [← hd, List.take_append_drop]) hvt hz2 (by simpa using hz3)]
          refine bnd fun a _ => ?_
          refine cnd (fun _ => rfl) fun _ => ?_
          refine bnd fun a2 _ => ?_
          refine bnd fun a3 _ => ?_
          refine cnd (fun _ => rfl) fun _ => ?_
          exact fill_congr_loop r L h hput K n (i + z) _ (by omega)

theorem rec_congr : ∀ (m : Nat) (s : List UInt8), s.length ≤ 400 → (10 : UInt8) ∉ s → (∀ n ∈ onV s, lastP vs n = lastP vs' n) → (vars_Fill.G.rec k m).vars_Fill s vs = (vars_Fill.G.rec k m).vars_Fill s vs'
  | 0, s, _, _, _ => rfl
  | n + 1, s, hs, h10, hl => by
    show vars_Fill.nat k (vars_Fill.G.rec k n) s vs = vars_Fill.nat k (vars_Fill.G.rec k n) s vs'
    unfold vars_Fill.nat
    refine cnd (fun _ => rfl) fun _ => ?_
    rw [Cut_eq k s (by omega) (by omega)]
    simp only [Option.bind_some]
    have hf := Fit.cut s (by omega)
    have hrw := rw_cut s
    refine fill_congr_loop k hk hv hv' _ (cutP s) hf (fun P t q z he hvt hz hz2 => ?_) _ k 0 [] (Nat.zero_le _)
    match n with
    | 0 => rfl
    | n' + 1 =>
      show vars_put.nat k (vars_Fill.G.rec k n') ((q.take (z - 2)).map mk) vs = vars_put.nat k (vars_Fill.G.rec k n') ((q.take (z - 2)).map mk) vs'
      have hq : q = q.take (z - 2) ++ q.drop (z - 2) := (List.take_append_drop _ _).symm
      have hS : q.drop (z - 2) ≠ [] := by
        intro e
        have := congrArg List.length e
        rw [List.length_drop] at this
        simp at this; omega
      have hsub : (q.take (z - 2)).Sublist (cutP s) := by
        rw [he]
        exact (List.take_sublist _ _).trans ((List.sublist_cons_self t q).trans (List.sublist_append_right _ _))
      have hlr := rw_sub hsub
      rw [hrw] at hlr
      refine put_congr k hk hv hv' _ (q.take (z - 2)) (hf.sub hsub) (by omega) (fun x hx => hl x ?_) fun M hM => ?_
      · unfold onV
        rw [he]
        refine onL_behind ?_ P
        rw [onL, hvt, cond_true]
        refine List.mem_append.2 (.inl ?_)
        rw [hq]
        exact ask1_app _ hx
      · obtain ⟨Q, hQ⟩ := hM
        have hes : cutP s = (P ++ t :: Q) ++ M ++ q.drop (z - 2) := by
          have hq2 : Q ++ (M ++ q.drop (z - 2)) = q := by rw [← List.append_assoc, hQ, List.take_append_drop]
          rw [he, List.append_assoc, List.append_assoc, List.cons_append, hq2]
        have hC : cutP (rw M) = M := cut_seg hes
        have hMs : M.Sublist (cutP s) := by
          refine List.Sublist.trans ?_ hsub
          rw [← hQ]; exact List.sublist_append_right _ _
        have hbad : ∀ u ∈ M, badT u = false := by
          intro u hu
          cases hb : badT u with
          | false => rfl
          | true =>
            exfalso
            obtain ⟨M1, M2, hM12⟩ := List.append_of_mem hu
            refine h10 (bad_nl (A := (P ++ t :: Q) ++ M1) (t := u) (B := M2 ++ q.drop (z - 2)) ?_ (by simp [hS]) hb)
            rw [hes, hM12]
            simp only [List.append_assoc, List.cons_append]
        have hcn : cutP (hdP false false M) = nrm M := by
          rw [head_nrm]
          exact cut_nrm _ M (Nat.le_refl _) hC hbad
        have hhl := hdP_len M false false (hf.sub hMs).ne
        simp only [cond_false] at hhl
        have hMl := rw_sub hMs
        rw [hrw] at hMl
        refine rec_congr n' (hdP false false M) (by omega) (fun hm => ?_) fun x hx => hl x ?_
        · rw [head_nrm] at hm
          obtain ⟨w, hw, hm2⟩ := List.mem_flatten.1 hm
          obtain ⟨u, hu, rfl⟩ := List.mem_map.1 hw
          rcases nrm_mem _ M (Nat.le_refl _) u hu with rfl | hu
          · exact absurd hm2 (by decide)
          · refine h10 ?_
            rw [← hrw]
            exact List.mem_flatten.2 ⟨u.2.1, List.mem_map_of_mem (f := fun t : Tk => t.2.1) (hMs.subset hu), hm2⟩
        · unfold onV at hx ⊢
          rw [hcn, ← onL_nsl, nsl_nrm _ M (Nat.le_refl _), onL_nsl] at hx
          rw [hes, List.append_assoc]
          exact onL_behind (onL_app _ hx) _

theorem fill_congr (s : List UInt8) (h10 : (10 : UInt8) ∉ s) (hl : ∀ n ∈ onV s, lastP vs n = lastP vs' n) : fillV k s vs = fillV k s vs' := by
  unfold fillV
  congr 1
  by_cases hs : s.length ≤ 400
  · exact rec_congr k hk hv hv' k s hs h10 hl
  · obtain ⟨n, rfl⟩ : ∃ n, k = n + 1 := ⟨k - 1, by omega⟩
    show vars_Fill.nat (n + 1) (vars_Fill.G.rec (n + 1) n) s vs = vars_Fill.nat (n + 1) (vars_Fill.G.rec (n + 1) n) s vs'
    unfold vars_Fill.nat
    rw [show (decide ((s.length : Int) > 400)) = true from decide_eq_true (by omega)]
    rfl
end

end Go.Ev.Va
