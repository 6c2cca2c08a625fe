/- VarRing, as its native says it: true. Its condition: no list or text that comes in is longer than 1048576. -/
import Derived.Test.YtipobmmndkgdfaaDoorEvVaG
set_option linter.unusedVariables false
set_option linter.unusedSimpArgs false
set_option linter.unusedSectionVars false
set_option maxRecDepth 100000
namespace Go.Ev.Va
open Go Go.Ev.Tok

theorem hasT_iff {w : List UInt8} : ∀ {s : List UInt8}, hasT w s = true ↔ w <:+: s
  | [] => by
    rw [hasT, List.isPrefixOf_iff_prefix, List.infix_nil, List.prefix_nil]
  | a :: r => by
    rw [hasT, Bool.or_eq_true, hasT_iff (s := r), List.isPrefixOf_iff_prefix, List.infix_cons_iff]

/-! ### what a name says -/

theorem nm_plain : ∀ s : List UInt8, (92 : UInt8) ∉ s → (nm s).1 = s.take (nm s).2
  | [], _ => rfl
  | [c], _ => by unfold nm; cases isSg c <;> rfl
  | c :: d :: r, h => by
    have hc : (c == 92) = false := beq_eq_false_iff_ne.2 fun e => h (by simp [e])
    have ih := nm_plain (d :: r) fun hm => h (List.mem_cons_of_mem _ hm)
    rw [nm, hc, Bool.false_and, cond_false]
    cases isSg c with
    | true => simp only [cond_true]; rw [List.take_succ_cons, ← ih]
    | false => rfl

theorem tok1_name (s : List UInt8) (h : (tok1 s).1 = 1) : (tok1 s).2.2.1 = (nm s).1 := by
  unfold tok1 at h ⊢
  by_cases c1 : cnt isBlank s > 0
  · rw [if_pos c1] at h; cases h
  rw [if_neg c1] at h ⊢
  cases c2 : hd1 s 47 && hd1 (s.drop 1) 42 with
  | true => rw [c2] at h; cases h
  | false =>
  rw [c2] at h
  simp only [cond_false] at h ⊢
  cases c3 : hd1 s 39 || hd1 s 34 with
  | true =>
    rw [c3] at h
    cases c4 : (tx (s.getD 0 0) (s.drop 1)).1 <;> rw [c4] at h <;> cases h
  | false =>
  rw [c3] at h
  simp only [cond_false] at h ⊢
  cases c5 : hd1 s 35 && decide (1 < s.length) && (isSg (s.getD 1 0) || esc (s.drop 1)) with
  | true => rw [c5] at h; cases h
  | false =>
  rw [c5] at h
  simp only [cond_false] at h ⊢
  cases c6 : hd1 s 64 && bg (s.drop 1) with
  | true => rw [c6] at h; cases h
  | false =>
  rw [c6] at h
  simp only [cond_false] at h ⊢
  by_cases c7 : nlen s > 0
  · rw [if_pos c7] at h
    unfold numT at h
    cases c9 : hd1 (s.drop (nlen s)) 37 with
    | true => rw [c9] at h; cases h
    | false =>
      rw [c9] at h
      cases c10 : bg (s.drop (nlen s)) <;> rw [c10] at h <;> cases h
  rw [if_neg c7] at h ⊢
  cases c8 : bg s with
  | true =>
    rw [c8] at h
    simp only [cond_true] at h ⊢
    unfold nameT at h ⊢
    cases c9 : hd1 (s.drop (nm s).2) 40 with
    | true => rw [c9] at h; cases h
    | false => rfl
  | false =>
    rw [c8] at h
    simp only [cond_false] at h
    unfold oneK at h
    generalize (s.getD 0 0 == 40 || s.getD 0 0 == 91 || s.getD 0 0 == 123) = p at h
    generalize (s.getD 0 0 == 41 || s.getD 0 0 == 93 || s.getD 0 0 == 125) = q at h
    generalize (s.getD 0 0 == 92) = r at h
    cases p <;> cases q <;> cases r <;> cases h

theorem name_val : ∀ (n : Nat) (s : List UInt8), s.length ≤ n → (92 : UInt8) ∉ s → ∀ t ∈ cutP s, (t.1 == 1) = true → t.2.2.1 <:+: s
  | 0, s, h, _, t, ht, _ => by
    have : s = [] := List.length_eq_zero_iff.1 (by omega)
    subst this
    simp [cutP_nil] at ht
  | n + 1, s, h, hb, t, ht, h2 => by
    by_cases hs : s = []
    · subst hs; simp [cutP_nil] at ht
    · rw [cutP_cons s hs] at ht
      have hp := (tok1_ok s hs).1
      rcases List.mem_cons.1 ht with rfl | ht
      · have h2 := eq_of_beq h2
        unfold tokO at h2 ⊢
        simp only at h2 ⊢
        rw [tok1_name s h2, nm_plain s hb]
        exact (List.take_prefix _ _).isInfix
      · have := name_val n _ (by rw [List.length_drop]; have : 0 < s.length := List.length_pos_iff.2 hs; omega) (fun hm => hb (List.mem_of_mem_drop hm)) t ht h2
        exact this.trans (List.drop_suffix _ _).isInfix

theorem ask1_mem {x : Nm} {r : List Tk} (h : x ∈ ask1 r) : ∃ t ∈ r, (t.1 == 1) = true ∧ x = t.2.2.1 := by
  unfold ask1 at h
  split at h
  · cases h
  · rename_i t q e
    have hm : t ∈ r := (List.dropWhile_sublist silT).subset (by rw [e]; simp)
    cases h1 : t.1 == 1 with
    | true => rw [h1, cond_true] at h; exact ⟨t, hm, h1, List.mem_singleton.1 h⟩
    | false => rw [h1, cond_false] at h; cases h

theorem onL_mem {x : Nm} : ∀ {l : List Tk}, x ∈ onL l → ∃ t ∈ l, (t.1 == 1) = true ∧ x = t.2.2.1
  | [], h => by cases h
  | t :: r, h => by
    rw [onL] at h
    rcases List.mem_append.1 h with h1 | h1
    · cases hv : varT t with
      | true =>
        rw [hv, cond_true] at h1
        obtain ⟨u, h2, h3⟩ := ask1_mem h1
        exact ⟨u, by simp [h2], h3⟩
      | false => rw [hv, cond_false] at h1; cases h1
    · obtain ⟨u, h2, h3⟩ := onL_mem h1
      exact ⟨u, by simp [h2], h3⟩

theorem onV_sub {x : Nm} {s : List UInt8} (hb : (92 : UInt8) ∉ s) (h : x ∈ onV s) : x <:+: s := by
  obtain ⟨t, h1, h2, rfl⟩ := onL_mem h
  exact name_val _ s (Nat.le_refl _) hb t h1 h2

/-! ### the ring -/

def rg (k i : Nat) : S27 :=
  ⟨([45, 45, 114, 105, 110, 103] : List UInt8) ++ bytesU ([(IntKind.wrap .u8 (IntKind.wrap .i64 ((97 : Int) + (i : Int))))]),
   ([120, 32, 118, 97, 114, 40, 45, 45, 121, 44, 32, 118, 97, 114, 40, 45, 45, 114, 105, 110, 103] : List UInt8) ++ bytesU ([(IntKind.wrap .u8 (IntKind.wrap .i64 ((97 : Int) + (Int.tmod (IntKind.wrap .i64 ((i : Int) + 1)) (IntKind.wrap .i64 ((k : Int) + 1))))))]) ++ ([41, 41] : List UInt8)⟩

theorem bytesU_len (l : List Int) : (bytesU l).length = l.length := by unfold bytesU; simp

theorem ring_step (q : Nat) (l : List S27) (b : Bool) (k i : Nat) (hk : k < 4) (hi : i ≤ k) (acc : List S27) (ha : acc.length ≤ 1000) (n : Nat) (K : List S27 → Bool → List S27 → Option Bool) :
    clerestorykeep2_VarRing.c23 q (n + 1) l b (k : Int) (i : Int) acc K = clerestorykeep2_VarRing.c23 q n l b (k : Int) ((i + 1 : Nat) : Int) (acc ++ [rg k i]) K := by
  rw [clerestorykeep2_VarRing.c23]
  have w1 : IntKind.wrap .i64 ((k : Int) + 1) = ((k + 1 : Nat) : Int) := by rw [wrap_i64 (by omega) (by omega)]; omega
  have w2 : IntKind.wrap .i64 ((i : Int) + 1) = ((i + 1 : Nat) : Int) := by rw [wrap_i64 (by omega) (by omega)]; omega
  rw [cond_dec (by omega)]
  simp only [bytesU_len, List.length_append, List.length_cons, List.length_nil]
  have c1 : ((((k + 1 : Nat) : Int)) != 0) = true := by rw [bne_iff_ne]; omega
  rw [show (IntKind.wrap .i64 ((k : Int) + 1) != 0) = true from by rw [w1]; exact c1]
  simp only [cond_true, show Nat.ble (0 + 1 + 1 + 1 + 1 + 1 + 1 + (0 + 1)) 9223372036854775807 = true from rfl,
    show Nat.ble (0 + 1 + 1 + 1 + 1 + 1 + 1 + 1 + 1 + 1 + 1 + 1 + 1 + 1 + 1 + 1 + 1 + 1 + 1 + 1 + 1 + 1 + (0 + 1)) 9223372036854775807 = true from rfl,
    show Nat.ble (0 + 1 + 1 + 1 + 1 + 1 + 1 + 1 + 1 + 1 + 1 + 1 + 1 + 1 + 1 + 1 + 1 + 1 + 1 + 1 + 1 + 1 + (0 + 1) + (0 + 1 + 1)) 9223372036854775807 = true from rfl]
  rw [most_ok (by omega), cond_true]
  unfold rg
  rw [w2]

theorem ring_end (q : Nat) (l : List S27) (b : Bool) (k : Nat) (acc : List S27) (n : Nat) (K : List S27 → Bool → List S27 → Option Bool) :
    clerestorykeep2_VarRing.c23 q (n + 1) l b (k : Int) ((k + 1 : Nat) : Int) acc K = K l b acc := by
  rw [clerestorykeep2_VarRing.c23, cond_ndec (by omega)]

def rgs (k : Nat) : List S27 := (List.range (k + 1)).map (rg k)

theorem ring_loop (q : Nat) (l : List S27) (b : Bool) (k : Nat) (hk : k < 4) (K : List S27 → Bool → List S27 → Option Bool) : ∀ (n i : Nat) (acc : List S27), i ≤ k + 1 → k + 1 - i < n → acc.length ≤ 900 + i →
    clerestorykeep2_VarRing.c23 q n l b (k : Int) (i : Int) acc K = K l b (acc ++ (List.range' i (k + 1 - i)).map (rg k))
  | 0, i, acc, _, h, _ => by omega
  | n + 1, i, acc, hi, hn, ha => by
    by_cases he : i = k + 1
    · subst he
      rw [ring_end, Nat.sub_self]
      simp
    · rw [ring_step q l b k i hk (by omega) acc (by omega), ring_loop q l b k hk K n (i + 1) _ (by omega) (by omega) (by rw [List.length_append]; simp; omega)]
      rw [show k + 1 - i = (k + 1 - (i + 1)) + 1 by omega, List.range'_succ, List.map_cons, List.append_assoc]
      rfl

/-! ### facts of the ring's names and values, by computing -/

def rname (i : Nat) : Nm := [45, 45, 114, 105, 110, 103, UInt8.ofNat (97 + i)]

theorem rg_facts : ∀ k : Fin 4, ∀ i : Fin 4, i.val ≤ k.val → (rg k.val i.val).1 = rname i.val ∧ ownN (rg k.val i.val).1 = true ∧ hasT [114, 105, 110, 103] (rg k.val i.val).1 = true ∧ (rg k.val i.val).2.length ≤ 100 ∧ onV (rg k.val i.val).2 = [[45, 45, 121], rname ((i.val + 1) % (k.val + 1))] := by
  decide +kernel

theorem rname_inj : ∀ i j : Fin 4, rname i.val = rname j.val → i = j := by decide +kernel

theorem rgs_mem {k : Nat} (hk : k < 4) {x : S27} (h : x ∈ rgs k) : ∃ i : Nat, i ≤ k ∧ x = rg k i ∧ x.1 = rname i ∧ ownN x.1 = true ∧ hasT [114, 105, 110, 103] x.1 = true ∧ x.2.length ≤ 100 ∧ onV x.2 = [[45, 45, 121], rname ((i + 1) % (k + 1))] := by
  obtain ⟨i, h1, rfl⟩ := List.mem_map.1 h
  rw [List.mem_range] at h1
  exact ⟨i, by omega, rfl, rg_facts ⟨k, hk⟩ ⟨i, by omega⟩ (by show i ≤ k; omega)⟩

theorem rgs_nd {k : Nat} (hk : k < 4) : ((rgs k).map (·.1)).Nodup := by
  have : ∀ k : Fin 4, ((rgs k.val).map (·.1)).Nodup := by decide +kernel
  exact this ⟨k, hk⟩

theorem lastF_app {f1 f2 : S27 → List UInt8} {nm : Nm} (B : List S27) (h : ∀ x ∈ B, f1 x ≠ nm) : ∀ (A : List S27), Bw.lastF f1 f2 nm (B ++ A) = Bw.lastF f1 f2 nm A := by
  induction B with
  | nil => intro A; rfl
  | cons x r ih =>
    intro A
    rw [List.cons_append, Bw.lastF, show (f1 x == nm) = false from beq_eq_false_iff_ne.2 (h x (by simp)), cond_false]
    exact ih (fun y hy => h y (by simp [hy])) A

theorem lastP_app {A B : List S27} {nm : Nm} (h : ∀ x ∈ B, x.1 ≠ nm) : lastP (A ++ B) nm = lastP A nm := by
  unfold lastP
  rw [List.reverse_append]
  exact lastF_app _ (fun x hx => h x (by simpa using hx)) _

def rw4 : List UInt8 := [114, 105, 110, 103]

/-- Values and names of which no one speaks of the ring. -/
structure Fr (a : List S27) : Prop where
  nam : ∀ x ∈ a, hasT rw4 x.1 = false
  val : ∀ x ∈ a, hasT rw4 x.2 = false
  bs : ∀ x ∈ a, (92 : UInt8) ∉ x.2

theorem fr_edg {a : List S27} (h : Fr a) {x y : Nm} (hy : y ∈ edg a x) : hasT rw4 y = false := by
  obtain ⟨v, h1, h2⟩ := List.mem_flatMap.1 (edg_sub hy)
  have h3 := onV_sub (h.bs v h1) h2
  cases hr : hasT rw4 y with
  | false => rfl
  | true =>
    have := hasT_iff.2 ((hasT_iff.1 hr).trans h3)
    rw [h.val v h1] at this
    cases this

theorem fin_app (kn : List S27) : ∀ (l m : List S27), fin kn (l ++ m) = fin kn l ++ fin kn m
  | [], m => rfl
  | v :: r, m => by rw [List.cons_append, fin, fin, fin_app kn r m, List.append_assoc]

section
variable {a : List S27} {k : Nat} (hk : k < 4) (hF : Fr a)
include hk hF

theorem ring_ne {x : Nm} (hx : hasT rw4 x = false) : ∀ u ∈ rgs k, u.1 ≠ x := by
  intro u hu e
  obtain ⟨i, _, _, _, _, h, _⟩ := rgs_mem hk hu
  rw [e] at h
  rw [show hasT [114, 105, 110, 103] x = hasT rw4 x from rfl, hx] at h
  cases h

theorem edg_same {x : Nm} (hx : hasT rw4 x = false) : edg (a ++ rgs k) x = edg a x := by
  unfold edg
  rw [lastP_app (ring_ne hk hF hx)]

theorem path_same {x y : Nm} (hx : hasT rw4 x = false) : Path (edg (a ++ rgs k)) x y ↔ Path (edg a) x y := by
  constructor
  · intro h
    have : Path (edg a) x y ∧ hasT rw4 y = false := by
      induction h with
      | one h1 => rw [edg_same hk hF hx] at h1; exact ⟨.one h1, fr_edg hF h1⟩
      | snoc _ h2 ih => rw [edg_same hk hF ih.2] at h2; exact ⟨.snoc ih.1 h2, fr_edg hF h2⟩
    exact this.1
  · intro h
    have : Path (edg (a ++ rgs k)) x y ∧ hasT rw4 y = false := by
      induction h with
      | one h1 => exact ⟨.one (by rw [edg_same hk hF hx]; exact h1), fr_edg hF h1⟩
      | snoc _ h2 ih => exact ⟨.snoc ih.1 (by rw [edg_same hk hF ih.2]; exact h2), fr_edg hF h2⟩
    exact this.1

theorem ct_ring (hc : Ct a) (hl : a.length ≤ 15) : Ct (a ++ rgs k) where
  own x hx := by
    rcases List.mem_append.1 hx with h | h
    · exact hc.own x h
    · obtain ⟨i, _, _, _, h, _⟩ := rgs_mem hk h; exact h
  nd := by
    rw [List.map_append, List.nodup_append]
    refine ⟨hc.nd, rgs_nd hk, fun x hx y hy e => ?_⟩
    obtain ⟨u, hu, rfl⟩ := List.mem_map.1 hx
    obtain ⟨v, hv, rfl⟩ := List.mem_map.1 hy
    exact ring_ne hk hF (hF.nam u hu) v hv e.symm
  len := by
    rw [List.length_append]
    unfold rgs
    rw [List.length_map, List.length_range]; omega

theorem edg_ring (hc : Ct (a ++ rgs k)) {i : Nat} (hi : i ≤ k) : rname ((i + 1) % (k + 1)) ∈ edg (a ++ rgs k) (rname i) := by
  have hm : rg k i ∈ rgs k := List.mem_map.2 ⟨i, List.mem_range.2 (by omega), rfl⟩
  have hf := rg_facts ⟨k, hk⟩ ⟨i, by omega⟩ hi
  have h1 : lastP (a ++ rgs k) (rname i) = ((rg k i).2, true) := by
    rw [← hf.1]
    exact lastP_mem hc.nd (List.mem_append.2 (.inr hm))
  unfold edg
  rw [h1]
  show _ ∈ onV (rg k i).2
  rw [hf.2.2.2.2]
  simp

theorem ring_true (hc : Ct (a ++ rgs k)) {i : Nat} (hi : i ≤ k) : ring (a ++ rgs k) (rname i) = true := by
  rw [ring_iff]
  have key : ∀ j : Nat, Path (edg (a ++ rgs k)) (rname i) (rname ((i + j + 1) % (k + 1))) := by
    intro j
    induction j with
    | zero => exact .one (edg_ring hk hF hc hi)
    | succ j ih =>
      have := edg_ring hk hF hc (i := (i + j + 1) % (k + 1)) (by have := Nat.mod_lt (i + j + 1) (show k + 1 > 0 by omega); omega)
      rw [Nat.mod_add_mod] at this
      exact .snoc ih this
  have := key k
  rw [show i + k + 1 = i + (k + 1) by omega, Nat.add_mod_right, Nat.mod_eq_of_lt (by omega)] at this
  exact this

theorem lft_ring (hc : Ct (a ++ rgs k)) : lft (a ++ rgs k) = lft a := by
  unfold lft
  rw [List.filter_append]
  have h1 : a.filter (fun x => !ring (a ++ rgs k) x.1) = a.filter (fun x => !ring a x.1) := by
    apply List.filter_congr
    intro x hx
    congr 1
    rw [Bool.eq_iff_iff, ring_iff, ring_iff]
    exact path_same hk hF (hF.nam x hx)
  have h2 : (rgs k).filter (fun x => !ring (a ++ rgs k) x.1) = [] := by
    rw [List.filter_eq_nil_iff]
    intro x hx
    obtain ⟨i, h1, _, h2, _⟩ := rgs_mem hk hx
    rw [h2, ring_true hk hF hc h1]
    decide
  rw [h1, h2, List.append_nil]

theorem resA_ring (q : Nat) (hq : 10000001 < q) (hca : Ct a) (hc : Ct (a ++ rgs k)) : resA q (a ++ rgs k) = resA q a := by
  unfold resA
  rw [lft_ring hk hF hc, fin_app]
  have hll : (lft a).length ≤ a.length := List.length_filter_le _ _
  have hcl := hca.len
  obtain ⟨_, h2⟩ := rsv_known q hq 30 [] (lft a) ⟨by simp, fun x hx => by cases hx⟩ (by omega)
  have h3 : fin (rsv q 30 [] (lft a)) (rgs k) = [] := by
    have : ∀ l : List S27, (∀ x ∈ l, x ∈ rgs k) → fin (rsv q 30 [] (lft a)) l = [] := by
      intro l
      induction l with
      | nil => intro _; rfl
      | cons v r ih =>
        intro h
        rw [fin, ih fun x hx => h x (by simp [hx])]
        rw [lastP_none (nm := v.1) fun x hx e => ?_]
        · rfl
        · rcases h2 x hx with h4 | ⟨u, h4, h5⟩
          · cases h4
          · exact ring_ne hk hF (hF.nam u (List.mem_filter.1 h4).1) v (h v (by simp)) (by rw [← e, h5])
    exact this _ fun x hx => hx
  rw [h3, List.append_nil]

end

theorem cnt_len : ∀ (l acc : List S27), (cntP acc l).length ≤ acc.length + l.length
  | [], acc => Nat.le_refl _
  | v :: r, acc => by
    rw [cntP, List.length_cons]
    cases ownN v.1 with
    | false => simp only [Bool.not_false, cond_true]; have := cnt_len r acc; omega
    | true =>
      simp only [Bool.not_true, cond_false]
      cases ixN v.1 acc with
      | some i => have := cnt_len r (acc.set i v); rw [List.length_set] at this; simp only; omega
      | none =>
        simp only
        cases decide (acc.length < 20) with
        | true => have := cnt_len r (acc ++ [v]); rw [List.length_append] at this; simp at this; simp only [cond_true]; omega
        | false => have := cnt_len r acc; simp only [cond_false]; omega

/-- .. that are not handed in. -/
def badR (x : S27) : Bool := hasT rw4 x.2 || hasT [92] x.2 || hasT rw4 x.1

theorem ring_args (k : Nat) (b : Bool) (m : Int) (L : List S27) (hL : L.length ≤ 1000000) (hV : ∀ x ∈ L, x.1.length ≤ NB ∧ x.2.length ≤ NB) (hk : 100000000 < k) (K : List S27 → Int → Bool → Option Bool) : ∀ (n i : Nat), i ≤ L.length → L.length - i < n →
    clerestorykeep2_VarRing.c9 k n L m b (i : Int) K = bif (L.drop i).any badR then some b else K L m b
  | 0, i, _, h => by omega
  | n + 1, i, hi, hn => by
    unfold clerestorykeep2_VarRing.c9
    simp only [Int.toNat_natCast]
    match hd : L.drop i with
    | [] =>
      have := end_of hi hd
      rw [cond_ndec (by omega)]
      rfl
    | t :: q =>
      obtain ⟨h1, h2, h3, h4⟩ := atS S27.d L i t q hd
      have w1 : IntKind.wrap .i64 ((i : Int) + 1) = ((i + 1 : Nat) : Int) := by rw [wrap_i64 (by omega) (by omega)]; omega
      obtain ⟨hv1, hv2⟩ := hV t h4
      unfold NB at hv1 hv2
      rw [cond_dec (by omega), cond_dec (by omega)]
      have e0 : decide (0 ≤ (i : Int) ∧ (i : Int) < (L.length : Int)) = true := decide_eq_true (by omega)
      simp only [h2, w1, e0, Bool.true_or, cond_true, show clerestorykeep2_hasText k t.Value [114, 105, 110, 103] = some (hasT rw4 t.2) from has_eq k t.2 _ (by omega) (by decide) (by decide) (by omega),
        show clerestorykeep2_hasText k t.Value [92] = some (hasT [92] t.2) from has_eq k t.2 _ (by omega) (by decide) (by decide) (by omega),
        show clerestorykeep2_hasText k t.Name [114, 105, 110, 103] = some (hasT rw4 t.1) from has_eq k t.1 _ (by omega) (by decide) (by decide) (by omega), Option.bind_some]
      rw [List.any_cons, badR, ring_args k b m L hL hV hk K n (i + 1) (by omega) (by omega), h3]
      cases hasT rw4 t.2 <;> cases hasT [92] t.2 <;> cases hasT rw4 t.1 <;> rfl

theorem ringLaw (l : List S27) (m : Int) (hl : ∀ x ∈ l, x.1.length ≤ NB ∧ x.2.length ≤ NB) (hn : l.length ≤ NB) : clerestorykeep2_VarRing K0 l m = some true := by
  unfold NB at hn
  unfold clerestorykeep2_VarRing
  rw [put_fact]
  simp only [Option.bind_some]
  obtain ⟨j, hj, hj2, hj3⟩ : ∃ j : Nat, (if (15 : Int) < (l.length : Int) then (15 : Int) else (l.length : Int)) = (j : Int) ∧ j ≤ l.length ∧ j ≤ 15 := by
    split
    · exact ⟨15, rfl, by omega, by omega⟩
    · exact ⟨l.length, rfl, by omega, by omega⟩
  simp only [hj, Int.toNat_natCast]
  rw [cond_dec (by omega)]
  have hV : ∀ x ∈ l.take j, x.1.length ≤ NB ∧ x.2.length ≤ NB := fun x hx => hl x (List.mem_of_mem_take hx)
  have hll : (l.take j).length ≤ 15 := by rw [List.length_take]; omega
  have hK : (l.take j).length < K0 := Nat.lt_of_le_of_lt hll (by decide)
  refine (ring_args K0 true m (l.take j) (by omega) hV k0 _ K0 0 (Nat.zero_le _) (by omega)).trans ?_
  rw [List.drop_zero]
  cases ha : (l.take j).any badR with
  | true => rfl
  | false =>
    rw [cond_false]
    rw [List.any_eq_false] at ha
    have ha' : ∀ x ∈ l.take j, hasT rw4 x.2 = false ∧ hasT [92] x.2 = false ∧ hasT rw4 x.1 = false := by
      intro x hx
      have h1 := ha x hx
      unfold badR at h1
      cases e1 : hasT rw4 x.2 <;> cases e2 : hasT [92] x.2 <;> cases e3 : hasT rw4 x.1 <;> simp_all
    rw [show ((4 : Int) != 0) = true from rfl, cond_true]
    obtain ⟨q, hq, hq2⟩ : ∃ q : Nat, IntKind.wrap .i64 (Int.tmod (IntKind.wrap .u64 m) (4 : Int)) = (q : Int) ∧ q < 4 := by
      have h0 : 0 ≤ IntKind.wrap .u64 m := by
        show 0 ≤ m % _
        exact Int.emod_nonneg _ (by decide)
      have e1 : Int.tmod (IntKind.wrap .u64 m) 4 = (IntKind.wrap .u64 m) % 4 := Int.tmod_eq_emod_of_nonneg h0
      have h1 := Int.emod_nonneg (IntKind.wrap .u64 m) (show (4 : Int) ≠ 0 by decide)
      have h2 := Int.emod_lt_of_pos (IntKind.wrap .u64 m) (show (0 : Int) < 4 by decide)
      refine ⟨((IntKind.wrap .u64 m) % 4).toNat, ?_, by omega⟩
      rw [e1, wrap_i64 (by omega) (by omega)]
      omega
    rw [most_ok (by rw [List.length_append]; simp; omega), cond_true]
    simp only [hq, List.nil_append]
    have e2 := ring_loop K0 (l.take j) true q hq2 (fun (y35 : List S27) (y36 : Bool) (y37 : List S27) =>
      (vars_Resolve K0 y37).bind fun r38 => (vars_Resolve K0 y35).bind fun r39 => (clerestorykeep2_sameVars K0 r38 r39).bind fun r40 => some (cond y36 r40 false)) K0 0 (l.take j) (Nat.zero_le _) (Nat.lt_of_le_of_lt (show q + 1 - 0 ≤ 4 by omega) (by decide)) (by omega)
    refine e2.trans ?_
    have e3 : (List.range' 0 (q + 1 - 0)).map (rg q) = rgs q := by
      unfold rgs
      rw [Nat.sub_zero, List.range_eq_range']
    rw [e3]
    have hq3 : (rgs q).length ≤ 4 := by unfold rgs; rw [List.length_map, List.length_range]; omega
    rw [Resolve_eq K0 k0 (l.take j ++ rgs q) (by rw [List.length_append]; omega) (fun x hx => by
      rcases List.mem_append.1 hx with h | h
      · exact (hV x h).2
      · obtain ⟨i, _, _, _, _, _, h, _⟩ := rgs_mem hq2 h
        unfold NB; omega), Resolve_eq K0 k0 (l.take j) (by omega) fun x hx => (hV x hx).2]
    simp only [Option.bind_some]
    obtain ⟨hc, hm⟩ := cnt_ok (l.take j) [] ct_nil
    have hm' : ∀ x ∈ cntP [] (l.take j), x ∈ l.take j := fun x hx => (hm x hx).resolve_left (by simp)
    have hcl := cnt_len (l.take j) []
    rw [List.length_nil] at hcl
    have hF : Fr (cntP [] (l.take j)) := ⟨fun x hx => (ha' x (hm' x hx)).2.2, fun x hx => (ha' x (hm' x hx)).1, fun x hx hb => by
      have := (ha' x (hm' x hx)).2.1
      rw [hasT_one, List.any_eq_false] at this
      exact this 92 hb rfl⟩
    have hcr := ct_ring hq2 hF hc (by omega)
    have e4 : resP K0 (l.take j ++ rgs q) = resP K0 (l.take j) := by
      show resA K0 (cntP [] (l.take j ++ rgs q)) = resA K0 (cntP [] (l.take j))
      rw [cnt_app, cnt_id _ _ hcr]
      exact resA_ring hq2 hF K0 (by decide) hc hcr
    have hct : Ct (resP K0 (l.take j)) := fin_ct hc
    have hlen := hct.len
    rw [e4, same_eq K0 _ (by omega) (Nat.lt_of_le_of_lt hlen (by decide))]
    rfl

theorem ring_ex (l : List S27) (m : Int) (h : l.length ≤ 1048576 ∧ ∀ y0 ∈ l, y0.1.length ≤ 1048576 ∧ y0.2.length ≤ 1048576) (_ : True) : ∃ k, clerestorykeep2_VarRing k l m = some true :=
  ⟨K0, ringLaw l m h.2 h.1⟩

end Go.Ev.Va
