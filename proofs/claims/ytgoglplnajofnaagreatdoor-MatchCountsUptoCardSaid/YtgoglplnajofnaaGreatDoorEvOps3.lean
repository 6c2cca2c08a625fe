/- A part of the evaluator of Go code over small heaps and of its proof: no condition beyond those that each theorem names. -/
import Derived.Test.YtgoglplnajofnaaGreatDoorEvOps2
set_option linter.unusedVariables false
set_option linter.unusedSimpArgs false
set_option linter.constructorNameAsVariable false
namespace Go.Ev
variable {T : TypeId → Type}

theorem asI_ok {c : Cfg T} {η : Eta} {w : World} {x : V T} {a : Value} {n : Int} (hx : RV (rc c) η w x a) (h : asI x = some n) : ∃ k, a = .int k n := by
  unfold asI at h
  split at h
  · simp at h; subst h
    simp only [RV] at hx; cases hx; exact ⟨_, rfl⟩
  · cases h

theorem optI_ok {c : Cfg T} {η : Eta} {w : World} {ρ : Operand → V T} {σ : Operand → Value} (hρ : ∀ x, RV (rc c) η w (ρ x) (σ x)) {x : Option Operand} {n : Option Int}
    (h : optI ρ x = some n) : (x = none ∧ n = none) ∨ ∃ y k m, x = some y ∧ n = some m ∧ σ y = .int k m := by
  unfold optI at h
  split at h
  · simp at h; exact .inl ⟨rfl, h.symm⟩
  · rename_i y
    split at h
    · rename_i m hm
      simp at h
      obtain ⟨k, hk⟩ := asI_ok (hρ y) hm
      exact .inr ⟨y, k, m, rfl, h.symm, hk⟩
    · cases h

theorem run_bound {P : Program} {w : World} {k : IntKind} {i : Int} {y : Nat} {code : BoundsCode} (h : 0 ≤ i ∧ i ≤ (y : Int)) :
    (Instr.sliceBound (.int k i) y code).run P w = .ok i.toNat w := by
  simp [Instr.sliceBound, asIntOf, h.1, h.2]

/-- The bounds of a slice expression, read. -/
theorem run_bounds {P : Program} {w : World} {isS : Bool} {len cap : Nat} {lo hi : Option Value} {l h : Option Int} (hl : (lo = none ∧ l = none) ∨ ∃ k m, lo = some (.int k m) ∧ l = some m)
    (hh : (hi = none ∧ h = none) ∨ ∃ k m, hi = some (.int k m) ∧ h = some m) (hlc : len ≤ cap) {o : Nat} (hok : (cutN o len l h).1 = true) :
    ∃ a b, (Instr.sliceBounds isS len cap lo hi none).run P w = .ok (a, b, cap) w ∧ (cutN o len l h).2 = (o + a, b - a) ∧ a ≤ b ∧ b ≤ len ∧
      (∀ {α : Type} (xs : List α), xs.length = len → (cutL xs l h).2 = (xs.take b).drop a) := by
  rcases hl with ⟨rfl, rfl⟩ | ⟨k, m, rfl, rfl⟩ <;> rcases hh with ⟨rfl, rfl⟩ | ⟨k', m', rfl, rfl⟩
  · refine ⟨0, len, ?_, by simp [cutN], Nat.zero_le _, Nat.le_refl _, fun xs hx => by simp [cutL, ← hx]⟩
    simp [Instr.sliceBounds]
  · simp [cutN] at hok
    refine ⟨0, m'.toNat, ?_, by simp [cutN], Nat.zero_le _, by omega, fun xs hx => by simp [cutL]⟩
    have hb : ∀ code, (Instr.sliceBound (.int k' m') cap code).run P w = .ok m'.toNat w := fun code => run_bound ⟨by omega, by omega⟩
    simp [Instr.sliceBounds, hb]
  · simp [cutN] at hok
    refine ⟨m.toNat, len, ?_, by simp [cutN], by omega, Nat.le_refl _, fun xs hx => by simp [cutL, ← hx]⟩
    have hb : ∀ code, (Instr.sliceBound (.int k m) len code).run P w = .ok m.toNat w := fun code => run_bound ⟨by omega, by omega⟩
    simp [Instr.sliceBounds, hb]
  · simp [cutN] at hok
    refine ⟨m.toNat, m'.toNat, ?_, by simp [cutN], by omega, by omega, fun xs hx => by simp [cutL]⟩
    have hb : ∀ code, (Instr.sliceBound (.int k' m') cap code).run P w = .ok m'.toNat w := fun code => run_bound ⟨by omega, by omega⟩
    have hb2 : ∀ code, (Instr.sliceBound (.int k m) m'.toNat code).run P w = .ok m.toNat w := fun code => run_bound ⟨by omega, by omega⟩
    simp [Instr.sliceBounds, hb, hb2]

theorem cutL_cutN {α : Type} (xs : List α) (l h : Option Int) (o : Nat) : (cutL xs l h).1 = (cutN o xs.length l h).1 := by
  cases l <;> cases h <;> rfl

theorem Arr.part {R : Rc T} {ok : Nat → Prop} {w : World} {t : TypeId} {xs : List (T t)} {b o : Nat} (h : Arr R ok w t xs b o) (l n : Nat) :
    Arr R ok w t ((xs.take n).drop l) b (o + l * R.sz t) := by
  intro i j hi d hd
  have hi' : l + i < xs.length := by simp at hi; omega
  have hd' : (R.cod.enc t xs[l + i])[j]? = some d := by simpa using hd
  obtain ⟨v, h1, h2⟩ := h (l + i) j hi' d hd'
  refine ⟨v, ?_, h2⟩
  rw [show o + l * R.sz t + i * R.sz t + j = o + (l + i) * R.sz t + j by rw [Nat.add_mul]; omega]
  exact h1

theorem sliceV_ok {c : Cfg T} {η : Eta} {H : List (Obj T)} {w : World} (hH : RelH (rc c) η H w) {t : TypeId} {x v : V T} {a : Value} {lo hi : Option Value} {l h : Option Int}
    (hl : (lo = none ∧ l = none) ∨ ∃ k m, lo = some (.int k m) ∧ l = some m) (hh : (hi = none ∧ h = none) ∨ ∃ k m, hi = some (.int k m) ∧ h = some m)
    (hx : RV (rc c) η w x a) {ok : Bool} (hs : sliceV c.P H t l h x = some (ok, v)) (hok : ok = true) :
    ∃ y, (Instr.sliceAt t a lo hi none).run c.P w = .ok y w ∧ RV (rc c) η w v y := by
  subst hok
  unfold sliceV at hs
  split at hs
  · rename_i s
    split at hs
    · rename_i hu
      simp only [RV] at hx; cases hx
      simp at hs
      obtain ⟨h1, rfl⟩ := hs
      have hz : (ByteArray.mk s.toArray).size = s.length := by simp [ByteArray.size]
      rw [cutL_cutN s l h 0] at h1
      obtain ⟨p, q, hr, _, hpq, hq, hc⟩ := run_bounds (P := c.P) (w := w) (isS := false) (len := s.length) (cap := s.length) hl hh (Nat.le_refl _) h1
      refine ⟨.string ⟨((s.take q).drop p).toArray⟩, ?_, by rw [hc s rfl]; simp only [RV]; exact .s _⟩
      have he : (ByteArray.mk s.toArray).extract p q = ByteArray.mk ((s.take q).drop p).toArray := by
        apply ByteArray.ext; simp [List.drop_take]
      simp [Instr.sliceAt, Instr.slice, run_under hu, hz, hr, he]
    · cases hs
  · rename_i e xs
    split at hs
    · rename_i e' hu
      cases hb : e'.beq e && (c.P.info? e').isSome with
      | false => simp [hb] at hs
      | true =>
        simp only [hb, cond_true] at hs
        simp only [Bool.and_eq_true] at hb
        obtain ⟨hb, hsz⟩ := hb
        have hb' := Nat.eq_of_beq_eq_true hb
        subst hb'
        simp only [Option.some.injEq, Prod.mk.injEq] at hs
        obtain ⟨h1, rfl⟩ := hs
        simp only [RV] at hx
        obtain ⟨i, hi'⟩ := Option.isSome_iff_exists.1 hsz
        have hsize : ∀ w0, (sizeOf e').run c.P w0 = .ok (c.P.cellsOf e') w0 := fun w0 => by simp [sizeOf, typeInfo, hi', Program.cellsOf]
        obtain ⟨ad, cap, rfl, hcap, harr⟩ := hx.inv_l
        rw [cutL_cutN xs l h 0] at h1
        obtain ⟨p, q, hr, _, hpq, hq, hc⟩ := run_bounds (P := c.P) (w := w) (isS := true) (len := xs.length) (cap := cap) hl hh hcap h1
        refine ⟨.slice (if cap = p then ad else ad.map (·.add (p * c.P.cellsOf e'))) (q - p) (cap - p), ?_, ?_⟩
        · simp [Instr.sliceAt, Instr.slice, run_under hu, hr, hsize]
        · rw [hc xs rfl]
          simp only [RV]
          have hlen : ((xs.take q).drop p).length = q - p := by simp; omega
          by_cases h0 : q - p = 0
          · have : (xs.take q).drop p = [] := by apply List.eq_nil_of_length_eq_zero; omega
            rw [this, h0]
            exact .nil _ _ _
          · rcases harr with h2 | ⟨b, o, rfl, hokb, hlt, harr⟩
            · subst h2; simp at hq; omega
            · rw [if_neg (by omega), ← hlen]
              simp only [Option.map_some, at_add]
              exact VD.of_arr hokb hlt (by omega) (harr.part p q)
    · cases hs
  · rename_i id rng
    split at hs
    · rename_i e' e xs hu hxs
      cases hb : e'.beq e && (c.P.info? e').isSome with
      | false => simp [hb] at hs
      | true =>
        simp only [hb, cond_true] at hs
        simp only [Bool.and_eq_true] at hb
        obtain ⟨hb, hsz⟩ := hb
        have hb' := Nat.eq_of_beq_eq_true hb
        subst hb'
        obtain ⟨i, hi'⟩ := Option.isSome_iff_exists.1 hsz
        have hsize : ∀ w0, (sizeOf e').run c.P w0 = .ok (c.P.cellsOf e') w0 := fun w0 => by simp [sizeOf, typeInfo, hi', Program.cellsOf]
        split at hs
        · simp only [RV] at hx
          obtain ⟨r, a', n, cc, hr, rfl, hx⟩ := hx
          obtain ⟨root, cap, rfl, hrel⟩ := hH.obj id r _ hr hxs
          rcases hx with hx | ⟨t', root', hx, ha⟩
          · cases hx
          · cases hx
            simp only [Option.some.injEq, Prod.mk.injEq] at hs
            obtain ⟨h1, rfl⟩ := hs
            have hcap : xs.length ≤ cc := by
              cases root with
              | none => obtain ⟨h2, h3⟩ := hrel; subst h2; simp
              | some q => obtain ⟨_, _, _, _, _, h2, _⟩ := hrel; exact h2
            obtain ⟨p, q, hr', hn, hpq, hq, _⟩ := run_bounds (P := c.P) (w := w) (isS := true) (len := xs.length) (cap := cc) hl hh hcap h1
            refine ⟨.slice (if cc = p then a' else a'.map (·.add (p * c.P.cellsOf e'))) (q - p) (cc - p), ?_, ?_⟩
            · simp [Instr.sliceAt, Instr.slice, run_under hu, hr', hsize]
            · rw [hn]
              simp only [RV, Nat.zero_add]
              refine ⟨_, _, _, hr, rfl, .inr ⟨_, _, _, _, rfl, by omega, rfl, fun hlt => ?_⟩⟩
              rw [if_neg (by omega)]
              rcases ha with rfl | ha
              · cases root with
                | none => rfl
                | some z => simp only [rootA, addN, Option.map_some, at_add]; rfl
              · omega
        · rename_i o n
          simp only [RV] at hx
          obtain ⟨r, a', cc, hr, rfl, hx⟩ := hx
          obtain ⟨root, cap, rfl, hrel⟩ := hH.obj id r _ hr hxs
          rcases hx with hx | ⟨t', n', root', cap', hx, hon, rfl, hx'⟩
          · cases hx
          · cases hx
            simp only [Option.some.injEq, Prod.mk.injEq] at hs
            obtain ⟨h1, rfl⟩ := hs
            have hcap : xs.length ≤ cap := by
              cases root with
              | none => obtain ⟨h2, h3⟩ := hrel; subst h2; simp
              | some q => obtain ⟨_, _, _, _, _, h2, _⟩ := hrel; exact h2
            obtain ⟨p, q, hr', hn, hpq, hq, _⟩ := run_bounds (P := c.P) (w := w) (isS := true) (len := n) (cap := cap - o) hl hh (by omega) h1
            refine ⟨.slice (if cap - o = p then a' else a'.map (·.add (p * c.P.cellsOf e'))) (q - p) (cap - o - p), ?_, ?_⟩
            · simp [Instr.sliceAt, Instr.slice, run_under hu, hr', hsize]
            · rw [hn]
              simp only [RV]
              refine ⟨_, _, _, hr, rfl, .inr ⟨_, _, _, _, rfl, by omega, by omega, fun hlt => ?_⟩⟩
              rw [if_neg (by omega), hx' (by omega)]
              cases root with
              | none => rfl
              | some z =>
                simp only [addN, Option.map_some, at_add, Option.some.injEq]
                rw [Nat.add_mul]
                congr 1
                show _ + _ * (c.P.cellsOf e') + _ = _
                simp only [rc]; omega
    · cases hs
  · cases hs

theorem fieldOf_ok {P : Program} {t : TypeId} {f off : Nat} {u : TypeId} (h : fieldOf P t f = some (off, u)) :
    ∃ fs fd n, P.underlying t = some (.struct fs) ∧ fs[f]? = some fd ∧ fd.offset = off ∧ fd.type = u ∧ sizeT P u = some n ∧ n ≠ 0 := by
  unfold fieldOf at h
  split at h
  · rename_i fs hu
    split at h
    · rename_i fd hfd
      split at h
      · cases h
      · rename_i n hn hne
        simp at h
        obtain ⟨rfl, rfl⟩ := h
        exact ⟨fs, fd, _, hu, hfd, rfl, rfl, hne, fun h0 => hn h0⟩
      · cases h
    · cases h
  · cases h

theorem run_fieldAt {P : Program} {w : World} {t : TypeId} {f off : Nat} {u : TypeId} (h : fieldOf P t f = some (off, u)) (b o : Nat) :
    (Instr.fieldAt t (.pointer (some (at_ b o))) f).run P w = .ok (.pointer (some (at_ b (o + off)))) w := by
  obtain ⟨fs, fd, n, hu, hfd, rfl, rfl, hn, h0⟩ := fieldOf_ok h
  simp [Instr.fieldAt, run_under hu, hfd, Instr.sureAddr, fieldPlace, run_size hn, h0, at_add]

theorem run_field {c : Cfg T} {η : Eta} {w : World} {t : TypeId} {f off : Nat} {u : TypeId} (h : fieldOf c.P t f = some (off, u)) {cs : List (V T)} {v : V T} {xs : List Value}
    (ht : takeV c.P u cs off = some v) (hx : RVs (rc c) η w cs xs) : ∃ y, (Instr.field t (.agg xs.toArray) f).run c.P w = .ok y w ∧ RV (rc c) η w v y := by
  obtain ⟨fs, fd, n, hu, hfd, rfl, rfl, hn, h0⟩ := fieldOf_ok h
  obtain ⟨y, h1, h2⟩ := run_part (w0 := w) ht hx
  exact ⟨y, by simp [Instr.field, run_under hu, hfd, asAgg, h1], h2⟩

theorem lenV_ok {c : Cfg T} {η : Eta} {H : List (Obj T)} {w : World} (hH : RelH (rc c) η H w) {t : TypeId} {x : V T} {a : Value} {n : Nat} (hx : RV (rc c) η w x a)
    (h : lenV c.P H t x = some n) (ty : TypeId) (ts : Array TypeId) (hts : ts[0]? = some t) : (Builtin.len_ ts ty #[a]).run c.P w = .ok (.int .i64 n) w := by
  unfold lenV at h
  split at h
  · rename_i s
    split at h
    · rename_i hu
      simp at h; subst h
      simp only [RV] at hx; cases hx
      have e : (ByteArray.mk s.toArray).size = s.length := by simp [ByteArray.size]
      simp [Builtin.len_, hts, run_under hu, goInt, e]
    · cases h
  · split at h
    · rename_i hu
      simp at h; subst h
      simp only [RV] at hx
      obtain ⟨ad, cap, rfl, _⟩ := hx.inv_l
      simp [Builtin.len_, hts, run_under hu, goInt]
    · cases h
  · split at h
    · rename_i hu
      simp at h; subst h
      simp only [RV] at hx; cases hx
      simp [Builtin.len_, hts, run_under hu, goInt]
    · cases h
  · rename_i id rng
    split at h
    · rename_i hu hxs
      simp at h; subst h
      simp only [RV] at hx
      obtain ⟨r, a', n, cc, hr, rfl, hx⟩ := hx
      obtain ⟨root, cap, rfl, hrel⟩ := hH.obj id r _ hr hxs
      rcases hx with hx | ⟨t', root', hx, ha⟩
      · cases hx
      · cases hx
        simp [Builtin.len_, hts, run_under hu, goInt]
    · rename_i hu hxs
      simp at h; subst h
      simp only [RV] at hx
      obtain ⟨r, a', cc, hr, rfl, hx⟩ := hx
      simp [Builtin.len_, hts, run_under hu, goInt]
    · cases h
  · cases h

theorem minI_ok {c : Cfg T} {η : Eta} {w : World} {k : IntKind} : ∀ {vs : List (V T)} {xs : List Value} {x : Int} {v : V T}, RVs (rc c) η w vs xs → minI k x vs = some v →
    ∃ z, (xs.foldlM Builtin.min2 (.int k x)).run c.P w = .ok z w ∧ RV (rc c) η w v z
  | [], xs, x, v, hx, h => by
    simp only [RVs] at hx; subst hx
    simp [minI] at h; subst h
    exact ⟨_, by simp; rfl, by simp only [RV]; exact .i _ _⟩
  | u :: vs, xs, x, v, hx, h => by
    simp only [RVs] at hx
    obtain ⟨y, ys, rfl, h1, h2⟩ := hx
    unfold minI at h
    split at h
    · cases ‹_ :: _ = []›
    · rename_i k' n rest heq
      cases heq
      simp only [RV] at h1; cases h1
      obtain ⟨z, h3, h4⟩ := minI_ok h2 h
      exact ⟨z, by simpa [Builtin.min2] using h3, h4⟩
    · cases h

theorem maxI_ok {c : Cfg T} {η : Eta} {w : World} {k : IntKind} : ∀ {vs : List (V T)} {xs : List Value} {x : Int} {v : V T}, RVs (rc c) η w vs xs → maxI k x vs = some v →
    ∃ z, (xs.foldlM Builtin.max2 (.int k x)).run c.P w = .ok z w ∧ RV (rc c) η w v z
  | [], xs, x, v, hx, h => by
    simp only [RVs] at hx; subst hx
    simp [maxI] at h; subst h
    exact ⟨_, by simp; rfl, by simp only [RV]; exact .i _ _⟩
  | u :: vs, xs, x, v, hx, h => by
    simp only [RVs] at hx
    obtain ⟨y, ys, rfl, h1, h2⟩ := hx
    unfold maxI at h
    split at h
    · cases ‹_ :: _ = []›
    · rename_i k' n rest heq
      cases heq
      simp only [RV] at h1; cases h1
      obtain ⟨z, h3, h4⟩ := maxI_ok h2 h
      exact ⟨z, by simpa [Builtin.max2] using h3, h4⟩
    · cases h

end Go.Ev
