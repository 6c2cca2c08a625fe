/- A part of the evaluator of Go code over small heaps and of its proof: no condition beyond those that each theorem names. -/
import Derived.Test.YtgoglplnajofnaaGreatDoorEvOps6
import Derived.Laws.AppendOwn
set_option linter.unusedVariables false
set_option linter.unusedSimpArgs false
set_option linter.constructorNameAsVariable false
namespace Go.Ev
variable {T : TypeId → Type}

theorem growBy_le (n : Nat) : ∀ (r c : Nat), c < n → Builtin.growBy n r c ≤ 2 * n + 768
  | 0, c, h => by simp [Builtin.growBy]; omega
  | r + 1, c, h => by
    simp only [Builtin.growBy]
    split
    · omega
    · rcases Nat.lt_or_ge (c + (c + 768) / 4) n with h1 | h1
      · exact growBy_le n r _ h1
      · cases r with
        | zero => simp only [Builtin.growBy]; omega
        | succ r => simp only [Builtin.growBy]; rw [if_pos (by omega)]; omega

theorem nextcap_le {need cap bytes : Nat} (h : need < most) (hc : cap < need) (hb : bytes ≤ 16384) : ¬ Builtin.nextslicecap need cap * bytes > 2 ^ 48 := by
  unfold most at h
  have : Builtin.nextslicecap need cap ≤ 2 * need + 768 := by
    unfold Builtin.nextslicecap
    split
    · omega
    · split
      · omega
      · exact growBy_le _ _ _ hc
  have h1 : Builtin.nextslicecap need cap * bytes ≤ (2 * need + 768) * 16384 := Nat.mul_le_mul this hb
  have : (2 : Nat) ^ 48 = 281474976710656 := by decide
  omega

/-- A slice whose elements can be read. -/
structure Reads (R : Rc T) (η : Eta) (w : World) (t : TypeId) (xs : List (T t)) (v : Value) : Prop where
  len : ∃ a cap, v = .slice a xs.length cap ∧ xs.length ≤ cap ∧ (xs = [] ∨ ∃ b o, a = some (at_ b o) ∧ Arr R (isOk η) w t xs b o)

theorem asT_eq {t t' : TypeId} {xs : List (T t')} {ys : List (T t)} (h : asT t t' xs = some ys) : t' = t := by
  unfold asT at h
  split at h
  · assumption
  · cases h

theorem asT_self {t : TypeId} {xs ys : List (T t)} (h : asT t t xs = some ys) : ys = xs := by
  unfold asT at h
  rw [dif_pos rfl] at h
  simpa using h.symm

theorem asL_ok {c : Cfg T} {η : Eta} {H : List (Obj T)} {w : World} (hH : RelH (rc c) η H w) {t : TypeId} {x : V T} {v : Value} {ys : List (T t)} (hx : RV (rc c) η w x v) (h : asL H t x = some ys) :
    Reads (rc c) η w t ys v := by
  unfold asL at h
  split at h
  · have e := asT_eq h
    subst e
    have e := asT_self h
    subst e
    simp only [RV] at hx
    obtain ⟨a, cap, rfl, hcap, hh⟩ := hx.inv_l
    exact ⟨a, cap, rfl, hcap, hh.imp id fun ⟨b, o, h1, _, _, h2⟩ => ⟨b, o, h1, h2⟩⟩
  · simp at h; subst h
    simp only [RV] at hx; cases hx
    exact ⟨none, 0, rfl, Nat.le_refl _, .inl rfl⟩
  · rename_i id rng
    split at h
    · rename_i t' xs hxs
      split at h
      · rename_i zs hzs
        simp at h; subst h
        have e := asT_eq hzs
        subst e
        have e := asT_self hzs
        subst e
        simp only [RV] at hx
        obtain ⟨r, a, n, cc, hr, rfl, hx⟩ := hx
        obtain ⟨root, cap, rfl, hrel⟩ := hH.obj id r _ hr hxs
        rcases hx with hx | ⟨t'', root', hx, ha⟩
        · cases hx
        · cases hx
          cases root with
          | none => obtain ⟨h1, h2⟩ := hrel; subst h1; exact ⟨_, _, rfl, by simp, .inl rfl⟩
          | some p =>
            obtain ⟨b, o⟩ := p
            obtain ⟨ce, el, fr, hb, hsz, hcap, hfr, harr⟩ := hrel
            rcases ha with rfl | rfl
            · exact ⟨_, _, rfl, hcap, .inr ⟨b, o, rfl, harr⟩⟩
            · exact ⟨_, _, rfl, hcap, .inl (List.eq_nil_of_length_eq_zero (by omega))⟩
      · rename_i zs o n hzs
        simp at h; subst h
        have e := asT_eq hzs
        subst e
        have e := asT_self hzs
        subst e
        simp only [RV] at hx
        obtain ⟨r, a, cc, hr, rfl, hx⟩ := hx
        obtain ⟨root, cap, rfl, hrel⟩ := hH.obj id r _ hr hxs
        rcases hx with hx | ⟨t'', n', root', cap', hx, hon, rfl, ha⟩
        · cases hx
        · cases hx
          have hl : ((zs.drop o).take n).length = n := by simp; omega
          cases root with
          | none =>
            obtain ⟨h1, h2⟩ := hrel; subst h1
            have : n = 0 := by simp at hon; omega
            subst this
            exact ⟨_, _, by simp; exact ⟨rfl, rfl⟩, by simp, .inl (by simp)⟩
          | some p =>
            obtain ⟨b, k⟩ := p
            obtain ⟨ce, el, fr, hb, hsz, hcap, hfr, harr⟩ := hrel
            refine ⟨a, cap - o, by rw [hl], by omega, ?_⟩
            by_cases h0 : n = 0
            · left; subst h0; simp
            · right
              refine ⟨b, k + o * (rc c).sz t', by rw [ha (by omega)]; rfl, ?_⟩
              have := harr.part o (o + n)
              rwa [show (zs.take (o + n)).drop o = (zs.drop o).take n by rw [List.drop_take]; congr 1; omega] at this
      · cases h
    · cases h
  · cases h

theorem Reads.mono {R : Rc T} {η η' : Eta} {w w' : World} {t : TypeId} {xs : List (T t)} {v : Value} (h : Reads R η w t xs v) (he : Evo η η' w w') (hk : Keeps η η')
    (hh : w'.heap = w.heap) : Reads R η' w' t xs v := by
  obtain ⟨a, cap, h1, h2, h3⟩ := h
  exact ⟨a, cap, h1, h2, h3.imp id fun ⟨b, o, h4, h5⟩ => ⟨b, o, h4, h5.mono he.size he.ok (by rw [hh])⟩⟩

/-- The cells of such a slice. -/
theorem Reads.cells {c : Cfg T} (hc : CodOk (rc c)) {η : Eta} {w : World} {t : TypeId} (hk : c.cod.kn t = true) {xs : List (T t)} {v : Value} (h : Reads (rc c) η w t xs v) :
    ∃ ys : List Value, (Builtin.firstCells ((rc c).sz t) xs.length v).run c.P w = .ok ys.toArray w ∧ ys.length = xs.length * (rc c).sz t ∧
      ∀ (i : Nat) (hi : i < xs.length), RVs (rc c) η w (ofDs (c.cod.enc t xs[i])) ((ys.drop (i * (rc c).sz t)).take ((rc c).sz t)) := by
  obtain ⟨a, cap, rfl, hcap, h⟩ := h
  rcases h with rfl | ⟨b, o, rfl, harr⟩
  · refine ⟨[], ?_, by simp, fun i hi => absurd hi (by simp)⟩
    cases a with
    | none => simp [Builtin.firstCells]
    | some a => simp [Builtin.firstCells, loadCells, loadCellsFrom]
  · obtain ⟨ys, h1, h2, h3⟩ := rows_of_arr hc hk harr
    refine ⟨ys, ?_, h2, h3⟩
    have := run_loadRow (P := c.P) h1
    rw [h2] at this
    simpa [Builtin.firstCells] using this

theorem rows_ones {R : Rc T} {η : Eta} {w : World} : ∀ {ds : List (D T)} {xs : List Value}, RVs R η w (ofDs ds) xs → ∀ x ∈ xs, x.oneCell' = true := fun h => ones h (by
  rename_i ds _
  simp [ofDs, List.all_eq_true]
  intro a _
  cases a <;> rfl)

/-- All cells of elements are cells of one value each. -/
theorem all_ones {R : Rc T} {η : Eta} {w : World} {t : TypeId} {sz : Nat} : ∀ {xs : List (T t)} {ys : List Value}, ys.length = xs.length * sz →
    (∀ (i : Nat) (hi : i < xs.length), RVs R η w (ofDs (R.cod.enc t xs[i])) ((ys.drop (i * sz)).take sz)) → ∀ y ∈ ys, y.oneCell' = true
  | [], ys, hl, _ => by intro y hy; simp at hl; subst hl; simp at hy
  | x :: xs, ys, hl, h => by
    intro y hy
    have hl' : sz ≤ ys.length := by simp only [List.length_cons, Nat.add_mul] at hl; omega
    rw [← List.take_append_drop sz ys] at hy
    rcases List.mem_append.1 hy with hy | hy
    · have := h 0 (by simp)
      simp only [Nat.zero_mul, List.drop_zero, List.getElem_cons_zero] at this
      exact rows_ones this y hy
    · refine all_ones (R := R) (η := η) (w := w) (sz := sz) (xs := xs) (ys := ys.drop sz) (by simp only [List.length_cons, Nat.add_mul, List.length_drop] at hl ⊢; omega) (fun i hi => ?_) y hy
      have := h (i + 1) (by simpa using hi)
      simp only [List.getElem_cons_succ] at this
      rw [Nat.add_mul, Nat.one_mul] at this
      rw [List.drop_drop, Nat.add_comm sz]
      exact this

theorem rows_append {R : Rc T} {η : Eta} {w : World} {t : TypeId} {sz : Nat} {xs ys : List (T t)} {us vs : List Value} (hu : us.length = xs.length * sz) 
    (h1 : ∀ (i : Nat) (hi : i < xs.length), RVs R η w (ofDs (R.cod.enc t xs[i])) ((us.drop (i * sz)).take sz))
    (h2 : ∀ (i : Nat) (hi : i < ys.length), RVs R η w (ofDs (R.cod.enc t ys[i])) ((vs.drop (i * sz)).take sz)) (rest : List Value) (hv : vs.length = ys.length * sz) :
    ∀ (i : Nat) (hi : i < (xs ++ ys).length), RVs R η w (ofDs (R.cod.enc t (xs ++ ys)[i])) (((us ++ vs ++ rest).drop (i * sz)).take sz) := by
  intro i hi
  rcases Nat.lt_or_ge i xs.length with h | h
  · rw [List.getElem_append_left h]
    have hle : (i + 1) * sz ≤ xs.length * sz := Nat.mul_le_mul_right _ h
    rw [Nat.add_mul, Nat.one_mul] at hle
    rw [List.append_assoc, List.drop_append_of_le_length (by omega), List.take_append_of_le_length (by simp; omega)]
    exact h1 i h
  · rw [List.getElem_append_right h]
    have hi' : i - xs.length < ys.length := by simp at hi; omega
    have hle : (i - xs.length + 1) * sz ≤ ys.length * sz := Nat.mul_le_mul_right _ hi'
    rw [Nat.add_mul, Nat.one_mul] at hle
    have e : i * sz = us.length + (i - xs.length) * sz := by rw [hu, ← Nat.add_mul]; congr 1; omega
    rw [e, List.append_assoc, ← List.drop_drop, List.drop_left, List.drop_append_of_le_length (by omega), List.take_append_of_le_length (by simp; omega)]
    exact h2 _ hi'

def kill (η : Eta) (id : Nat) : Eta := ⟨fun k => if k = id then some .dead else η k, η.far, η.df⟩

theorem kill_eq (η : Eta) (id k : Nat) : (kill η id).m k = if k = id then some .dead else η.m k := rfl

theorem zeroCells_size (zero : Array Value) (n : Nat) : (Builtin.zeroCells zero n).size = n * zero.size := by simp [Builtin.zeroCells]

/-- Cells stored where a slice begins, if it has a place. -/
def storeAt? (base : Option Addr) (n : Nat) (cells : List Value) : Sem Unit :=
  match base with
  | some a => storeCells (a.add n) cells
  | none => pure ()

/-- What appending is, once what is appended and what is there are known. -/
theorem run_append {c : Cfg T} (hc : CodOk (rc c)) {η : Eta} {w : World} {t u e : TypeId} {xs ys : List (T e)} {a b : Value} (ty : TypeId) (ht : elemT c.P t = some e) (hu : elemT c.P u = some e)
    (hk : c.cod.kn e = true) {i : TypeInfo} (hi : c.P.info? e = some i) (hb : i.bytes ≤ 16384) {z : Value} (hz : i.zero = some z) (hzl : z.cells.size = i.size)
    (hx : Reads (rc c) η w e xs a) (hy : Reads (rc c) η w e ys b) (hm : (xs ++ ys).length < most) {base : Option Addr} {cap : Nat} (ha : a = .slice base xs.length cap) :
    (xs.length + ys.length ≤ cap ∧ ∃ cells : List Value, cells.length = ys.length * (rc c).sz e ∧ (∀ (i : Nat) (hi : i < ys.length), RVs (rc c) η w (ofDs (c.cod.enc e ys[i])) ((cells.drop (i * (rc c).sz e)).take ((rc c).sz e))) ∧
      (Builtin.append_ #[t, u] ty #[a, b]).run c.P w = ((storeAt? base (xs.length * (rc c).sz e) cells).run c.P w).andThen
        fun _ w' => .ok (.slice base (xs.length + ys.length) cap) w') ∨
    (cap < xs.length + ys.length ∧ ∃ (k : Nat) (ce : Array Value), xs.length + ys.length ≤ k ∧ ce.size = k * (rc c).sz e ∧
      (∀ (i : Nat) (hi : i < (xs ++ ys).length), RVs (rc c) η w (ofDs (c.cod.enc e (xs ++ ys)[i])) ((ce.toList.drop (i * (rc c).sz e)).take ((rc c).sz e))) ∧
      (Builtin.append_ #[t, u] ty #[a, b]).run c.P w = .ok (.slice (some (at_ w.heap.size 0)) (xs.length + ys.length) k) (w.drew.alloc (.cells ce e))) := by
  have hsz : (rc c).sz e = i.size := by simp [rc, Program.cellsOf, hi]
  have hsize : ∀ w0, (sizeOf e).run c.P w0 = .ok i.size w0 := fun w0 => by simp [sizeOf, typeInfo, hi]
  have hinfo : ∀ w0, (typeInfo e).run c.P w0 = .ok i w0 := fun w0 => by simp [typeInfo, hi]
  have hzero : ∀ w0, (zeroValue e).run c.P w0 = .ok z w0 := fun w0 => run_zero hi hz w0
  obtain ⟨cells, hf1, hf2, hf3⟩ := hy.cells hc hk
  obtain ⟨yb, ycap, hyb, _, _⟩ := hy.len
  have hm' : xs.length + ys.length < most := by simpa using hm
  rcases Nat.lt_or_ge cap (xs.length + ys.length) with hcap | hcap
  · right
    refine ⟨hcap, ?_⟩
    have hk1 := grownCap_ge w (xs.length + ys.length) cap e
    have he : Evo η η w w.drew := ⟨Nat.le_refl _, fun _ _ _ => rfl, fun _ _ h => h, rfl, rfl, ⟨rfl, rfl, rfl⟩⟩
    obtain ⟨olds, ho1, ho2, ho3⟩ := (hx.mono he (Keeps.refl η) rfl).cells hc hk
    obtain ⟨news, hn1, hn2, hn3⟩ := (hy.mono he (Keeps.refl η) rfl).cells hc hk
    have hrow := rows_append (R := rc c) (η := η) (w := w.drew) (sz := (rc c).sz e) ho2 ho3 hn3 (Builtin.zeroCells z.cells (grownCap w (xs.length + ys.length) cap e - (xs.length + ys.length))).toList hn2
    refine ⟨grownCap w (xs.length + ys.length) cap e, olds.toArray ++ news.toArray ++ Builtin.zeroCells z.cells (grownCap w (xs.length + ys.length) cap e - (xs.length + ys.length)), hk1, ?_, ?_, ?_⟩
    · simp only [Array.size_append, List.size_toArray, ho2, hn2, zeroCells_size, hzl, hsz]
      rw [← Nat.add_mul, ← Nat.add_mul]; congr 1; omega
    · intro j hj
      have := hrow j hj
      have he' : Evo η η w.drew w := ⟨Nat.le_refl _, fun _ _ _ => rfl, fun _ _ h => h, rfl, rfl, ⟨rfl, rfl, rfl⟩⟩
      show RVs (rc c) η w (ofDs ((rc c).cod.enc e (xs ++ ys)[j])) _
      simpa using RVs.mono he' (Keeps.refl η) _ _ this
    · subst ha; subst hyb
      have hnc := nextcap_le hm' hcap hb
      rw [hsz] at ho1 hn1
      have hq : ¬ (xs.length + ys.length ≤ cap) := by omega
      have hbig' : ¬ ((9223372036854775807 : Int) < (xs.length : Int) + (ys.length : Int)) := by unfold most at hm'; omega
      have hnc' : ¬ (281474976710656 < Builtin.nextslicecap (xs.length + ys.length) cap * i.bytes) := by
        have : (2 : Nat) ^ 48 = 281474976710656 := by decide
        omega
      have hmax : IntKind.i64.max = 9223372036854775807 := by decide
      simp [Builtin.append_, run_under (elemT_ok ht), run_under (elemT_ok hu), hsize, typeInfo, zeroValue, hi, hz, Builtin.lenOf, hq, hbig', hnc', hmax, ho1, hn1, newRow, Question.forced, grownCap, at_]
      congr 2
      apply Array.ext'
      simp [List.append_assoc]
  · left
    refine ⟨hcap, cells, hf2, hf3, ?_⟩
    subst ha; subst hyb
    rw [hsz] at hf1 ⊢
    simp [Builtin.append_, run_under (elemT_ok ht), run_under (elemT_ok hu), hsize, Builtin.lenOf, hcap, hf1]
    cases base <;> simp [storeAt?]

theorem kill_evo (η : Eta) (id : Nat) (w : World) : Evo η (kill η id) w w := ⟨Nat.le_refl _, fun _ _ _ => rfl, by
  rintro b _ ⟨k', r', h1, h2⟩
  rw [kill_eq] at h1
  by_cases h' : k' = id
  · rw [if_pos h'] at h1; cases h1; exact h2.elim
  · rw [if_neg h'] at h1; exact ⟨k', r', h1, h2⟩, rfl, rfl, Rest.refl w⟩

theorem kill_keeps (η : Eta) (id : Nat) : Keeps η (kill η id) := fun k' r' h1 => by
  by_cases h' : k' = id
  · exact .inr (.inl (by rw [kill_eq, if_pos h']))
  · left; rw [kill_eq]; rw [if_neg h']; exact h1

end Go.Ev
