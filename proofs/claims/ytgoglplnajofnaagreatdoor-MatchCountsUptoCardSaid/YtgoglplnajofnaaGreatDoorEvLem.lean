/- A part of the evaluator of Go code over small heaps and of its proof: no condition beyond those that each theorem names. -/
import Derived.Test.YtgoglplnajofnaaGreatDoorEvRel
import Derived.Laws.Cells
import Derived.Laws.IdiomCopy
import Derived.Laws.Entries
namespace Go.Ev
variable {T : TypeId → Type}

theorem run_under {P : Program} {t : TypeId} {d : TypeDesc} (h : P.underlying t = some d) (w : World) : (underlying t).run P w = .ok d w := run_underlying h w

theorem run_size {P : Program} {t : TypeId} {n : Nat} (h : sizeT P t = some n) (w : World) : (sizeOf t).run P w = .ok n w := by
  unfold sizeT at h
  cases hi : P.info? t with
  | none => simp [hi] at h
  | some i => simp [hi] at h; simp [sizeOf, typeInfo, hi, h]

theorem run_isAgg {P : Program} {t : TypeId} {b : Bool} (h : isAggT P t = some b) (w : World) : (isAgg t).run P w = .ok b w := by
  unfold isAggT at h
  unfold isAgg
  split at h
  · rename_i hu; simp [run_under hu] ; simpa using h
  · rename_i hu; simp [run_under hu] ; simpa using h
  · rename_i d h1 h2 hu
    simp only [Sem.run_bind, run_under hu, Result.andThen_ok]
    simp at h; simp [← h]
  · cases h

theorem run_zero {P : Program} {t : TypeId} {i : TypeInfo} {v : Value} (h : P.info? t = some i) (hz : i.zero = some v) (w : World) : (zeroValue t).run P w = .ok v w := by
  simp [zeroValue, typeInfo, h, hz]

/-- Values lie in a block, from a place on. -/
def Row (w : World) (b o : Nat) (xs : List Value) : Prop := ∀ (i : Nat) (x : Value), xs[i]? = some x → w.cell? (at_ b (o + i)) = some x

theorem Row.drop {w : World} {b o : Nat} {xs : List Value} (h : Row w b o xs) (n : Nat) : Row w b (o + n) (xs.drop n) := by
  intro i x hx
  rw [List.getElem?_drop] at hx
  have := h (n + i) x hx
  rwa [← Nat.add_assoc] at this

theorem Row.take {w : World} {b o : Nat} {xs : List Value} (h : Row w b o xs) (n : Nat) : Row w b o (xs.take n) := by
  intro i x hx
  rcases Nat.lt_or_ge i n with h' | h'
  · rw [List.getElem?_take_of_lt h'] at hx; exact h i x hx
  · rw [List.getElem?_take_eq_none h'] at hx; cases hx

theorem at_add (b o n : Nat) : (at_ b o).add n = at_ b (o + n) := by
  unfold at_ Addr.add; split <;> simp_all

theorem run_loadRow {P : Program} {w : World} {b o : Nat} {xs : List Value} (h : Row w b o xs) : (loadCells (at_ b o) xs.length).run P w = .ok xs.toArray w :=
  run_loadCells_list w (at_ b o) xs fun j v hj => by rw [at_add]; exact h j v hj

theorem takeV_ok {c : Cfg T} {η : Eta} {w : World} {t : TypeId} {cs : List (V T)} {off : Nat} {v : V T} (h : takeV c.P t cs off = some v) {xs : List Value}
    (hx : RVs (rc c) η w cs xs) : (∃ n, isAggT c.P t = some true ∧ sizeT c.P t = some n ∧ v = .agg ((cs.drop off).take n) ∧ off + n ≤ cs.length ∧ RVs (rc c) η w ((cs.drop off).take n) ((xs.drop off).take n) ∧ ((xs.drop off).take n).length = n) ∨
    (isAggT c.P t = some false ∧ ∃ x, xs[off]? = some x ∧ RV (rc c) η w v x) := by
  unfold takeV at h
  split at h
  · rename_i n ha hs
    left
    cases hb : (off + n).ble cs.length with
    | false => simp [hb] at h
    | true =>
      simp [hb] at h
      have hle := Nat.le_of_ble_eq_true hb
      have hl := hx.length
      exact ⟨n, ha, hs, h.symm, hle, (hx.drop off).take n, by simp; omega⟩
  · rename_i ha
    right
    obtain ⟨x, hx', hr⟩ := hx.get off h
    exact ⟨ha, x, hx', hr⟩
  · cases h

theorem run_loadVar {c : Cfg T} {η : Eta} {w : World} {t : TypeId} {cs : List (V T)} {b o off : Nat} {v : V T} (h : takeV c.P t cs off = some v) {xs : List Value}
    (hx : RVs (rc c) η w cs xs) (hr : Row w b o xs) : ∃ x, (loadVar t (at_ b (o + off))).run c.P w = .ok x w ∧ RV (rc c) η w v x := by
  rcases takeV_ok h hx with ⟨n, ha, hs, rfl, hle, hrv, hlen⟩ | ⟨ha, x, hx', hv⟩
  · refine ⟨.agg ((xs.drop off).take n).toArray, ?_, by simp only [RV]; exact ⟨_, rfl, hrv⟩⟩
    have := run_loadRow (P := c.P) ((hr.drop off).take n)
    rw [hlen] at this
    simp [loadVar, run_isAgg ha, run_size hs, this]
  · refine ⟨x, ?_, hv⟩
    have := hr off x hx'
    simp [loadVar, run_isAgg ha, this]

theorem run_part {c : Cfg T} {η : Eta} {w w0 : World} {t : TypeId} {cs : List (V T)} {off : Nat} {v : V T} (h : takeV c.P t cs off = some v) {xs : List Value}
    (hx : RVs (rc c) η w cs xs) : ∃ x, (part t xs.toArray off).run c.P w0 = .ok x w0 ∧ RV (rc c) η w v x := by
  rcases takeV_ok h hx with ⟨n, ha, hs, rfl, hle, hrv, hlen⟩ | ⟨ha, x, hx', hv⟩
  · refine ⟨.agg ((xs.drop off).take n).toArray, ?_, by simp only [RV]; exact ⟨_, rfl, hrv⟩⟩
    simp [part, run_isAgg ha, run_size hs]
  · refine ⟨x, ?_, hv⟩
    simp [part, run_isAgg ha, hx']

theorem ofDs_get (ds : List (D T)) (i : Nat) : (ofDs ds)[i]? = (ds[i]?).map .d := by simp [ofDs]

theorem row_of_cells {R : Rc T} {η : Eta} {w : World} {b : Nat} : ∀ (ds : List (D T)) (o : Nat),
    (∀ (j : Nat) (d : D T), ds[j]? = some d → ∃ v, w.cell? (at_ b (o + j)) = some v ∧ VD R (isOk η) w d v) → ∃ xs, RVs R η w (ofDs ds) xs ∧ Row w b o xs
  | [], o, _ => ⟨[], by simp [ofDs, RVs], by intro i x h; simp at h⟩
  | d :: ds, o, h => by
    obtain ⟨v, hv, hd⟩ := h 0 d rfl
    obtain ⟨xs, h1, h2⟩ := row_of_cells ds (o + 1) fun j d' hd' => by
      have := h (j + 1) d' (by simpa using hd')
      rwa [show o + (j + 1) = o + 1 + j by omega] at this
    refine ⟨v :: xs, ?_, ?_⟩
    · simp only [ofDs, List.map_cons, RVs]; exact ⟨v, xs, rfl, by simp only [RV]; exact hd, h1⟩
    · intro i x hx
      cases i with
      | zero => simp at hx; subst hx; simpa using hv
      | succ i => have := h2 i x (by simpa using hx); rwa [show o + 1 + i = o + (i + 1) by omega] at this

theorem Arr.row {R : Rc T} {η : Eta} {w : World} {t : TypeId} {xs : List (T t)} {b o : Nat} (h : Arr R (isOk η) w t xs b o) (ix : Nat) (hi : ix < xs.length) (dflt : T t) :
    ∃ ys, RVs R η w (ofDs (R.cod.enc t (xs.getD ix dflt))) ys ∧ Row w b (o + ix * R.sz t) ys := by
  have : xs.getD ix dflt = xs[ix] := by simp [List.getD, List.getElem?_eq_getElem hi]
  rw [this]
  refine row_of_cells _ _ fun j d hd => ?_
  obtain ⟨v, hv, hd'⟩ := h ix j hi d hd
  exact ⟨v, hv, hd'⟩

theorem row_of_box {w : World} {b : Nat} {ce : Array Value} {e : TypeId} {fr : Nat × Nat} (h : w.heap[b]? = some (.cells ce e fr)) : Row w b 0 ce.toList := by
  intro i x hx
  simp at hx
  simp [World.cell?, at_, h, hx]

theorem toDs_ok {R : Rc T} {η : Eta} {w : World} : ∀ {vs : List (V T)} {ds : List (D T)} {xs : List Value}, toDs vs = some ds → RVs R η w vs xs → RVs R η w (ofDs ds) xs ∧ ds.length = vs.length
  | [], ds, xs, h, hx => by simp [toDs] at h; subst h; exact ⟨by simpa [ofDs] using hx, rfl⟩
  | v :: vs, ds, xs, h, hx => by
    unfold toDs at h
    split at h
    · rename_i d ds' hd hds
      simp at h; subst h
      simp only [RVs] at hx
      obtain ⟨x, xs', rfl, h1, h2⟩ := hx
      obtain ⟨h3, h4⟩ := toDs_ok hds h2
      cases v <;> simp [toD] at hd
      subst hd
      refine ⟨?_, by simp [h4]⟩
      simp only [ofDs, List.map_cons, RVs]
      exact ⟨x, xs', rfl, h1, h3⟩
    · cases h

theorem leDs.rvs {R : Rc T} {η : Eta} {w : World} {ds ds' : List (D T)} (h : leDs ds ds') : ∀ {xs : List Value}, RVs R η w (ofDs ds) xs → RVs R η w (ofDs ds') xs := by
  induction h with
  | nil => intro xs h; exact h
  | cons h1 _ ih =>
    intro xs h
    simp only [ofDs, List.map_cons, RVs] at h ⊢
    obtain ⟨x, xs', rfl, h2, h3⟩ := h
    refine ⟨x, xs', rfl, ?_, ih h3⟩
    simp only [RV] at h2 ⊢
    exact h1.vd h2

/-- Elements that are cut out of cells lie where the cells lie. -/
theorem chunk_ok {c : Cfg T} (hc : CodOk (rc c)) {η : Eta} {w : World} {t : TypeId} {sz : Nat} : ∀ {n : Nat} {cs : List (V T)} {ys : List (T t)} {xs : List Value},
    chunk c.cod t sz n cs = some ys → RVs (rc c) η w cs xs → ys.length = n ∧ ∀ (i : Nat) (h : i < ys.length), RVs (rc c) η w (ofDs (c.cod.enc t ys[i])) ((xs.drop (i * sz)).take sz)
  | 0, cs, ys, xs, h, _ => by simp [chunk] at h; subst h; exact ⟨rfl, fun i h => absurd h (by simp)⟩
  | n + 1, cs, ys, xs, h, hx => by
    unfold chunk at h
    split at h
    · rename_i ds hds
      split at h
      · rename_i y ys' hy hys
        simp at h; subst h
        obtain ⟨h1, _⟩ := toDs_ok hds (hx.take sz)
        obtain ⟨h3, h4⟩ := chunk_ok hc hys (hx.drop sz)
        refine ⟨by simp [h3], ?_⟩
        intro i hi
        cases i with
        | zero => simpa [rc] using (hc.dec t ds y hy).rvs h1
        | succ i =>
          have := h4 i (by simpa using hi)
          simp only [List.getElem_cons_succ]
          rw [List.drop_drop] at this
          rwa [show (i + 1) * sz = sz + i * sz by rw [Nat.add_mul]; omega]
      · cases h
    · cases h

end Go.Ev
