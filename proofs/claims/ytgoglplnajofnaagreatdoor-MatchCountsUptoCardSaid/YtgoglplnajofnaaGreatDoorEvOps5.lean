/- A part of the evaluator of Go code over small heaps and of its proof: no condition beyond those that each theorem names. -/
import Derived.Test.YtgoglplnajofnaaGreatDoorEvOps4
set_option linter.unusedVariables false
set_option linter.unusedSimpArgs false
set_option linter.constructorNameAsVariable false
namespace Go.Ev
variable {T : TypeId → Type}

theorem elemT_ok {P : Program} {t e : TypeId} (h : elemT P t = some e) : P.underlying t = some (.slice e) := by
  unfold elemT at h; split at h <;> simp_all

theorem cell_of {w : World} {b i : Nat} {ce : Array Value} {e : TypeId} {fr : Nat × Nat} (h : w.heap[b]? = some (.cells ce e fr)) : w.cell? (at_ b i) = ce.toList[i]? := by
  simp [World.cell?, at_, h]

/-- Elements whose cells lie in a block. -/
theorem arr_of_rows {R : Rc T} {η : Eta} {w : World} {t : TypeId} {xs : List (T t)} {b o : Nat} {ce : Array Value} {e : TypeId} {fr : Nat × Nat} (hb : w.heap[b]? = some (.cells ce e fr))
    (h : ∀ (i : Nat) (hi : i < xs.length), RVs R η w (ofDs (R.cod.enc t xs[i])) ((ce.toList.drop (o + i * R.sz t)).take (R.sz t))) : Arr R (isOk η) w t xs b o := by
  intro i j hi d hd
  obtain ⟨x, hx, hr⟩ := (h i hi).get j (v := .d d) (by rw [ofDs_get, hd]; rfl)
  refine ⟨x, ?_, by simpa only [RV] using hr⟩
  rw [cell_of hb]
  have hj : j < R.sz t := by
    rcases Nat.lt_or_ge j (R.sz t) with h1 | h1
    · exact h1
    · rw [List.getElem?_take_eq_none h1] at hx; cases hx
  rw [List.getElem?_take_of_lt hj, List.getElem?_drop] at hx
  exact hx

/-- The cells of elements, one element behind the other. -/
theorem rows_of_arr {R : Rc T} (hc : CodOk R) {η : Eta} {w : World} {t : TypeId} (hk : R.cod.kn t = true) {b : Nat} : ∀ {xs : List (T t)} {o : Nat}, Arr R (isOk η) w t xs b o →
    ∃ ys : List Value, Row w b o ys ∧ ys.length = xs.length * R.sz t ∧ ∀ (i : Nat) (hi : i < xs.length), RVs R η w (ofDs (R.cod.enc t xs[i])) ((ys.drop (i * R.sz t)).take (R.sz t))
  | [], o, _ => ⟨[], by intro i x h; simp at h, by simp, fun i hi => absurd hi (by simp)⟩
  | x :: xs, o, h => by
    obtain ⟨ys, h1, h2⟩ := h.row 0 (by simp) x
    have hx : (x :: xs).getD 0 x = x := rfl
    rw [hx] at h1
    simp only [Nat.zero_mul, Nat.add_zero] at h2
    have hl : ys.length = R.sz t := by rw [h1.length]; simp [ofDs, hc.len t hk x]
    obtain ⟨zs, h3, h4, h5⟩ := rows_of_arr hc hk (xs := xs) (o := o + R.sz t) (by
      intro i j hi d hd
      obtain ⟨v, hv, hvd⟩ := h (i + 1) j (by simp; omega) d (by simpa using hd)
      refine ⟨v, ?_, hvd⟩
      rwa [show o + R.sz t + i * R.sz t + j = o + (i + 1) * R.sz t + j by rw [Nat.add_mul]; omega])
    refine ⟨ys ++ zs, ?_, ?_, ?_⟩
    · intro i v hv
      rcases Nat.lt_or_ge i ys.length with hi | hi
      · rw [List.getElem?_append_left hi] at hv; exact h2 i v hv
      · rw [List.getElem?_append_right hi] at hv
        have := h3 _ v hv
        rwa [show o + R.sz t + (i - ys.length) = o + i by omega] at this
    · simp [hl, h4, Nat.add_mul]; omega
    · intro i hi
      cases i with
      | zero =>
        simp only [Nat.zero_mul, List.drop_zero, List.getElem_cons_zero]
        rw [List.take_append_of_le_length (by omega), List.take_of_length_le (by omega)]
        exact h1
      | succ i =>
        simp only [List.getElem_cons_succ]
        have := h5 i (by simpa using hi)
        rw [Nat.add_mul, Nat.one_mul, Nat.add_comm, ← List.drop_drop, List.drop_append_of_le_length (by omega)]
        rw [← hl, List.drop_length]
        simpa [hl] using this

theorem newArr {c : Cfg T} {η : Eta} {n : Nat} {w w' : World} {e el : TypeId} {xs : List (T e)} {ce : Array Value} {cap : Nat} (hf : Fresh η n 1)
    (hw : w'.heap = w.heap.push (.cells ce el)) (hrest : w'.os = w.os ∧ w'.tape = w.tape ∧ w'.output = w.output) (hcap : xs.length ≤ cap) (hsz : cap * (rc c).sz e ≤ ce.size)
    (h : ∀ (i : Nat) (hi : i < xs.length), RVs (rc c) η w (ofDs (c.cod.enc e xs[i])) ((ce.toList.drop (i * (rc c).sz e)).take ((rc c).sz e))) :
    New (rc c) η (put1 η n (.arr e xs.length (some (w.heap.size, 0)) cap)) n [.arr e xs] w w' ∧
    RV (rc c) (put1 η n (.arr e xs.length (some (w.heap.size, 0)) cap)) w' (.sl n none) (.slice (some (at_ w.heap.size 0)) xs.length cap) := by
  refine ⟨New.one hf hw (Rest.push hw hrest.1 hrest.2.1 hrest.2.2) (fun b hb => hb) fun he hk => ?_, ?_⟩
  · have hb : w'.heap[w.heap.size]? = some (.cells ce el (0, 0)) := by rw [hw]; simp
    refine ⟨some (w.heap.size, 0), cap, rfl, ce, el, (0, 0), hb, by omega, hcap, fun i _ => by simp, ?_⟩
    refine arr_of_rows hb fun i hi => ?_
    simp only [Nat.zero_add]
    exact RVs.mono he hk _ _ (h i hi)
  · simp only [RV]
    exact ⟨_, _, _, _, by simp [put1], rfl, .inr ⟨e, some (w.heap.size, 0), rfl, .inl rfl⟩⟩

theorem fill_size {place : Nat → Option (Nat × Nat)} : ∀ {qs : List (Nat × Value)} {ce ce' : Array Value}, Instr.fill place ce qs = some ce' → ce'.size = ce.size
  | [], ce, ce', h => by simp [Instr.fill] at h; rw [h]
  | (i, v) :: qs, ce, ce', h => by
    simp only [Instr.fill] at h
    split at h
    · cases h
    · rename_i off size hpl
      split at h
      · cases h
      · rw [fill_size h]
        have := congrArg List.length (fill_put ce off v)
        rw [putL_length] at this
        simpa using this

theorem op_buildSlice {c : Cfg T} (hc : CodOk (rc c)) {η : Eta} {n : Nat} {w : World} {a : Act} {dst : Option Tmp} {t ty e : TypeId} {len size : Nat} {parts : Array (Nat × Operand)} {pos : String} {after : Array Edge} {g : Option (Nat × Bool)}
    {zero cells : List (V T)} {ps : List (Nat × V T)} {xs : List (T e)} (hf : Fresh η n 1) (he : elemT c.P t = some e) (hs : sizeT c.P e = some size) (hz : zeroCells c.P e = some zero)
    (hle : len * size ≤ 16777216) (hk : c.cod.kn e = true) (hsz : size = zero.length)
    (hfill : fillV (fun i => some (i * size, size)) (List.replicate len zero).flatten ps = some cells) (hch : chunk c.cod e size len cells = some xs)
    (hp : RPs (rc c) η w ps (parts.map fun (i, x) => (i, a.eval x)).toList) :
    ValOk c η n w [.arr e xs] (.sl n none) ((execOp a.eval ⟨dst, .buildSlice t len parts, ty, pos, after, g⟩).run c.P w) := by
  obtain ⟨z, hz1, hz2⟩ := zeroCells_ok (η := η) (w := w) hz
  have hzl : z.cells.size = size := by have := hz2.length; simp at this; omega
  obtain ⟨ce, h1, h2⟩ := fillV_ok (ce := (Array.range (len * size)).map (fun k => (if len * size = 0 then #[] else z.cells)[k % (if len * size = 0 then #[] else z.cells).size]!)) hfill hp (by
    by_cases h0 : len * size = 0
    · have : (List.replicate len zero).flatten = [] := by
        rcases Nat.mul_eq_zero.1 h0 with h0 | h0
        · subst h0; rfl
        · have : zero = [] := by apply List.eq_nil_of_length_eq_zero; omega
          rw [this]; simp
      rw [this]; simp [h0, RVs]
    · rw [if_neg h0, ← hzl, rep_get z.cells (by intro h; apply h0; rw [← hzl, h]; simp) len]
      exact hz2.flat len)
  obtain ⟨hxl, hrows⟩ := chunk_ok hc hch h2
  have hcs : ce.size = len * size := by rw [fill_size h1]; simp
  have hsz' : (rc c).sz e = size := sizeT_cells hs
  obtain ⟨hN, hR⟩ := newArr (c := c) (η := η) (n := n) (w := w) (w' := { w with heap := w.heap.push (.cells ce e) }) (e := e) (el := e) (xs := xs) (ce := ce) (cap := len) hf rfl ⟨rfl, rfl, rfl⟩ (by omega) (by rw [hsz', hcs]; exact Nat.le_refl _)
    (fun i hi => by rw [hsz']; exact hrows i hi)
  refine ⟨_, _, _, .inl ?_, hR, hN⟩
  have hle' : ¬ len * size > 2 ^ 24 := by show ¬ len * size > 16777216; omega
  by_cases h0 : len * size = 0
  · simp only [h0, if_true] at h1
    simp only [execOp, Instr.buildSlice, Sem.run_bind, run_under (elemT_ok he), Result.andThen_ok, run_size hs, Sem.run_ite, if_neg hle', h0, if_true, Sem.run_pure, h1]
    simp [newRow, hxl, at_]
  · simp only [h0, if_false] at h1
    simp only [execOp, Instr.buildSlice, Sem.run_bind, run_under (elemT_ok he), Result.andThen_ok, run_size hs, Sem.run_ite, if_neg hle', h0, if_false, Sem.run_pure, hz1, h1]
    simp [newRow, hxl, at_]

end Go.Ev
