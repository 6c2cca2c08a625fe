/- A part of the evaluator of Go code over small heaps and of its proof: no condition beyond those that each theorem names. -/
import Derived.Test.YtgoglplnajofnaaGreatDoorEvOps3
set_option linter.unusedVariables false
set_option linter.unusedSimpArgs false
set_option linter.constructorNameAsVariable false
namespace Go.Ev
variable {T : TypeId → Type}

/-- Values put over others. -/
def putL : List Value → Nat → List Value → List Value
  | cs, _, [] => cs
  | cs, off, v :: vs => putL (cs.set off v) (off + 1) vs

theorem putL_length : ∀ (cs : List Value) (off : Nat) (vs : List Value), (putL cs off vs).length = cs.length
  | cs, off, [] => rfl
  | cs, off, v :: vs => by simp [putL, putL_length]

theorem putV_length : ∀ (cs : List (V T)) (off : Nat) (vs : List (V T)), (putV cs off vs).length = cs.length
  | cs, off, [] => rfl
  | cs, off, v :: vs => by simp [putV, putV_length]

theorem RVs.put {R : Rc T} {η : Eta} {w : World} : ∀ {us : List (V T)} {ys : List Value} {cs : List (V T)} {xs : List Value} (off : Nat), RVs R η w cs xs → RVs R η w us ys →
    RVs R η w (putV cs off us) (putL xs off ys)
  | [], ys, cs, xs, off, h, h' => by simp only [RVs] at h'; subst h'; exact h
  | u :: us, ys, cs, xs, off, h, h' => by
    simp only [RVs] at h'
    obtain ⟨y, ys', rfl, h1, h2⟩ := h'
    simp only [putV, putL]
    exact RVs.put (off + 1) (h.set off h1) h2

theorem foldl_put : ∀ (vs : List Value) (off k : Nat) (cs : Array Value),
    ((vs.zipIdx k).foldl (fun cs (p : Value × Nat) => cs.setIfInBounds (off + p.2) p.1) cs).toList = putL cs.toList (off + k) vs
  | [], _, _, _ => rfl
  | v :: vs, off, k, cs => by
    simp only [List.zipIdx_cons, List.foldl_cons, putL]
    rw [foldl_put vs off (k + 1)]
    simp [Nat.add_assoc]

theorem fill_put (cells : Array Value) (off : Nat) (v : Value) :
    (v.cells.zipIdx.foldl (fun cs (p : Value × Nat) => cs.setIfInBounds (off + p.2) p.1) cells).toList = putL cells.toList off v.cells.toList := by
  rw [← Array.foldl_toList, Array.toList_zipIdx, foldl_put]
  simp

theorem kn_cells {R : Rc T} {η : Eta} {w : World} {v : V T} {x : Value} (h : RV R η w v x) (hk : kn v = true) : RVs R η w v.cells x.cells.toList := by
  refine (V.cells_ok h ?_).1
  unfold kn at hk
  split at hk
  · exact .inr ⟨_, rfl⟩
  · exact .inl hk

def RPs (R : Rc T) (η : Eta) (w : World) (ps : List (Nat × V T)) (qs : List (Nat × Value)) : Prop :=
  ps.length = qs.length ∧ ∀ (i : Nat) (p : Nat × V T) (q : Nat × Value), ps[i]? = some p → qs[i]? = some q → p.1 = q.1 ∧ RV R η w p.2 q.2

theorem fillV_ok {R : Rc T} {η : Eta} {w : World} {place : Nat → Option (Nat × Nat)} : ∀ {ps : List (Nat × V T)} {qs : List (Nat × Value)} {cs cs' : List (V T)} {ce : Array Value},
    fillV place cs ps = some cs' → RPs R η w ps qs → RVs R η w cs ce.toList → ∃ ce', Instr.fill place ce qs = some ce' ∧ RVs R η w cs' ce'.toList
  | [], qs, cs, cs', ce, h, hp, hc => by
    have : qs = [] := by apply List.eq_nil_of_length_eq_zero; rw [← hp.1]; rfl
    subst this
    simp [fillV] at h; subst h
    exact ⟨ce, rfl, hc⟩
  | (i, v) :: ps, qs, cs, cs', ce, h, hp, hc => by
    obtain ⟨q, qs', rfl⟩ : ∃ q qs', qs = q :: qs' := by
      cases qs with
      | nil => simp [RPs] at hp
      | cons q qs' => exact ⟨q, qs', rfl⟩
    obtain ⟨j, x⟩ := q
    obtain ⟨h1, h2⟩ := hp.2 0 _ _ rfl rfl
    simp only at h1 h2
    subst h1
    unfold fillV at h
    split at h
    · cases h
    · rename_i off size hpl
      cases hb : kn v && size.beq v.cells.length && (off + size).ble cs.length with
      | false => simp [hb] at h
      | true =>
        simp only [hb, cond_true] at h
        simp only [Bool.and_eq_true] at hb
        have hk := kn_cells h2 hb.1.1
        have hs := Nat.eq_of_beq_eq_true hb.1.2
        have hle := Nat.le_of_ble_eq_true hb.2
        have hl1 := hk.length
        have hl2 := hc.length
        simp at hl1 hl2
        obtain ⟨ce', h3, h4⟩ := fillV_ok (qs := qs') (ce := (x.cells.zipIdx.foldl (fun cs (p : Value × Nat) => cs.setIfInBounds (off + p.2) p.1) ce)) h
          ⟨by simpa using hp.1, fun k p q hp' hq => hp.2 (k + 1) p q (by simpa using hp') (by simpa using hq)⟩
          (by rw [fill_put]; exact hc.put off hk)
        refine ⟨ce', ?_, h4⟩
        simp only [Instr.fill, hpl]
        rw [if_neg (by simp; omega)]
        exact h3

theorem places_ok {P : Program} : ∀ {fs : List Field} {ps : List (Nat × Nat)}, places P fs = some ps → ∀ w, (fs.mapM (fun f => do pure (f.offset, ← sizeOf f.type) : Field → Sem (Nat × Nat))).run P w = .ok ps w
  | [], ps, h, w => by simp [places] at h; subst h; simp
  | f :: fs, ps, h, w => by
    unfold places at h
    split at h
    · rename_i n ps' hn hps
      simp at h; subst h
      have := places_ok hps w
      simp only [List.mapM_cons, Sem.run_bind, run_size hn, Result.andThen_ok, Sem.run_pure]
      rw [this]
      rfl
    · cases h

theorem buildV_ok {c : Cfg T} {η : Eta} {w : World} {t : TypeId} {ps : List (Nat × V T)} {qs : Array (Nat × Value)} {v : V T} (h : buildV c.P t ps = some v)
    (hp : RPs (rc c) η w ps qs.toList) : ∃ y, (Instr.build t qs).run c.P w = .ok y w ∧ RV (rc c) η w v y := by
  unfold buildV at h
  split at h
  · rename_i zero fs hz hu
    obtain ⟨z, hz1, hz2⟩ := zeroCells_ok (η := η) (w := w) hz
    split at h
    · rename_i pl hpl
      cases hf : fillV (fun i => pl[i]?) zero ps with
      | none => simp [hf] at h
      | some cs =>
        simp [hf] at h; subst h
        obtain ⟨ce, h1, h2⟩ := fillV_ok hf hp hz2
        have hm := places_ok hpl w
        refine ⟨.agg ce, ?_, by simp only [RV]; exact ⟨ce.toList, by simp, h2⟩⟩
        have h1' : Instr.fill (fun x => (pl.toArray)[x]?) z.cells qs.toList = some ce := by simpa using h1
        simp only [Instr.build, Sem.run_bind, hz1, Result.andThen_ok, Sem.run_pure, run_under hu]
        have hm' : (fs.mapM (fun f => do pure (f.offset, ← sizeOf f.type) : Field → Sem (Nat × Nat))).run c.P w = .ok pl.toArray w := by
          rw [Array.mapM_eq_mapM_toList, Sem.run_map, hm]; rfl
        simp only [hm', Result.andThen_ok, h1', Sem.run_pure]
    · cases h
  · rename_i zero n e hz hu
    obtain ⟨z, hz1, hz2⟩ := zeroCells_ok (η := η) (w := w) hz
    split at h
    · rename_i size hsize
      cases hf : fillV (fun i => some (i * size, size)) zero ps with
      | none => simp [hf] at h
      | some cs =>
        simp [hf] at h; subst h
        obtain ⟨ce, h1, h2⟩ := fillV_ok hf hp hz2
        refine ⟨.agg ce, ?_, by simp only [RV]; exact ⟨ce.toList, by simp, h2⟩⟩
        simp only [Instr.build, Sem.run_bind, hz1, Result.andThen_ok, Sem.run_pure, run_under hu, run_size hsize, h1]
    · cases h
  · cases h

theorem rep_get (zero : Array Value) (hz : zero.size ≠ 0) : ∀ (len : Nat), ((Array.range (len * zero.size)).map (fun k => zero[k % zero.size]!)).toList = (List.replicate len zero.toList).flatten
  | 0 => by simp
  | len + 1 => by
    have ih := rep_get zero hz len
    rw [List.replicate_succ', List.flatten_append, ← ih]
    simp only [Array.toList_map, Array.toList_range, List.flatten_cons, List.flatten_nil, List.append_nil]
    rw [Nat.add_mul, Nat.one_mul, List.range_add, List.map_append, List.map_map]
    congr 1
    apply List.ext_getElem
    · simp
    · intro i h1 h2
      simp at h1
      simp [Nat.add_mod, Nat.mod_eq_of_lt h1, Nat.mul_mod_left, h1]

theorem RVs.flat {R : Rc T} {η : Eta} {w : World} {cs : List (V T)} {xs : List Value} (h : RVs R η w cs xs) : ∀ (n : Nat), RVs R η w (List.replicate n cs).flatten (List.replicate n xs).flatten
  | 0 => by simp [RVs]
  | n + 1 => by simp only [List.replicate_succ, List.flatten_cons]; exact h.append (RVs.flat h n)

end Go.Ev
