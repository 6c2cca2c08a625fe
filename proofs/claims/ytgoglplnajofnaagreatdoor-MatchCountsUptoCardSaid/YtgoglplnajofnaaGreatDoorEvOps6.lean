/- A part of the evaluator of Go code over small heaps and of its proof: no condition beyond those that each theorem names. -/
import Derived.Test.YtgoglplnajofnaaGreatDoorEvOps5
set_option linter.unusedVariables false
set_option linter.unusedSimpArgs false
set_option linter.constructorNameAsVariable false
namespace Go.Ev
variable {T : TypeId → Type}

theorem Rest.setCells (b : Nat) : ∀ (vs : List Value) (o : Nat) (w : World), Rest w (w.setCells b o vs)
  | [], _, w => Rest.refl w
  | v :: vs, o, w => by
    rw [World.setCells]
    exact Rest.trans (w' := w.setCell ⟨b, o, none⟩ v) ⟨rfl, rfl, rfl⟩ (Rest.setCells b vs (o + 1) _)

theorem heap_setCell {w : World} {b o : Nat} {ce : Array Value} {e : TypeId} {fr : Nat × Nat} (h : w.heap[b]? = some (.cells ce e fr)) (v : Value) :
    (w.setCell (at_ b o) v).heap[b]? = some (.cells (ce.setIfInBounds o v) e fr) ∧ (∀ k, k ≠ b → (w.setCell (at_ b o) v).heap[k]? = w.heap[k]?) ∧ (w.setCell (at_ b o) v).heap.size = w.heap.size := by
  refine ⟨?_, ?_, ?_⟩
  · simp [World.setCell, at_, Array.getElem?_modify, h]
  · intro k hk
    simp [World.setCell, at_, Array.getElem?_modify, Ne.symm hk]
  · simp [World.setCell]

theorem heap_setCells {b : Nat} {e : TypeId} {fr : Nat × Nat} : ∀ (vs : List Value) (o : Nat) (w : World) (ce : Array Value), w.heap[b]? = some (.cells ce e fr) →
    (∃ ce', (w.setCells b o vs).heap[b]? = some (.cells ce' e fr) ∧ ce'.toList = putL ce.toList o vs) ∧ (∀ k, k ≠ b → (w.setCells b o vs).heap[k]? = w.heap[k]?) ∧ (w.setCells b o vs).heap.size = w.heap.size
  | [], o, w, ce, h => ⟨⟨ce, h, rfl⟩, fun _ _ => rfl, rfl⟩
  | v :: vs, o, w, ce, h => by
    obtain ⟨h1, h2, h3⟩ := heap_setCell (o := o) h v
    obtain ⟨⟨ce', h4, h5⟩, h6, h7⟩ := heap_setCells vs (o + 1) _ _ h1
    refine ⟨⟨ce', h4, ?_⟩, ?_, ?_⟩
    · rw [h5]; simp [putL]
    · intro k hk
      show ((w.setCell (at_ b o) v).setCells b (o + 1) vs).heap[k]? = _
      rw [h6 k hk, h2 k hk]
    · show ((w.setCell (at_ b o) v).setCells b (o + 1) vs).heap.size = _
      rw [h7, h3]

theorem run_storeRow {P : Program} {w : World} {b o : Nat} {ce : Array Value} {e : TypeId} {fr : Nat × Nat} (h : w.heap[b]? = some (.cells ce e fr)) {vs : List Value} (hle : o + vs.length ≤ ce.size)
    (hfr : ∀ i, i < ce.size → ¬ (fr.1 ≤ i ∧ i < fr.2)) (h1 : ∀ v ∈ vs, v.oneCell' = true) : (storeCells (at_ b o) vs).run P w = .ok () (w.setCells b o vs) := by
  have := run_storeCells_cells (P := P) b o vs 0 w (fun j hj => by
      have : w.cell? (at_ b (o + 0 + j)) = ce.toList[o + 0 + j]? := cell_of h
      show (w.cell? (at_ b (o + 0 + j))).isSome = true
      rw [this]; simp; omega)
    (fun j hj => by
      have hx := hfr (o + j) (by omega)
      simp only [World.frozen?, h, Nat.add_zero]
      simp only [Bool.and_eq_false_imp, decide_eq_true_eq, decide_eq_false_iff_not]
      intro h1 h2; exact hx ⟨h1, h2⟩) h1
  simpa [at_] using this

theorem ones {R : Rc T} {η : Eta} {w : World} : ∀ {vs : List (V T)} {xs : List Value}, RVs R η w vs xs → vs.all oneV = true → ∀ x ∈ xs, x.oneCell' = true
  | [], xs, h, _ => by simp only [RVs] at h; subst h; intro x hx; simp at hx
  | v :: vs, xs, h, ha => by
    simp only [RVs] at h
    obtain ⟨x, xs', rfl, h1, h2⟩ := h
    simp only [List.all_cons, Bool.and_eq_true] at ha
    intro y hy
    rcases List.mem_cons.1 hy with rfl | hy
    · exact (V.cells_ok h1 (.inl ha.1)).2 ha.1
    · exact ones h2 ha.2 y hy

theorem putL_get : ∀ (vs cs : List Value) (off k : Nat), off + vs.length ≤ cs.length → (putL cs off vs)[k]? = if off ≤ k ∧ k < off + vs.length then vs[k - off]? else cs[k]?
  | [], cs, off, k, _ => by simp [putL]; intro h1 h2; omega
  | v :: vs, cs, off, k, h => by
    simp only [putL]
    rw [putL_get vs (cs.set off v) (off + 1) k (by simp at h ⊢; omega)]
    simp only [List.length_cons] at h ⊢
    by_cases hk : off + 1 ≤ k ∧ k < off + 1 + vs.length
    · rw [if_pos hk, if_pos (by omega)]
      obtain ⟨m, rfl⟩ : ∃ m, k = off + 1 + m := ⟨k - (off + 1), by omega⟩
      rw [show off + 1 + m - (off + 1) = m by omega, show off + 1 + m - off = m + 1 by omega]
      simp
    · rw [if_neg hk]
      by_cases hk2 : k = off
      · subst hk2
        rw [if_pos (by omega), List.getElem?_set_self (by omega)]
        simp
      · rw [if_neg (by omega), List.getElem?_set_ne (by omega)]

/-- One object is changed, and its block. -/
theorem RelH.upd {R : Rc T} {η : Eta} {H : List (Obj T)} {w w' : World} (hH : RelH R η H w) {id : Nat} {r : RO} {o : Obj T} (hr : η id = some r) (he : Evo η η w w')
    (hs : ∀ b, ¬ r.has b → b < w.heap.size → w'.heap[b]? = w.heap[b]?) (ho : relObj R η w' o r) : RelH R η (H.set id o) w' where
  obj := fun id' r' o' hr' ho' => by
    by_cases hid : id' = id
    · subst hid
      rw [hr] at hr'; cases hr'
      rcases Nat.lt_or_ge id' H.length with h1 | h1
      · rw [List.getElem?_set_self h1] at ho'; cases ho'; exact ho
      · rw [List.getElem?_eq_none (by simpa using h1)] at ho'; cases ho'
    · rw [List.getElem?_set_ne (Ne.symm hid)] at ho'
      refine (hH.obj id' r' o' hr' ho').mono he (Keeps.refl η) fun b hb => hs b (fun hb' => hid (hH.inj id' id r' r b hr' hr hb hb')) (hH.lt id' r' b hr' hb)
  lt := fun id' r' b hr' hb => Nat.lt_of_lt_of_le (hH.lt id' r' b hr' hb) he.size
  inj := hH.inj
  nf := hH.nf
  fl := fun b hb => Nat.lt_of_lt_of_le (hH.fl b hb) he.size
  old := hH.oldEvo he

def WrOk (c : Cfg T) (η : Eta) (H' : List (Obj T)) (w : World) (v : V T) (res : Result Next) : Prop :=
  ∃ x w' η', (res = .ok (.value x) w' ∨ (res = .ok .skip w' ∧ x = undef)) ∧ RV (rc c) η' w' v x ∧ Evo η η' w w' ∧ Keeps η η' ∧ RelH (rc c) η' H' w' ∧ (∀ id, H'.length ≤ id → η' id = none)

theorem op_store {c : Cfg T} (hc : CodOk (rc c)) {η : Eta} {H H' : List (Obj T)} {w : World} {a : Act} {dst : Option Tmp} {t ty : TypeId} {x y : Operand} {pos : String} {after : Array Edge} {g : Option (Nat × Bool)} {p v : V T}
    (hH : RelH (rc c) η H w) (hf : ∀ id, H.length ≤ id → η id = none) (hp : RV (rc c) η w p (a.eval x)) (hv : RV (rc c) η w v (a.eval y)) (h : storeV c H t v p = some H') :
    WrOk c η H' w .u ((execOp a.eval ⟨dst, .store t x y, ty, pos, after, g⟩).run c.P w) := by
  unfold storeV at h
  split at h
  · rename_i id off
    split at h
    · rename_i cs n hcs hn
      cases hb : n.beq v.cells.length && (off + n).ble cs.length && v.cells.all oneV with
      | false => simp [hb] at h
      | true =>
        simp only [hb, cond_true, Option.some.injEq] at h
        subst h
        simp only [Bool.and_eq_true] at hb
        have e1 := Nat.eq_of_beq_eq_true hb.1.1
        have e2 := Nat.le_of_ble_eq_true hb.1.2
        simp only [RV] at hp
        obtain ⟨r, ad, hr, hpa, hp⟩ := hp
        obtain ⟨b, ce, e, rfl, hbl, hrv⟩ := hH.obj id r _ hr hcs
        rcases hp with hp | ⟨b', hb', rfl⟩
        · cases hp
        · cases hb'
          have hvc : RVs (rc c) η w v.cells (a.eval y).cells.toList := by
            refine (V.cells_ok hv ?_).1
            cases v <;> simp [V.cells, oneV] at hb ⊢
          have hl := hvc.length
          have hl2 := hrv.length
          simp at hl hl2
          have hst := run_storeRow (P := c.P) (o := off) hbl (vs := (a.eval y).cells.toList) (by simp; omega) (by intro i _; simp) (ones hvc hb.2)
          obtain ⟨⟨ce', h4, h5⟩, h6, h7⟩ := heap_setCells (a.eval y).cells.toList off w ce hbl
          have hlt := hH.lt id _ b hr rfl
          have he : Evo η η w (w.setCells b off (a.eval y).cells.toList) := ⟨by omega, fun k hk ho => h6 k (fun hkb => ho (hkb ▸ ⟨id, _, hr, rfl⟩)), fun _ _ h => h, rfl, rfl, Rest.setCells _ _ _ _⟩
          refine ⟨undef, _, η, .inr ⟨?_, rfl⟩, by simp only [RV], he, Keeps.refl η, hH.upd hr he (fun k hk _ => h6 k (fun hkb => hk hkb)) ⟨b, ce', e, rfl, h4, ?_⟩, fun id hid => hf id (by simpa using hid)⟩
          · simp only [execOp, Instr.storeAt, hpa, Instr.sureAddr, storeVar, Sem.run_bind, Sem.run_pure, Result.andThen_ok, run_size hn, Sem.run_ite]
            rw [if_neg (by omega), hst]
            rfl
          · rw [h5]
            exact RVs.mono he (Keeps.refl η) _ _ (hrv.put off hvc)
    · cases h
  · rename_i id ix off
    split at h
    · rename_i e xs n hxs hn
      split at h
      · rename_i ds hds
        cases hb : n.beq v.cells.length && (off + n).ble ds.length && c.cod.kn e && v.cells.all oneV with
        | false => simp [hb] at h
        | true =>
          simp only [hb, cond_true] at h
          split at h
          · rename_i y' hy'
            simp only [Option.some.injEq] at h
            subst h
            simp only [Bool.and_eq_true] at hb
            have e1 := Nat.eq_of_beq_eq_true hb.1.1.1
            have e2 := Nat.le_of_ble_eq_true hb.1.1.2
            have hk := hb.1.2
            simp only [RV] at hp
            obtain ⟨r, ad, hr, hpa, hp⟩ := hp
            obtain ⟨root, cap, rfl, hrel⟩ := hH.obj id r _ hr hxs
            rcases hp with hp | ⟨t', n', b, o, cap', hb', hix, rfl⟩
            · cases hp
            · cases hb'
              obtain ⟨ce, el, fr, hbl, hsz, hcap, hfr, harr⟩ := hrel
              have hvc : RVs (rc c) η w v.cells (a.eval y).cells.toList := by
                refine (V.cells_ok hv ?_).1
                cases v <;> simp [V.cells, oneV] at hb ⊢
              have hl := hvc.length
              simp at hl
              obtain ⟨row, hrow1, hrow2⟩ := harr.row ix hix (c.cod.dflt e)
              have hget : xs.getD ix (c.cod.dflt e) = xs[ix] := by simp [List.getD, List.getElem?_eq_getElem hix]
              have hrl : row.length = (rc c).sz e := by rw [hrow1.length]; simp [ofDs]; exact hc.len e hk _
              obtain ⟨hds1, hds2⟩ := toDs_ok hds (hrow1.put off hvc)
              have hdl : ds.length = (rc c).sz e := by rw [hds2, putV_length]; simp [ofDs]; exact hc.len e hk _
              have hmul : (ix + 1) * (rc c).sz e ≤ cap * (rc c).sz e := Nat.mul_le_mul_right _ (by omega)
              rw [Nat.add_mul, Nat.one_mul] at hmul
              have hst := run_storeRow (P := c.P) (o := o + ix * (rc c).sz e + off) hbl (vs := (a.eval y).cells.toList) (by simp; omega) hfr (ones hvc hb.2)
              obtain ⟨⟨ce', h4, h5⟩, h6, h7⟩ := heap_setCells (a.eval y).cells.toList (o + ix * (rc c).sz e + off) w ce hbl
              have hlt := hH.lt id _ b hr rfl
              have he : Evo η η w (w.setCells b (o + ix * (rc c).sz e + off) (a.eval y).cells.toList) :=
                ⟨by omega, fun k hk ho => h6 k (fun hkb => ho (hkb ▸ ⟨id, _, hr, rfl⟩)), fun _ _ h => h, rfl, rfl, Rest.setCells _ _ _ _⟩
              have hces : ce'.size = ce.size := by have := congrArg List.length h5; rw [putL_length] at this; simpa using this
              refine ⟨undef, _, η, .inr ⟨?_, rfl⟩, by simp only [RV], he, Keeps.refl η, hH.upd hr he (fun k hk _ => h6 k (fun hkb => hk hkb))
                ⟨some (b, o), cap, by simp, ce', el, fr, h4, by omega, by simpa using hcap, fun i hi => hfr i (by omega), ?_⟩, fun id hid => hf id (by simpa using hid)⟩
              · simp only [execOp, Instr.storeAt, hpa, Instr.sureAddr, storeVar, Sem.run_bind, Sem.run_pure, Result.andThen_ok, run_size hn, Sem.run_ite]
                rw [if_neg (by omega), hst]
                rfl
              · intro i j hi d hd
                have hi' : i < xs.length := by simpa using hi
                have hj : j < (rc c).sz e := by
                  rcases Nat.lt_or_ge j ((rc c).sz e) with h1 | h1
                  · exact h1
                  · rw [List.getElem?_eq_none (by rw [hc.len e hk]; exact h1)] at hd; cases hd
                rw [cell_of h4, h5, putL_get _ _ _ _ (by simp; omega)]
                by_cases hii : i = ix
                · subst hii
                  rw [List.getElem_set_self] at hd
                  obtain ⟨d0, hd0, hle⟩ := (hc.dec e ds y' hy').get j d hd
                  obtain ⟨u, hu1, hu2⟩ := hds1.get j (v := .d d0) (by rw [ofDs_get, hd0]; rfl)
                  have hu2' : VD (rc c) (isOk η) w d0 u := by simpa only [RV] using hu2
                  have hu3 := hle.vd (hu2'.mono he.size he.ok)
                  rw [putL_get _ _ _ _ (by simp; omega)] at hu1
                  refine ⟨u, ?_, hu3⟩
                  split at hu1
                  · rename_i hh
                    rw [if_pos (by omega), show o + i * (rc c).sz e + j - (o + i * (rc c).sz e + off) = j - off by omega]
                    exact hu1
                  · rename_i hh
                    rw [if_neg (by omega)]
                    have := hrow2 j u hu1
                    rw [cell_of hbl] at this
                    exact this
                · rw [List.getElem_set_ne (Ne.symm hii)] at hd
                  obtain ⟨u, hu1, hu2⟩ := harr i j hi' d hd
                  refine ⟨u, ?_, hu2.mono he.size he.ok⟩
                  rw [cell_of hbl] at hu1
                  rw [if_neg ?_]
                  · exact hu1
                  · intro hh
                    have hll : (a.eval y).cells.toList.length = (a.eval y).cells.size := Array.length_toList
                    rcases Nat.lt_or_gt_of_ne hii with h1 | h1
                    · have : (i + 1) * (rc c).sz e ≤ ix * (rc c).sz e := Nat.mul_le_mul_right _ h1
                      rw [Nat.add_mul, Nat.one_mul] at this
                      omega
                    · have : (ix + 1) * (rc c).sz e ≤ i * (rc c).sz e := Nat.mul_le_mul_right _ h1
                      rw [Nat.add_mul, Nat.one_mul] at this
                      omega
          · cases h
      · cases h
    · cases h
  · cases h

end Go.Ev
