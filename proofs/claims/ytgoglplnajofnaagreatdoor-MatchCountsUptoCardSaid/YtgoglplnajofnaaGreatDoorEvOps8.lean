/- A part of the evaluator of Go code over small heaps and of its proof: no condition beyond those that each theorem names. -/
import Derived.Test.YtgoglplnajofnaaGreatDoorEvOps7
set_option linter.unusedVariables false
set_option linter.unusedSimpArgs false
set_option linter.constructorNameAsVariable false
namespace Go.Ev
variable {T : TypeId → Type}

/-- A list that took another one's place: the elder one is dead. -/
theorem appended {c : Cfg T} {η : Eta} {H : List (Obj T)} {w w' : World} {e : TypeId} {zs : List (T e)} {root : Option (Nat × Nat)} {cap : Nat} {base : Option Addr} (hbase : base = rootA root ∨ cap = 0) (hH : RelH (rc c) η H w)
    (hf : ∀ id, H.length ≤ id → η id = none) {id : Nat} {r0 : RO} (hid : id < H.length) (hr0 : η id = some r0)
    (hrest : Rest w w') (hw : w.heap.size ≤ w'.heap.size) (hs : ∀ b, ¬ r0.has b → b < w.heap.size → w'.heap[b]? = w.heap[b]?)
    (hroot : ∀ b, (RO.arr e zs.length root cap).has b → (r0.has b ∨ w.heap.size ≤ b) ∧ b < w'.heap.size)
    (ho : Evo η (put1 (kill η id) H.length (RO.arr e zs.length root cap)) w w' → Keeps η (put1 (kill η id) H.length (RO.arr e zs.length root cap)) → relObj (rc c) (put1 (kill η id) H.length (RO.arr e zs.length root cap)) w' (Obj.arr e zs) (RO.arr e zs.length root cap)) :
    ∃ η', Evo η η' w w' ∧ Keeps η η' ∧ RelH (rc c) η' (H.set id Obj.dead ++ [Obj.arr e zs]) w' ∧ (∀ k, (H.set id Obj.dead ++ [Obj.arr e zs]).length ≤ k → η' k = none) ∧
      RV (rc c) η' w' (.sl H.length none) (.slice base zs.length cap) := by
  have hk : Keeps η (put1 (kill η id) H.length (RO.arr e zs.length root cap)) := fun k r hr => by
    by_cases h1 : k = H.length
    · subst h1; rw [hf _ (Nat.le_refl _)] at hr; cases hr
    · exact (kill_keeps η id k r hr).eq (by rw [put1_eq, if_neg h1])
  have he : Evo η (put1 (kill η id) H.length (RO.arr e zs.length root cap)) w w' := by
    refine ⟨hw, fun b hb ho => hs b (fun h => ho ⟨id, r0, hr0, h⟩) hb, ?_, rfl, rfl, hrest⟩
    rintro b hb ⟨k, r, h1, h2⟩
    rw [put1_eq] at h1
    by_cases hk : k = H.length
    · rw [if_pos hk] at h1; cases h1
      rcases (hroot b h2).1 with h3 | h3
      · exact ⟨id, r0, hr0, h3⟩
      · omega
    · rw [if_neg hk] at h1
      exact (kill_evo η id w).own b hb ⟨k, r, h1, h2⟩
  refine ⟨_, he, hk, ?_, ?_, ?_⟩
  · have hcase : ∀ k r, put1 (kill η id) H.length (RO.arr e zs.length root cap) k = some r → (k = H.length ∧ r = RO.arr e zs.length root cap) ∨ (k = id ∧ r = .dead) ∨ (k ≠ H.length ∧ k ≠ id ∧ η k = some r) := by
      intro k r hr
      rw [put1_eq] at hr
      by_cases h1 : k = H.length
      · rw [if_pos h1] at hr; cases hr; exact .inl ⟨h1, rfl⟩
      · rw [if_neg h1] at hr
        rw [kill_eq] at hr
        by_cases h2 : k = id
        · rw [if_pos h2] at hr; cases hr; exact .inr (.inl ⟨h2, rfl⟩)
        · rw [if_neg h2] at hr; exact .inr (.inr ⟨h1, h2, hr⟩)
    refine ⟨?_, ?_, ?_, ?_, fun b hb => Nat.lt_of_lt_of_le (hH.fl b hb) hw, hH.oldEvo he⟩
    · intro k r o hr hob
      rcases hcase k r hr with ⟨rfl, rfl⟩ | ⟨rfl, rfl⟩ | ⟨h1, h2, h3⟩
      · rw [List.getElem?_append_right (by simp)] at hob
        simp at hob; subst hob
        exact ho he hk
      · rw [List.getElem?_append_left (by simpa using hid), List.getElem?_set_self hid] at hob
        cases hob; rfl
      · have hlt : k < H.length := by
          rcases Nat.lt_or_ge k H.length with h4 | h4
          · exact h4
          · rw [List.getElem?_eq_none (by simp; omega)] at hob; cases hob
        rw [List.getElem?_append_left (by simpa using hlt), List.getElem?_set_ne (Ne.symm h2)] at hob
        exact (hH.obj k r o h3 hob).mono he hk fun b hb => hs b (fun h => h2 (hH.inj k id r r0 b h3 hr0 hb h)) (hH.lt k r b h3 hb)
    · intro k r b hr hb
      rcases hcase k r hr with ⟨rfl, rfl⟩ | ⟨rfl, rfl⟩ | ⟨h1, h2, h3⟩
      · exact (hroot b hb).2
      · exact hb.elim
      · exact Nat.lt_of_lt_of_le (hH.lt k r b h3 hb) hw
    · intro k k' r r' b hr hr' hb hb'
      rcases hcase k r hr with ⟨rfl, rfl⟩ | ⟨rfl, rfl⟩ | ⟨h1, h2, h3⟩ <;> rcases hcase k' r' hr' with ⟨rfl, rfl⟩ | ⟨rfl, rfl⟩ | ⟨h1', h2', h3'⟩
      · rfl
      · exact hb'.elim
      · rcases (hroot b hb).1 with h4 | h4
        · exact absurd (hH.inj k' id r' r0 b h3' hr0 hb' h4) h2'
        · have := hH.lt k' r' b h3' hb'; omega
      · exact hb.elim
      · rfl
      · exact hb.elim
      · rcases (hroot b hb').1 with h4 | h4
        · exact absurd (hH.inj k id r r0 b h3 hr0 hb h4) h2
        · have := hH.lt k r b h3 hb; omega
      · exact hb'.elim
      · exact hH.inj k k' r r' b h3 h3' hb hb'
    · intro k r b hr hb hfar
      have hfar' : η.far b := hfar
      rcases hcase k r hr with ⟨rfl, rfl⟩ | ⟨rfl, rfl⟩ | ⟨h1, h2, h3⟩
      · rcases (hroot b hb).1 with h4 | h4
        · exact hH.nf id r0 b hr0 h4 hfar'
        · have := hH.fl b hfar'; omega
      · exact hb.elim
      · exact hH.nf k r b h3 hb hfar'
  · intro k hkl
    rw [put1_eq, kill_eq]
    simp at hkl
    rw [if_neg (by omega), if_neg (by omega)]
    exact hf k (by omega)
  · simp only [RV]
    exact ⟨_, _, _, _, by simp [put1], rfl, .inr ⟨e, root, rfl, hbase⟩⟩

theorem elem_info {c : Cfg T} {e : TypeId} {zero : List (V T)} (hz : zeroCells c.P e = some zero) : ∃ i z, c.P.info? e = some i ∧ i.zero = some z ∧ z.cells.size = zero.length := by
  unfold zeroCells at hz
  split at hz
  · rename_i i hi
    split at hz
    · rename_i z hz'
      simp at hz; subst hz
      exact ⟨i, z, hi, hz', by simp⟩
    · cases hz
  · cases hz

/-- Where a list of one's own lies. -/
theorem slPlace {c : Cfg T} {η : Eta} {H : List (Obj T)} {w : World} (hH : RelH (rc c) η H w) {e : TypeId} {id : Nat} {rng : Option (Nat × Nat)} {a : Value} {xs : List (T e)}
    (hs : RV (rc c) η w (.sl id rng) a) (h : asL H e (.sl id rng) = some xs) : ∃ r0 base cap, η id = some r0 ∧ id < H.length ∧ a = .slice base xs.length cap ∧ xs.length ≤ cap ∧
      (cap = 0 ∨
        ∃ b o ce el fr, base = some (at_ b o) ∧ r0.has b ∧ w.heap[b]? = some (.cells ce el fr) ∧ o + cap * (rc c).sz e ≤ ce.size ∧ (∀ i, i < ce.size → ¬ (fr.1 ≤ i ∧ i < fr.2)) ∧ Arr (rc c) (isOk η) w e xs b o) := by
  have hrd := asL_ok hH hs h
  unfold asL at h
  simp only at h
  split at h
  · rename_i t' zs hzs
    have hid : id < H.length := (List.getElem?_eq_some_iff.1 hzs).1
    split at h
    · rename_i ys hys
      have e1 := asT_eq hys
      subst e1
      have e1 := asT_self hys
      subst e1
      simp at h; subst h
      simp only [RV] at hs
      obtain ⟨r, a', n, cc, hr, rfl, hx⟩ := hs
      obtain ⟨root, cap, rfl, hrel⟩ := hH.obj id r _ hr hzs
      rcases hx with hx | ⟨t'', root', hx, hbase⟩
      · cases hx
      · cases hx
        refine ⟨_, _, _, hr, hid, rfl, ?_, ?_⟩
        · cases root with
          | none => obtain ⟨h1, h2⟩ := hrel; subst h1; simp
          | some p => obtain ⟨_, _, _, _, _, h3, _⟩ := hrel; exact h3
        · cases root with
          | none => obtain ⟨h1, h2⟩ := hrel; exact .inl h2
          | some p =>
            obtain ⟨b, o⟩ := p
            obtain ⟨ce, el, fr, h1, h2, h3, h4, h5⟩ := hrel
            rcases hbase with rfl | hbase
            · exact .inr ⟨b, o, ce, el, fr, rfl, rfl, h1, h2, h4, h5⟩
            · exact .inl hbase
    · rename_i ys o n hys
      have e1 := asT_eq hys
      subst e1
      have e1 := asT_self hys
      subst e1
      simp at h; subst h
      simp only [RV] at hs
      obtain ⟨r, a', cc, hr, rfl, hx⟩ := hs
      obtain ⟨root, cap, rfl, hrel⟩ := hH.obj id r _ hr hzs
      rcases hx with hx | ⟨t'', n', root', cap', hx, hon, rfl, ha⟩
      · cases hx
      · cases hx
        have hl : ((ys.drop o).take n).length = n := by simp; omega
        obtain ⟨b0, c0, hb0, hc0, _⟩ := hrd.len
        simp only [Value.slice.injEq] at hb0
        obtain ⟨_, _, rfl⟩ := hb0
        refine ⟨_, _, _, hr, hid, by rw [hl], by omega, ?_⟩
        by_cases h0 : o < cap
        · cases root with
          | none => obtain ⟨h1, h2⟩ := hrel; omega
          | some p =>
            obtain ⟨b, k⟩ := p
            obtain ⟨ce, el, fr, h1, h2, h3, h4, h5⟩ := hrel
            refine .inr ⟨b, k + o * (rc c).sz t', ce, el, fr, by rw [ha h0]; rfl, rfl, h1, ?_, h4, ?_⟩
            · have : (cap - o) * (rc c).sz t' + o * (rc c).sz t' = cap * (rc c).sz t' := by rw [← Nat.add_mul]; congr 1; omega
              omega
            · have := h5.part o (o + n)
              rwa [show (ys.take (o + n)).drop o = (ys.drop o).take n by rw [List.drop_take]; congr 1; omega] at this
        · exact .inl (by omega)
    · cases h
  · cases h

theorem op_append {c : Cfg T} (hc : CodOk (rc c)) {η : Eta} {H H' : List (Obj T)} {w : World} {t u : TypeId} {s x v : V T} {a b : Value} {ok : Bool} (ty : TypeId)
    (hH : RelH (rc c) η H w) (hf : ∀ id, H.length ≤ id → η id = none) (hs : RV (rc c) η w s a) (hx : RV (rc c) η w x b) (h : appendV c H t u s x = some (ok, H', v)) (hok : ok = true) :
    ∃ y w' η', (Builtin.append_ #[t, u] ty #[a, b]).run c.P w = .ok y w' ∧ RV (rc c) η' w' v y ∧ Evo η η' w w' ∧ Keeps η η' ∧ RelH (rc c) η' H' w' ∧ (∀ id, H'.length ≤ id → η' id = none) := by
  subst hok
  unfold appendV at h
  split at h
  · cases h
  rename_i e he
  cases hby : ((c.P.info? e).map (·.bytes)).any (fun b => Nat.ble b 16384) with
  | false => simp [hby] at h
  | true =>
  simp only [hby, cond_true] at h
  cases hu : (elemT c.P u).any (·.beq e) && c.cod.kn e && (zeroCells (T := T) c.P e).any (fun z => sizeT c.P e == some z.length) with
  | false => simp [hu] at h
  | true =>
  simp only [hu, cond_true] at h
  simp only [Bool.and_eq_true] at hu
  obtain ⟨⟨hu1, hk⟩, hz0⟩ := hu
  have hue : elemT c.P u = some e := by
    cases h1 : elemT c.P u with
    | none => simp [h1] at hu1
    | some e' => simp [h1] at hu1; rw [hu1]
  cases hz1 : (zeroCells (T := T) c.P e) with
  | none => simp [hz1] at hz0
  | some zero =>
  obtain ⟨i, z, hi, hz, hzl⟩ := elem_info hz1
  have hzl' : z.cells.size = i.size := by
    rw [hzl]
    simp [hz1, sizeT, hi] at hz0
    omega
  have hb : i.bytes ≤ 16384 := by simpa [hi] using hby
  split at h
  · cases h
  rename_i ys hys
  have hy := asL_ok hH hx hys
  split at h
  · simp only [Option.some.injEq, Prod.mk.injEq, decide_eq_true_eq] at h
    obtain ⟨hm, rfl, rfl⟩ := h
    simp only [RV] at hs
    cases hs
    have hx0 : Reads (rc c) η w e [] (.slice none 0 0) := ⟨none, 0, rfl, Nat.le_refl _, .inl rfl⟩
    rcases run_append hc (η := η) (w := w) ty he hue hk hi hb hz hzl' hx0 hy (by simpa using hm) rfl with ⟨hle, cells, hl, hr, hrun⟩ | ⟨hlt, k, ce, hk1, hk2, hr, hrun⟩
    · have hy0 : ys = [] := by simpa using hle
      subst hy0
      refine ⟨_, w, put1 η H.length (RO.arr e 0 none 0), by simpa [storeAt?] using hrun, ?_, ?_⟩
      · simp only [RV]
        exact ⟨_, none, 0, 0, by simp [put1], rfl, .inr ⟨e, none, rfl, .inl rfl⟩⟩
      · have hN : New (rc c) η (put1 η H.length (RO.arr e 0 none 0)) H.length [Obj.arr e ([] : List (T e))] w w := by
          refine ⟨Nat.le_refl _, fun _ _ => rfl, ?_, ?_, ?_, ?_, rfl, rfl, Rest.refl w⟩
          · intro id hid; rw [put1_eq]; rw [if_neg (by simp at hid; omega)]
          · intro k o r' ho hr'
            cases k with
            | zero => simp at ho; subst ho; simp [put1] at hr'; subst hr'; exact ⟨none, 0, rfl, rfl, rfl⟩
            | succ k => simp at ho
          · intro k r b hk hr hb'
            have : k = 0 := by simpa using hk
            subst this
            simp [put1] at hr; subst hr; exact hb'.elim
          · intro k k' _ _ _ hk1 hk2 _ _ _ _; simp at hk1 hk2; omega
        have hfr : Fresh η H.length [Obj.arr e ([] : List (T e))].length := fun id h1 _ => hf id h1
        exact ⟨hN.evo, hN.keeps hfr, hN.relH hfr hH, fun id hid => by rw [hN.keep id (by simp at hid ⊢; omega)]; exact hf id (by simp at hid; omega)⟩
    · have hN := newArr (c := c) (η := η) (n := H.length) (w := w) (w' := w.drew.alloc (.cells ce e)) (e := e) (el := e) (xs := ys) (ce := ce) (cap := k) (fun id h1 _ => hf id h1) rfl ⟨rfl, rfl, rfl⟩ (by simpa using hk1) (by omega)
        (fun i hi => by simpa using hr i (by simpa using hi))
      have hfr : Fresh η H.length [Obj.arr e ys].length := fun id h1 _ => hf id h1
      refine ⟨_, _, _, by simpa using hrun, by simpa using hN.2, hN.1.evo, hN.1.keeps hfr, hN.1.relH hfr hH, fun id hid => ?_⟩
      rw [hN.1.keep id (by simp at hid ⊢; omega)]; exact hf id (by simp at hid; omega)
  · rename_i id rng
    split at h
    · rename_i xs hxs
      simp only [Option.some.injEq, Prod.mk.injEq, decide_eq_true_eq] at h
      obtain ⟨hm, rfl, rfl⟩ := h
      have hx0 := asL_ok hH hs hxs
      obtain ⟨r0, base, cap, hr0, hid, rfl, hcap, hpl⟩ := slPlace hH hs hxs
      rcases run_append hc (η := η) (w := w) ty he hue hk hi hb hz hzl' hx0 hy hm rfl with ⟨hle, cells, hl, hr, hrun⟩ | ⟨hlt, k, ce, hk1, hk2, hr, hrun⟩
      · rcases hpl with rfl | ⟨b', o, ce, el, fr, rfl, hhas, hbl, hsz, hfr, harr⟩
        · have h0 : (xs ++ ys).length = 0 := by rw [List.length_append]; omega
          have hc0 : cells = [] := by apply List.eq_nil_of_length_eq_zero; rw [hl]; have : ys.length = 0 := by omega
                                      rw [this]; simp
          obtain ⟨η', h1, h2, h3, h4, h5⟩ := appended (c := c) (η := η) (H := H) (w := w) (w' := w) (e := e) (zs := xs ++ ys) (root := none) (cap := 0) (base := base) (.inr rfl) hH hf hid hr0 (Rest.refl _) (Nat.le_refl _) (fun _ _ _ => rfl) (fun _ h => h.elim)
            (fun _ _ => ⟨none, 0, rfl, List.eq_nil_of_length_eq_zero h0, rfl⟩)
          refine ⟨.slice base (xs.length + ys.length) 0, w, η', by rw [hrun, hc0]; cases base <;> simp [storeAt?, storeCells], ?_, h1, h2, h3, h4⟩
          simpa using h5
        · have hmul : (xs.length + ys.length) * (rc c).sz e ≤ cap * (rc c).sz e := Nat.mul_le_mul_right _ hle
          rw [Nat.add_mul] at hmul
          have hones := all_ones (R := rc c) (η := η) (w := w) hl hr
          have hst := run_storeRow (P := c.P) (o := o + xs.length * (rc c).sz e) hbl (vs := cells) (by omega) hfr hones
          obtain ⟨⟨ce', h4, h5⟩, h6, h7⟩ := heap_setCells cells (o + xs.length * (rc c).sz e) w ce hbl
          have hces : ce'.size = ce.size := by have := congrArg List.length h5; rw [putL_length] at this; simpa using this
          have hlt := hH.lt id r0 b' hr0 hhas
          obtain ⟨η', g1, g2, g3, g4, g5⟩ := appended (c := c) (η := η) (H := H) (w := w) (w' := w.setCells b' (o + xs.length * (rc c).sz e) cells) (e := e) (zs := xs ++ ys) (root := some (b', o)) (cap := cap) (base := some (at_ b' o)) (.inl rfl)
            hH hf hid hr0 (Rest.setCells _ _ _ _) (by omega) (fun b hb _ => h6 b (fun h => hb (h ▸ hhas))) (fun b hb => by
              have : b = b' := hb
              subst this
              exact ⟨.inl hhas, by omega⟩)
            (fun he' hk' => ⟨some (b', o), cap, rfl, ce', el, fr, h4, by omega, by simpa using hle, fun i hi => hfr i (by omega), by
              refine arr_of_rows h4 fun i hi => ?_
              rw [h5]
              rcases Nat.lt_or_ge i xs.length with hix | hix
              · rw [List.getElem_append_left hix]
                obtain ⟨row, hrow1, hrow2⟩ := harr.row i hix (c.cod.dflt e)
                have hget : xs.getD i (c.cod.dflt e) = xs[i] := by simp [List.getD, List.getElem?_eq_getElem hix]
                rw [hget] at hrow1
                have hrl : row.length = (rc c).sz e := by rw [hrow1.length]; simp [ofDs]; exact hc.len e hk _
                have hmi : (i + 1) * (rc c).sz e ≤ xs.length * (rc c).sz e := Nat.mul_le_mul_right _ hix
                rw [Nat.add_mul, Nat.one_mul] at hmi
                have heq : ((putL ce.toList (o + xs.length * (rc c).sz e) cells).drop (o + i * (rc c).sz e)).take ((rc c).sz e) = row := by
                  apply List.ext_getElem?
                  intro j
                  rcases Nat.lt_or_ge j ((rc c).sz e) with hj | hj
                  · rw [List.getElem?_take_of_lt hj, List.getElem?_drop, putL_get _ _ _ _ (by simp; omega), if_neg (by omega)]
                    have hj' : j < row.length := by omega
                    have := hrow2 j row[j] (List.getElem?_eq_getElem hj')
                    rw [cell_of hbl] at this
                    rw [this, List.getElem?_eq_getElem hj']
                  · rw [List.getElem?_take_eq_none hj, List.getElem?_eq_none (by omega)]
                rw [heq]
                exact RVs.mono he' hk' _ _ hrow1
              · rw [List.getElem_append_right hix]
                have hi' : i - xs.length < ys.length := by simp at hi; omega
                have hmi : (i - xs.length + 1) * (rc c).sz e ≤ ys.length * (rc c).sz e := Nat.mul_le_mul_right _ hi'
                rw [Nat.add_mul, Nat.one_mul] at hmi
                have hio : i * (rc c).sz e = xs.length * (rc c).sz e + (i - xs.length) * (rc c).sz e := by rw [← Nat.add_mul]; congr 1; omega
                have heq : ((putL ce.toList (o + xs.length * (rc c).sz e) cells).drop (o + i * (rc c).sz e)).take ((rc c).sz e) = (cells.drop ((i - xs.length) * (rc c).sz e)).take ((rc c).sz e) := by
                  apply List.ext_getElem?
                  intro j
                  rcases Nat.lt_or_ge j ((rc c).sz e) with hj | hj
                  · rw [List.getElem?_take_of_lt hj, List.getElem?_take_of_lt hj, List.getElem?_drop, List.getElem?_drop, putL_get _ _ _ _ (by simp; omega), if_pos (by omega)]
                    congr 1; omega
                  · rw [List.getElem?_take_eq_none hj, List.getElem?_take_eq_none hj]
                rw [heq]
                exact RVs.mono he' hk' _ _ (hr _ hi')⟩)
          refine ⟨_, _, η', ?_, by simpa [rootA] using g5, g1, g2, g3, g4⟩
          rw [hrun]
          simp only [storeAt?, at_add, hst, Result.andThen_ok]
      · obtain ⟨η', g1, g2, g3, g4, g5⟩ := appended (c := c) (η := η) (H := H) (w := w) (w' := w.drew.alloc (.cells ce e)) (e := e) (zs := xs ++ ys) (root := some (w.heap.size, 0)) (cap := k) (base := some (at_ w.heap.size 0)) (.inl rfl)
            hH hf hid hr0 (Rest.push (w' := w.drew.alloc (.cells ce e)) rfl rfl rfl rfl) (by simp) (fun b _ hb => by
              show (w.heap.push _)[b]? = _
              rw [Array.getElem?_push]; simp [Nat.ne_of_lt hb]) (fun b hb => by
              have : b = w.heap.size := hb
              subst this
              exact ⟨.inr (Nat.le_refl _), by simp⟩)
            (fun he' hk' => ⟨some (w.heap.size, 0), k, rfl, ce, e, (0, 0), by show (w.heap.push _)[w.heap.size]? = _; simp, by omega, by simpa using hk1, fun i _ => by simp, by
              refine arr_of_rows (ce := ce) (e := e) (fr := (0, 0)) (by show (w.heap.push _)[w.heap.size]? = _; simp) fun i hi => ?_
              rw [Nat.zero_add]
              exact RVs.mono he' hk' _ _ (hr i hi)⟩)
        exact ⟨_, _, η', hrun, by simpa [rootA] using g5, g1, g2, g3, g4⟩
    · cases h
  · cases h

end Go.Ev
