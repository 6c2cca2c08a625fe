/- Zeros in a list of one's own (Go's clear): what the machine does is what the small heap says; no condition beyond those that each theorem names. -/
import Derived.Test.YtgoglplnajofnaaGreatDoorEvOps8
set_option linter.unusedVariables false
set_option linter.unusedSimpArgs false
namespace Go.Ev
variable {T : TypeId → Type}

theorem zc_get (zs : Array Value) {n i j : Nat} (hi : i < n) (hj : j < zs.size) : (Builtin.zeroCells zs n).toList[i * zs.size + j]? = zs.toList[j]? := by
  have h1 : i * zs.size + j < n * zs.size := by
    have : (i + 1) * zs.size ≤ n * zs.size := Nat.mul_le_mul_right _ hi
    rw [Nat.add_mul, Nat.one_mul] at this
    omega
  have h2 : (i * zs.size + j) % zs.size = j := by rw [Nat.add_comm, Nat.add_mul_mod_self_right]; exact Nat.mod_eq_of_lt hj
  simp only [Builtin.zeroCells, Array.toList_map, Array.toList_range, List.getElem?_map, List.getElem?_range h1, Option.map_some, h2]
  rw [getElem!_pos zs j hj]
  simp [hj]

/-- Where a list of one's own lies. -/
theorem sl_at {c : Cfg T} {η : Eta} {H : List (Obj T)} {w : World} {id : Nat} {rng : Option (Nat × Nat)} {v : Value} {e : TypeId} {xs : List (T e)} (hH : RelH (rc c) η H w) (hx : RV (rc c) η w (.sl id rng) v)
    (ho : H[id]? = some (.arr e xs)) : ∃ a k root cap, v = .slice a (rng.getD (0, xs.length)).2 k ∧ η id = some (.arr e xs.length root cap) ∧ (rng.getD (0, xs.length)).1 + (rng.getD (0, xs.length)).2 ≤ xs.length ∧
      (0 < (rng.getD (0, xs.length)).2 → ∃ b o, root = some (b, o) ∧ a = some (at_ b (o + (rng.getD (0, xs.length)).1 * (rc c).sz e))) := by
  cases rng with
  | none =>
    simp only [RV] at hx
    obtain ⟨r, a, n, k, hr, rfl, h⟩ := hx
    obtain ⟨root, cap, rfl, hrel⟩ := hH.obj id r _ hr ho
    rcases h with h | ⟨t', root', h, ha⟩
    · cases h
    · cases h
      refine ⟨a, _, _, _, rfl, hr, by simp, fun hp => ?_⟩
      simp only [Option.getD_none] at hp
      cases root with
      | none => obtain ⟨rfl, _⟩ := hrel; simp at hp
      | some p =>
        obtain ⟨b, o⟩ := p
        obtain ⟨ce, el, fr, _, _, hle, _⟩ := hrel
        refine ⟨b, o, rfl, ?_⟩
        rcases ha with ha | ha
        · rw [ha]; simp [rootA]
        · omega
  | some p =>
    obtain ⟨o', l⟩ := p
    simp only [RV] at hx
    obtain ⟨r, a, k, hr, rfl, h⟩ := hx
    obtain ⟨root, cap, rfl, hrel⟩ := hH.obj id r _ hr ho
    rcases h with h | ⟨t', n', root', cap', h, hle, hk, ha⟩
    · cases h
    · cases h
      refine ⟨a, k, _, _, rfl, hr, hle, fun hp => ?_⟩
      simp only [Option.getD_some] at hp ⊢
      cases root with
      | none => obtain ⟨rfl, _⟩ := hrel; simp at hle; omega
      | some p =>
        obtain ⟨b, o⟩ := p
        obtain ⟨ce, el, fr, _, _, hle', _⟩ := hrel
        exact ⟨b, o, rfl, ha (by omega)⟩

theorem clearV_inv {c : Cfg T} {H H' : List (Obj T)} {t : TypeId} {x : V T} (h : clearV c H t x = some H') :
    ∃ id rng e xs zs ds z, x = .sl id rng ∧ H[id]? = some (.arr e xs) ∧ elemT c.P t = some e ∧ c.cod.kn e = true ∧ zeroCells (T := T) c.P e = some zs ∧ zs.all oneV = true ∧ sizeT c.P e = some zs.length ∧ toDs zs = some ds ∧ c.cod.dec e ds = some z ∧
      H' = H.set id (.arr e (xs.take (rng.getD (0, xs.length)).1 ++ List.replicate (rng.getD (0, xs.length)).2 z ++ xs.drop ((rng.getD (0, xs.length)).1 + (rng.getD (0, xs.length)).2))) := by
  unfold clearV at h
  split at h
  · rename_i id rng
    split at h
    · rename_i e xs e' ho he
      cases hb : e'.beq e && c.cod.kn e with
      | false => simp [hb] at h
      | true =>
        simp only [hb, cond_true] at h
        simp only [Bool.and_eq_true] at hb
        obtain rfl := Nat.eq_of_beq_eq_true hb.1
        split at h
        · rename_i zs hzs
          cases hb2 : zs.all oneV && (sizeT c.P e' == some zs.length) with
          | false => simp [hb2] at h
          | true =>
            simp only [hb2, cond_true] at h
            simp only [Bool.and_eq_true, beq_iff_eq] at hb2
            split at h
            · rename_i ds hds
              split at h
              · rename_i z hz
                cases rng with
                | none =>
                  simp only [Option.some.injEq] at h
                  exact ⟨id, none, e', xs, zs, ds, z, rfl, ho, he, hb.2, hzs, hb2.1, hb2.2, hds, hz, by simp [← h]⟩
                | some p =>
                  obtain ⟨o, n⟩ := p
                  simp only [Option.some.injEq] at h
                  exact ⟨id, some (o, n), e', xs, zs, ds, z, rfl, ho, he, hb.2, hzs, hb2.1, hb2.2, hds, hz, by simp [← h]⟩
              · cases h
            · cases h
        · cases h
    · cases h
  · cases h

theorem op_clear {c : Cfg T} (hc : CodOk (rc c)) {η : Eta} {H H' : List (Obj T)} {w : World} {t : TypeId} {x : V T} {a : Value} (ty : TypeId) (hH : RelH (rc c) η H w) (hx : RV (rc c) η w x a)
    (h : clearV c H t x = some H') :
    ∃ w', (Builtin.clear_ #[t] ty #[a]).run c.P w = .ok (.tuple #[]) w' ∧ Evo η η w w' ∧ RelH (rc c) η H' w' ∧ H'.length = H.length := by
  obtain ⟨id, rng, e, xs, zs, ds, z, rfl, ho, he, hk, hzs, hone, hsz, hds, hz, rfl⟩ := clearV_inv h
  obtain ⟨ad, k, root, cap, rfl, hr, hle, hpos⟩ := sl_at hH hx ho
  obtain ⟨p, hp⟩ : ∃ p, p = rng.getD (0, xs.length) := ⟨_, rfl⟩
  rw [← hp] at hle hpos ⊢
  obtain ⟨o, l⟩ := p
  simp only at hle hpos ⊢
  have hsz' : (rc c).sz e = zs.length := sizeT_cells hsz
  rcases Nat.eq_zero_or_pos l with rfl | hl
  · refine ⟨w, ?_, Evo.refl η w, ?_, by simp⟩
    · simp only [Builtin.clear_]
      cases ad <;> simp [Sem.run_bind, run_under (elemT_ok he), Sem.run_pure]
    · have : xs.take o ++ List.replicate 0 z ++ xs.drop (o + 0) = xs := by simp
      rw [this]
      have hs : H.set id (.arr e xs) = H := by
        apply List.ext_getElem?
        intro i
        by_cases hi : i = id
        · subst hi; rw [ho]; exact List.getElem?_set_self (by rcases Nat.lt_or_ge i H.length with h1 | h1; exact h1; rw [List.getElem?_eq_none h1] at ho; cases ho)
        · rw [List.getElem?_set_ne (Ne.symm hi)]
      rw [hs]; exact hH
  · obtain ⟨b, o1, rfl, rfl⟩ := hpos hl
    obtain ⟨root2, cap2, hr2, hrel⟩ := hH.obj id _ _ hr ho
    cases hr2
    obtain ⟨ce, el, fr, hbl, hsize, hcap, hfr, harr⟩ := hrel
    obtain ⟨zv, hzv, hzr⟩ := zeroCells_ok (η := η) (w := w) hzs
    have hzl : zv.cells.size = (rc c).sz e := by have := hzr.length; rw [hsz']; simpa using this
    have hvl : (Builtin.zeroCells zv.cells l).toList.length = l * (rc c).sz e := by simp [zeroCells_size, hzl]
    have hones : ∀ v ∈ (Builtin.zeroCells zv.cells l).toList, v.oneCell' = true := by
      intro v hv
      by_cases h0 : zv.cells.size = 0
      · have : (Builtin.zeroCells zv.cells l).toList = [] := List.eq_nil_of_length_eq_zero (by rw [hvl, ← hzl, h0]; simp)
        rw [this] at hv; cases hv
      · have hzc : (Builtin.zeroCells zv.cells l).toList = (List.replicate l zv.cells.toList).flatten := rep_get zv.cells h0 l
        rw [hzc] at hv
        obtain ⟨ys, hy, hv'⟩ := List.mem_flatten.1 hv
        rw [(List.mem_replicate.1 hy).2] at hv'
        exact ones hzr hone v hv'
    have hm1 : (o + l) * (rc c).sz e ≤ cap * (rc c).sz e := Nat.mul_le_mul_right _ (by omega)
    rw [Nat.add_mul] at hm1
    have hst := run_storeRow (P := c.P) (o := o1 + o * (rc c).sz e) hbl (vs := (Builtin.zeroCells zv.cells l).toList) (by rw [hvl]; omega) hfr hones
    obtain ⟨⟨ce', h4, h5⟩, h6, h7⟩ := heap_setCells (Builtin.zeroCells zv.cells l).toList (o1 + o * (rc c).sz e) w ce hbl
    have hlt := hH.lt id _ b hr rfl
    have hev : Evo η η w (w.setCells b (o1 + o * (rc c).sz e) (Builtin.zeroCells zv.cells l).toList) :=
      ⟨by omega, fun k hk ho => h6 k (fun hkb => ho (hkb ▸ ⟨id, _, hr, rfl⟩)), fun _ _ h => h, rfl, rfl, Rest.setCells _ _ _ _⟩
    have hces : ce'.size = ce.size := by have := congrArg List.length h5; rw [putL_length] at this; simpa using this
    refine ⟨_, ?_, hev, hH.upd hr hev (fun k hk _ => h6 k (fun hkb => hk hkb)) ⟨some (b, o1), cap, ?_, ce', el, fr, h4, by omega, ?_, fun i hi => hfr i (by omega), ?_⟩, by simp⟩
    · obtain ⟨m, rfl⟩ : ∃ m, l = m + 1 := ⟨l - 1, by omega⟩
      simp only [Builtin.clear_]
      simp [Sem.run_bind, run_under (elemT_ok he), Sem.run_pure, hzv, hst]
    · simp; omega
    · simp; omega
    · intro i j hi d hd
      have hi' : i < xs.length := by simp at hi; omega
      have hj : j < (rc c).sz e := by
        rcases Nat.lt_or_ge j ((rc c).sz e) with h1 | h1
        · exact h1
        · rw [List.getElem?_eq_none (by rw [hc.len e hk]; exact h1)] at hd; cases hd
      rw [cell_of h4, h5, putL_get _ _ _ _ (by rw [hvl, Array.length_toList]; omega)]
      rw [hvl]
      by_cases hii : o ≤ i ∧ i < o + l
      · have hm2 : (i - o + 1) * (rc c).sz e ≤ l * (rc c).sz e := Nat.mul_le_mul_right _ (by omega)
        have hm3 : i * (rc c).sz e = o * (rc c).sz e + (i - o) * (rc c).sz e := by rw [← Nat.add_mul]; congr 1; omega
        rw [Nat.add_mul, Nat.one_mul] at hm2
        rw [if_pos (by omega), show o1 + i * (rc c).sz e + j - (o1 + o * (rc c).sz e) = (i - o) * zv.cells.size + j by rw [hzl]; omega, zc_get zv.cells (by omega) (by omega)]
        have hel : (xs.take o ++ List.replicate l z ++ xs.drop (o + l))[i] = z := by
          have h1 : o ≤ xs.length := by omega
          rw [List.getElem_append_left (by simp; omega), List.getElem_append_right (by simp; omega)]
          simp
        rw [hel] at hd
        obtain ⟨d0, hd0, hle0⟩ := (hc.dec e ds z hz).get j d hd
        obtain ⟨hds1, hds2⟩ := toDs_ok hds hzr
        obtain ⟨u, hu1, hu2⟩ := hds1.get j (v := .d d0) (by rw [ofDs_get, hd0]; rfl)
        have hu2' : VD (rc c) (isOk η) w d0 u := by simpa only [RV] using hu2
        exact ⟨u, hu1, hle0.vd (hu2'.mono hev.size hev.ok)⟩
      · have hel : (xs.take o ++ List.replicate l z ++ xs.drop (o + l))[i] = xs[i] := by
          have h1 : o ≤ xs.length := by omega
          rcases Nat.lt_or_ge i o with h2 | h2
          · rw [List.getElem_append_left (by simp; omega), List.getElem_append_left (by simp; omega)]; simp
          · rw [List.getElem_append_right (by simp; omega)]
            simp only [List.getElem_drop, List.length_append, List.length_take, List.length_replicate]
            congr 1
            omega
        rw [hel] at hd
        obtain ⟨u, hu1, hu2⟩ := harr i j hi' d hd
        refine ⟨u, ?_, hu2.mono hev.size hev.ok⟩
        rw [cell_of hbl] at hu1
        rw [if_neg ?_]
        · exact hu1
        · intro hh
          rcases Nat.lt_or_ge i o with h2 | h2
          · have : (i + 1) * (rc c).sz e ≤ o * (rc c).sz e := Nat.mul_le_mul_right _ h2
            rw [Nat.add_mul, Nat.one_mul] at this
            omega
          · have : (o + l) * (rc c).sz e ≤ i * (rc c).sz e := Nat.mul_le_mul_right _ (by omega)
            rw [Nat.add_mul] at this
            omega

end Go.Ev
