/- A part of the evaluator of Go code over small heaps and of its proof: no condition beyond those that each theorem names. -/
import Derived.Test.YtgoglplnajofnaaGreatDoorEvOps
import Derived.Laws.StructEq
import Derived.ChangeKeysEq
import Derived.Laws.Cover1
set_option linter.unusedVariables false
set_option linter.unusedSimpArgs false
set_option linter.constructorNameAsVariable false
namespace Go.Ev
variable {T : TypeId → Type}

theorem sizeT_cells {P : Program} {t : TypeId} {n : Nat} (h : sizeT P t = some n) : P.cellsOf t = n := by
  unfold sizeT at h; unfold Program.cellsOf; rw [h]; rfl

/-- What the first world's variables hold. -/
def GvOk (c : Cfg T) : Prop := ∀ g ds, c.gv g = some ds → g < c.w0.heap.size ∧ ∀ i d, ds[i]? = some d → ∃ v, c.w0.cell? (at_ g i) = some v ∧ VD (rc c) (fun b => b < c.w0.heap.size) c.w0 d v

theorem old_ok {R : Rc T} {η : Eta} {H : List (Obj T)} {w : World} (hH : RelH R η H w) (b : Nat) (hb : b < R.w0.heap.size) : isOk η b ∧ w.heap[b]? = R.w0.heap[b]? := by
  obtain ⟨h1, h2, h3, h4⟩ := hH.old b hb
  exact ⟨⟨h1, h2⟩, h4⟩

theorem old_size {R : Rc T} {η : Eta} {H : List (Obj T)} {w : World} (hH : RelH R η H w) : R.w0.heap.size ≤ w.heap.size := by
  rcases Nat.eq_zero_or_pos R.w0.heap.size with h | h
  · omega
  · obtain ⟨_, _, h3, _⟩ := hH.old (R.w0.heap.size - 1) (by omega)
    omega

theorem gv_row {c : Cfg T} (hg : GvOk c) {η : Eta} {H : List (Obj T)} {w : World} (hH : RelH (rc c) η H w) {g : Nat} {ds : List (D T)} (h : c.gv g = some ds) :
    isOk η g ∧ g < w.heap.size ∧ ∃ xs, RVs (rc c) η w (ofDs ds) xs ∧ Row w g 0 xs := by
  obtain ⟨h1, h2⟩ := hg g ds h
  have h3 := old_ok hH g h1
  refine ⟨h3.1, Nat.lt_of_lt_of_le h1 (old_size hH), row_of_cells ds 0 fun j d hd => ?_⟩
  obtain ⟨v, hv, hd'⟩ := h2 j d hd
  refine ⟨v, ?_, hd'.mono (old_size hH) fun b hb _ => old_ok hH b hb⟩
  rw [Nat.zero_add, cell_congr h3.2]
  exact hv

theorem loadV_ok {c : Cfg T} (hc : CodOk (rc c)) (hg : GvOk c) {η : Eta} {H : List (Obj T)} {w : World} {t : TypeId} {p v : V T} {x : Value} (hH : RelH (rc c) η H w)
    (hp : RV (rc c) η w p x) (h : loadV c H t p = some v) : ∃ y, (Instr.loadAt t x).run c.P w = .ok y w ∧ RV (rc c) η w v y := by
  unfold loadV at h
  split at h
  · -- a box
    rename_i id off
    split at h
    · rename_i cs hcs
      simp only [RV] at hp
      obtain ⟨r, a, hr, rfl, hp⟩ := hp
      have hrel := hH.obj id r _ hr hcs
      obtain ⟨b, ce, e, rfl, hb, hrv⟩ := hrel
      rcases hp with hp | ⟨b', hb', rfl⟩
      · cases hp
      · cases hb'
        have := run_loadVar (o := 0) h hrv (row_of_box hb)
        simpa [Instr.loadAt, Instr.sureAddr] using this
    · cases h
  · -- an array within a box
    rename_i id base e n ix off
    split at h
    · rename_i cs hcs
      split at h
      · rename_i sz hsz
        split at h
        · rename_i ys hys
          simp only [RV] at hp
          obtain ⟨r, a, hr, rfl, hp⟩ := hp
          have hrel := hH.obj id r _ hr hcs
          obtain ⟨b, ce, el, rfl, hb, hrv⟩ := hrel
          rcases hp with hp | ⟨b', hb', hix, rfl⟩
          · cases hp
          · cases hb'
            obtain ⟨hlen, hch⟩ := chunk_ok hc hys (hrv.drop base)
            have hi : ix < ys.length := by omega
            have h1 := hch ix hi
            have hget : ys.getD ix (c.cod.dflt e) = ys[ix] := by simp [List.getD, List.getElem?_eq_getElem hi]
            rw [hget] at h
            have hrow := (((row_of_box hb).drop base).drop (ix * sz)).take sz
            have := run_loadVar h h1 hrow
            have hz : (rc c).sz e = sz := sizeT_cells hsz
            rw [hz]
            simpa [Instr.loadAt, Instr.sureAddr, Nat.add_assoc] using this
        · cases h
      · cases h
    · cases h
  · -- an element of a list of one's own
    rename_i id ix off
    split at h
    · rename_i e xs hxs
      simp only [RV] at hp
      obtain ⟨r, a, hr, rfl, hp⟩ := hp
      have hrel := hH.obj id r _ hr hxs
      obtain ⟨root, cap, rfl, hrel⟩ := hrel
      rcases hp with hp | ⟨t', n', b', o', cap', hb', hix, rfl⟩
      · cases hp
      · cases hb'
        obtain ⟨ce, el, fr, hb, _, _, _, harr⟩ := hrel
        obtain ⟨zs, h1, h2⟩ := harr.row ix hix (c.cod.dflt e)
        have := run_loadVar (c := c) h h1 h2
        simpa [Instr.loadAt, Instr.sureAddr] using this
    · cases h
  · rename_i e xs ix off
    simp only [RV] at hp
    obtain ⟨b, o, h1, h2, h3, harr, rfl⟩ := hp
    obtain ⟨zs, h1, h2⟩ := harr.row ix h3 (c.cod.dflt e)
    have := run_loadVar (c := c) h h1 h2
    simpa [Instr.loadAt, Instr.sureAddr] using this
  · rename_i g off
    split at h
    · rename_i ds hds
      simp only [RV] at hp
      subst hp
      obtain ⟨_, _, zs, h1, h2⟩ := gv_row hg hH hds
      have := run_loadVar (c := c) (o := 0) h h1 h2
      simpa [Instr.loadAt, Instr.sureAddr] using this
    · cases h
  · cases h

theorem bin_ok {c : Cfg T} {η : Eta} {w : World} {op : BinOp} {t : TypeId} {x y v : V T} {a b : Value} (hx : RV (rc c) η w x a) (hy : RV (rc c) η w y b)
    {ok : Bool} (h : bin op x y = some (ok, v)) (hok : ok = true) :
    ∃ z, (binOp op t a b).run c.P w = .ok z w ∧ RV (rc c) η w v z ∧ (∀ o1 o2, (eqGuard op t o1 o2 a b).run c.P w = .ok () w) := by
  subst hok
  unfold bin at h
  split at h
  · rename_i k m k' m'
    simp only [RV] at hx hy
    cases hx; cases hy
    cases op <;> simp only [] at h
    case shl =>
      simp only [Option.some.injEq, Prod.mk.injEq, decide_eq_true_eq] at h
      obtain ⟨h1, rfl⟩ := h
      refine ⟨_, ?_, by simp only [RV]; exact .i _ _, fun _ _ => rfl⟩
      simp [binOp, Op.shift, Int.not_lt.2 h1]
    case shr =>
      simp only [Option.some.injEq, Prod.mk.injEq, decide_eq_true_eq] at h
      obtain ⟨h1, rfl⟩ := h
      refine ⟨_, ?_, by simp only [RV]; exact .i _ _, fun _ _ => rfl⟩
      simp [binOp, Op.shift, Int.not_lt.2 h1]
    all_goals
      split at h
      · rename_i hk
        subst hk
        simp only [Option.some.injEq, Prod.mk.injEq, reduceCtorEq] at h
        obtain ⟨h1, rfl⟩ := h
        refine ⟨_, ?_, by simp only [RV]; first | exact .i _ _ | exact .b _, fun _ _ => rfl⟩
        first
          | (simp [binOp, Op.intArith]; done)
          | (simp at h1; simp [binOp, Op.intDiv, h1]; done)
          | (simp [binOp, Op.intBits]; done)
          | (simp [binOp, Op.intCmp]; done)
      · cases h
  · rename_i l m
    simp only [RV] at hx hy
    cases hx; cases hy
    have hG : ∀ o1 o2, (eqGuard op t o1 o2 (.string ⟨l.toArray⟩) (.string ⟨m.toArray⟩)).run c.P w = .ok () w := fun _ _ => by
      cases op <;> rfl
    cases op <;> simp only [Option.some.injEq, Prod.mk.injEq, reduceCtorEq, decide_eq_true_eq] at h
    case add =>
      obtain ⟨h1, rfl⟩ := h
      have h1 := Nat.le_of_ble_eq_true h1
      refine ⟨.string ⟨(l ++ m).toArray⟩, ?_, by simp only [RV]; exact .s _, hG⟩
      have e1 : (ByteArray.mk l.toArray).size = l.length := by simp [ByteArray.size]
      have e2 : (ByteArray.mk m.toArray).size = m.length := by simp [ByteArray.size]
      have e3 : (ByteArray.mk l.toArray) ++ (ByteArray.mk m.toArray) = ByteArray.mk (l ++ m).toArray := by
        apply ByteArray.ext; simp
      simp only [binOp, Op.stringOp, e1, e2, e3]
      rw [if_neg (by have : IntKind.i64.max = 9223372036854775807 := by decide
                     omega)]
      rfl
    all_goals
      obtain ⟨h1, rfl⟩ := h
      refine ⟨_, ?_, by simp only [RV]; exact .b _, hG⟩
      simp [binOp, Op.stringOp]
  · cases h

theorem eqV_ok {c : Cfg T} {η : Eta} {w : World} (hq : ∀ t, c.eqk t = true → c.P.stoodInHeld t = false) : ∀ (n : Nat) (t : TypeId) (x y : V T) (p : Bool) (a b : Value) (d : Nat),
    eqV c.P c.eqk n t x y = some p → RV (rc c) η w x a → RV (rc c) η w y b → n ≤ d → (Op.equalIn d t a b).run c.P w = .ok p w
  | 0, _, _, _, _, _, _, _, h, _, _, _ => by simp [eqV] at h
  | n + 1, t, x, y, p, a, b, d, h, hx, hy, hd => by
    obtain ⟨d, rfl⟩ : ∃ d', d = d' + 1 := ⟨d - 1, by omega⟩
    unfold eqV at h
    split at h
    · rename_i hu
      simp only [RV] at hx hy; cases hx; cases hy
      simp at h; subst h
      exact run_equalIn_bool' w d t _ _ hu
    · rename_i hu
      simp only [RV] at hx hy; cases hx; cases hy
      split at h
      · rename_i hk; subst hk
        simp at h; subst h
        exact run_equalIn_int w d t _ _ _ _ hu
      · cases h
    · rename_i hu
      simp only [RV] at hx hy; cases hx; cases hy
      simp at h; subst h
      rw [run_equalIn_string w d t _ _ hu]
      simp
    · rename_i fs xs ys hu
      simp only [RV] at hx hy
      obtain ⟨as, rfl, hx⟩ := hx
      obtain ⟨bs, rfl, hy⟩ := hy
      cases hk : c.eqk t with
      | false => simp [hk] at h
      | true =>
        simp only [hk, cond_true] at h
        have hf : c.P.fieldsOf t = fs := by simp [Program.fieldsOf, hu]
        rw [run_equalIn_struct w d t _ _ (by rw [hf]; exact hu) (hq t hk), hf]
        revert h
        generalize fs.toList = l
        clear hf hu
        induction l generalizing p with
        | nil => intro h; simp [eqFs] at h; subst h; simp [Op.eqFields]
        | cons f l ih =>
          intro h
          unfold eqFs at h
          split at h
          · rename_i hn
            simp only [Op.eqFields, hn, ne_eq, not_true_eq_false, if_false]
            exact ih _ h
          · rename_i hn
            split at h
            · rename_i u v hu hv
              split at h
              · rename_i p1 q1 hp hq'
                simp at h; subst h
                obtain ⟨a1, ha1, hra⟩ := run_part (w0 := w) hu hx
                obtain ⟨b1, hb1, hrb⟩ := run_part (w0 := w) hv hy
                have := eqV_ok hq n f.type u v p1 a1 b1 d hp hra hrb (by omega)
                simp only [Op.eqFields, ne_eq, hn, not_false_eq_true, if_true, Sem.run_bind, ha1, hb1, this, Result.andThen_ok, Sem.run_ite, Sem.run_pure]
                cases p1
                · simp
                · simpa using ih _ hq'
              · cases h
            · cases h
    · rename_i len e xs ys hu
      simp only [RV] at hx hy
      obtain ⟨as, rfl, hx⟩ := hx
      obtain ⟨bs, rfl, hy⟩ := hy
      split at h
      · rename_i sz hsz
        cases hi : c.P.info? e with
        | none => simp [sizeT, hi] at hsz
        | some i =>
          rw [run_equalIn_array w d _ _ hu hi, sizeT_cells hsz]
          revert h
          generalize List.range len = l
          induction l generalizing p with
          | nil => intro h; simp [eqAs] at h; subst h; simp [Op.eqItems]
          | cons j l ih =>
            intro h
            unfold eqAs at h
            split at h
            · rename_i u v hu hv
              split at h
              · rename_i p1 q1 hp hq'
                simp at h; subst h
                obtain ⟨a1, ha1, hra⟩ := run_part (w0 := w) hu hx
                obtain ⟨b1, hb1, hrb⟩ := run_part (w0 := w) hv hy
                have := eqV_ok hq n e u v p1 a1 b1 d hp hra hrb (by omega)
                simp only [Op.eqItems, Sem.run_bind, ha1, hb1, this, Result.andThen_ok, Sem.run_ite, Sem.run_pure]
                cases p1
                · simp
                · simpa using ih _ hq'
              · cases h
            · cases h
      · cases h
    · cases h

/-- What is known of the types that are held against each other. -/
def EqkOk (c : Cfg T) : Prop := ∀ t, c.eqk t = true → c.P.stoodInHeld t = false ∧ c.P.eqGuardType c.P.depth t = false

theorem eqOp_ok {op : BinOp} {p ok : Bool} {v : V T} (h : eqOp op p = some (ok, v)) :
    (op = .eql ∧ v = .d (.b p) ∨ op = .neq ∧ v = .d (.b !p)) := by
  unfold eqOp at h
  cases op <;> simp at h
  · exact .inl ⟨rfl, h.2.symm⟩
  · exact .inr ⟨rfl, h.2.symm⟩

theorem equalIn_if1 {P : Program} (w : World) (d : Nat) {t : TypeId} {ms} (hu : P.underlying t = some (.interface ms)) (u : TypeId) (v : Value) :
    (Op.equalIn (d + 1) t (.iface u v) .nilIface).run P w = .ok false w := by simp [Op.equalIn, run_under hu]
theorem equalIn_if2 {P : Program} (w : World) (d : Nat) {t : TypeId} {ms} (hu : P.underlying t = some (.interface ms)) (u : TypeId) (v : Value) :
    (Op.equalIn (d + 1) t .nilIface (.iface u v)).run P w = .ok false w := by simp [Op.equalIn, run_under hu]
theorem equalIn_if3 {P : Program} (w : World) (d : Nat) {t : TypeId} {ms} (hu : P.underlying t = some (.interface ms)) :
    (Op.equalIn (d + 1) t .nilIface .nilIface).run P w = .ok true w := by simp [Op.equalIn, run_under hu]
theorem run_eqlIf {P : Program} (w : World) {t : TypeId} {x y : Value} {p : Bool} (hx : x = .nilIface ∨ ∃ u v, x = .iface u v) (hy : y = .nilIface ∨ ∃ u v, y = .iface u v)
    (h : (Op.equalIn 10000 t x y).run P w = .ok p w) : (binOp .eql t x y).run P w = .ok (.bool p) w ∧ (binOp .neq t x y).run P w = .ok (.bool !p) w := by
  rcases hx with rfl | ⟨u, v, rfl⟩ <;> rcases hy with rfl | ⟨u', v', rfl⟩ <;>
    exact ⟨by simp only [binOp]; simp only [Op.equal, Op.maxDepth, Sem.run_bind, h]; rfl, by simp only [binOp]; simp only [Op.equal, Op.maxDepth, Sem.run_bind, h]; rfl⟩

theorem binT_ok {c : Cfg T} (hq : EqkOk c) {η : Eta} {w : World} {op : BinOp} {t : TypeId} {x y v : V T} {a b : Value} (hx : RV (rc c) η w x a) (hy : RV (rc c) η w y b)
    {ok : Bool} {o1 o2 : Operand} (h : binT c.P c.eqk (isK o1 || isK o2) op t x y = some (ok, v)) (hok : ok = true) :
    ∃ z, (do eqGuard op t o1 o2 a b; binOp op t a b : Sem Value).run c.P w = .ok z w ∧ RV (rc c) η w v z := by
  unfold binT at h
  split at h
  · rename_i xs ys
    cases hk : c.eqk t with
    | false => simp [hk] at h
    | true =>
      simp only [hk, cond_true] at h
      split at h
      · rename_i p hp
        have he := eqV_ok (fun t ht => (hq t ht).1) 20 t _ _ p a b 10000 hp hx hy (by omega)
        simp only [RV] at hx hy
        obtain ⟨as, rfl, hx⟩ := hx
        obtain ⟨bs, rfl, hy⟩ := hy
        have hg := run_eqGuard_agg w op t o1 o2 as.toArray bs.toArray (hq t hk).2
        rcases eqOp_ok h with ⟨rfl, rfl⟩ | ⟨rfl, rfl⟩
        · exact ⟨.bool p, by rw [Sem.run_bind, hg, Result.andThen_ok, run_eql_struct, he]; rfl, by simp only [RV]; exact .b _⟩
        · exact ⟨.bool !p, by rw [Sem.run_bind, hg, Result.andThen_ok, run_neq_struct, he]; rfl, by simp only [RV]; exact .b _⟩
      · cases h
  · rename_i p q
    cases hb : isBl c.P t with
    | false => simp [hb] at h
    | true =>
      simp only [hb, cond_true] at h
      have hu : c.P.underlying t = some .bool := by unfold isBl at hb; split at hb <;> simp_all
      simp only [RV] at hx hy; cases hx; cases hy
      rcases eqOp_ok h with ⟨rfl, rfl⟩ | ⟨rfl, rfl⟩
      · refine ⟨.bool (p == q), ?_, by simp only [RV]; exact .b _⟩
        have e : (Op.equalIn 10000 t (.bool p) (.bool q)).run c.P w = .ok (p == q) w := run_equalIn_bool' w 9999 t p q hu
        simp [eqGuard, binOp, Op.equal, Op.maxDepth, e]
      · refine ⟨.bool !(p == q), ?_, by simp only [RV]; exact .b _⟩
        have e : (Op.equalIn 10000 t (.bool p) (.bool q)).run c.P w = .ok (p == q) w := run_equalIn_bool' w 9999 t p q hu
        simp [eqGuard, binOp, Op.equal, Op.maxDepth, e]
  · cases hb : isIf c.P t with
    | false => simp [hb] at h
    | true =>
      simp only [hb, cond_true] at h
      obtain ⟨ms, hu⟩ : ∃ ms, c.P.underlying t = some (.interface ms) := by unfold isIf at hb; split at hb <;> simp_all
      simp only [RV] at hx hy; cases hx; cases hy
      obtain ⟨e1, e2⟩ := run_eqlIf w (.inr ⟨_, _, rfl⟩) (.inl rfl) (equalIn_if1 w 9999 hu _ _)
      rcases eqOp_ok h with ⟨rfl, rfl⟩ | ⟨rfl, rfl⟩
      · exact ⟨.bool false, by rw [Sem.run_bind]; simp only [eqGuard]; exact e1, by simp only [RV]; exact .b _⟩
      · exact ⟨.bool true, by rw [Sem.run_bind]; simp only [eqGuard]; exact e2, by simp only [RV]; exact .b _⟩
  · cases hb : isIf c.P t with
    | false => simp [hb] at h
    | true =>
      simp only [hb, cond_true] at h
      obtain ⟨ms, hu⟩ : ∃ ms, c.P.underlying t = some (.interface ms) := by unfold isIf at hb; split at hb <;> simp_all
      simp only [RV] at hx hy; cases hx; cases hy
      obtain ⟨e1, e2⟩ := run_eqlIf w (.inl rfl) (.inr ⟨_, _, rfl⟩) (equalIn_if2 w 9999 hu _ _)
      rcases eqOp_ok h with ⟨rfl, rfl⟩ | ⟨rfl, rfl⟩
      · exact ⟨.bool false, by rw [Sem.run_bind]; simp only [eqGuard]; exact e1, by simp only [RV]; exact .b _⟩
      · exact ⟨.bool true, by rw [Sem.run_bind]; simp only [eqGuard]; exact e2, by simp only [RV]; exact .b _⟩
  · cases hb : isIf c.P t && (isK o1 || isK o2) with
    | false => simp [hb] at h
    | true =>
      simp only [hb, cond_true] at h
      simp only [Bool.and_eq_true] at hb
      obtain ⟨ms, hu⟩ : ∃ ms, c.P.underlying t = some (.interface ms) := by have hb := hb.1; unfold isIf at hb; split at hb <;> simp_all
      simp only [RV] at hx hy; cases hx; cases hy
      obtain ⟨e1, e2⟩ := run_eqlIf w (.inl rfl) (.inl rfl) (equalIn_if3 w 9999 hu)
      rcases eqOp_ok h with ⟨rfl, rfl⟩ | ⟨rfl, rfl⟩
      · exact ⟨.bool true, by rw [Sem.run_bind]; cases o1 <;> cases o2 <;> first | exact e1 | exact absurd hb.2 (by simp [isK]), by simp only [RV]; exact .b _⟩
      · exact ⟨.bool false, by rw [Sem.run_bind]; cases o1 <;> cases o2 <;> first | exact e2 | exact absurd hb.2 (by simp [isK]), by simp only [RV]; exact .b _⟩
  · cases hb : isIf c.P t with
    | false => simp [hb] at h
    | true =>
      simp only [hb, cond_true] at h
      obtain ⟨ms, hu⟩ : ∃ ms, c.P.underlying t = some (.interface ms) := by unfold isIf at hb; split at hb <;> simp_all
      simp only [RV] at hx hy
      obtain ⟨x', rfl, -⟩ := hx
      cases hy
      obtain ⟨e1, e2⟩ := run_eqlIf w (.inr ⟨_, _, rfl⟩) (.inl rfl) (equalIn_if1 w 9999 hu _ _)
      rcases eqOp_ok h with ⟨rfl, rfl⟩ | ⟨rfl, rfl⟩
      · exact ⟨.bool false, by rw [Sem.run_bind]; simp only [eqGuard]; exact e1, by simp only [RV]; exact .b _⟩
      · exact ⟨.bool true, by rw [Sem.run_bind]; simp only [eqGuard]; exact e2, by simp only [RV]; exact .b _⟩
  · cases hb : isIf c.P t && (isK o1 || isK o2) with
    | false => simp [hb] at h
    | true =>
      simp only [hb, cond_true] at h
      simp only [Bool.and_eq_true] at hb
      obtain ⟨ms, hu⟩ : ∃ ms, c.P.underlying t = some (.interface ms) := by have hb := hb.1; unfold isIf at hb; split at hb <;> simp_all
      simp only [RV] at hx hy
      cases hy
      cases hx
      · obtain ⟨e1, e2⟩ := run_eqlIf w (.inl rfl) (.inl rfl) (equalIn_if3 w 9999 hu)
        rcases eqOp_ok h with ⟨rfl, rfl⟩ | ⟨rfl, rfl⟩
        · exact ⟨.bool true, by rw [Sem.run_bind]; cases o1 <;> cases o2 <;> first | exact e1 | exact absurd hb.2 (by simp [isK]), by simp only [RV]; exact .b _⟩
        · exact ⟨.bool false, by rw [Sem.run_bind]; cases o1 <;> cases o2 <;> first | exact e2 | exact absurd hb.2 (by simp [isK]), by simp only [RV]; exact .b _⟩
      · obtain ⟨e1, e2⟩ := run_eqlIf w (.inr ⟨_, _, rfl⟩) (.inl rfl) (equalIn_if1 w 9999 hu _ _)
        rcases eqOp_ok h with ⟨rfl, rfl⟩ | ⟨rfl, rfl⟩
        · exact ⟨.bool false, by rw [Sem.run_bind]; simp only [eqGuard]; exact e1, by simp only [RV]; exact .b _⟩
        · exact ⟨.bool true, by rw [Sem.run_bind]; simp only [eqGuard]; exact e2, by simp only [RV]; exact .b _⟩
  · obtain ⟨z, h1, h2, h3⟩ := bin_ok (t := t) hx hy h hok
    exact ⟨z, by rw [Sem.run_bind, h3, Result.andThen_ok, h1], h2⟩

theorem un_ok {c : Cfg T} {η : Eta} {w : World} {op : UnOp} {x v : V T} {a : Value} (hx : RV (rc c) η w x a) (h : un op x = some v) :
    ∃ z, (Op.unary op a).run c.P w = .ok z w ∧ RV (rc c) η w v z := by
  unfold un at h
  split at h
  · simp only [RV] at hx; cases hx
    cases op <;> simp at h <;> subst h
    · exact ⟨_, by simp [Op.unary, Op.intArith]; rfl, by simp only [RV]; exact .i _ _⟩
    · exact ⟨_, by simp [Op.unary, Op.intBits]; rfl, by simp only [RV]; exact .i _ _⟩
  · simp only [RV] at hx; cases hx
    cases op <;> simp at h <;> subst h
    exact ⟨_, by simp [Op.unary]; rfl, by simp only [RV]; exact .b _⟩
  · cases h

end Go.Ev
