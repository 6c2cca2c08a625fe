/- A part of the evaluator of Go code over small heaps and of its proof: no condition beyond those that each theorem names. -/
import Derived.Test.YtgoglplnajofnaaGreatDoorEvClr
import Derived.Test.YtgoglplnajofnaaGreatDoorEvMks
import Derived.Test.YtgoglplnajofnaaGreatDoorEvCall2
set_option linter.unusedVariables false
set_option linter.unusedSimpArgs false
set_option linter.constructorNameAsVariable false
namespace Go.Ev
variable {T : TypeId → Type}

mutual
theorem ren_ren (b : Nat → Option Nat) : ∀ (v : V T), Ev.ren (fun _ => none) (Ev.ren b v) = Ev.ren (fun _ => none) v
  | .u => rfl
  | .gd _ _ _ => rfl
  | .d _ => rfl
  | .np => rfl
  | .pv _ _ => rfl
  | .dptr _ _ _ _ => rfl
  | .agg cs => by simp only [Ev.ren, renL_renL b cs]
  | .tup cs => by simp only [Ev.ren, renL_renL b cs]
  | .fn f cs => by simp only [Ev.ren, renL_renL b cs]
  | .ptr id _ => by simp only [Ev.ren]; cases b id <;> simp [Ev.ren]
  | .aptr id _ _ _ _ _ => by simp only [Ev.ren]; cases b id <;> simp [Ev.ren]
  | .eptr id _ _ => by simp only [Ev.ren]; cases b id <;> simp [Ev.ren]
  | .sl id _ => by simp only [Ev.ren]; cases b id <;> simp [Ev.ren]
  | .mp id => by simp only [Ev.ren]; cases b id <;> simp [Ev.ren]
  | .bp id => by simp only [Ev.ren]; cases b id <;> simp [Ev.ren]
  | .gp _ _ => rfl
theorem renL_renL (b : Nat → Option Nat) : ∀ (vs : List (V T)), renL (fun _ => none) (renL b vs) = renL (fun _ => none) vs
  | [] => rfl
  | v :: vs => by simp only [renL, ren_ren b v, renL_renL b vs]
end

theorem callV_g {c : Cfg T} {H : List (Obj T)} {f : FuncId} {args : List (V T)} {e : CallE T} {q : e.τ → Bool} {g : e.τ → Option (V T)} (h : callV c H f args = some (.call e q g)) {x : e.τ} {v : V T}
    (hg : g x = some v) : e.pan x = false ∧ q x = true ∧ (e.enc x).2 = H ∧ v = Ev.ren (fun _ => none) (pack (e.enc x).1) := by
  unfold callV at h
  simp only at h
  generalize reach H 3 (once (idsL (handV c H f args)) []) = l at h
  cases hb : l.all (·.blt H.length) && (lentV c f args).all (fun i => !l.any (·.beq i)) with
  | false => simp [hb] at h
  | true =>
  simp only [hb, cond_true] at h
  split at h
  · cases h
  · rename_i e0 he
    simp only [Option.some.injEq, Eff.call.injEq] at h
    obtain ⟨rfl, h2, h3⟩ := h
    have h3 := eq_of_heq h3
    have h2 := eq_of_heq h2
    subst h3
    subst h2
    simp only at hg
    cases hc : !e0.pan x && (l.isEmpty && (e0.enc x).2.isEmpty && ((lentV c f args).isEmpty || flatL (e0.enc x).1)) with
    | false => simp [hc] at hg
    | true =>
      simp only [hc, cond_true, Option.some.injEq] at hg
      simp only [Bool.and_eq_true, List.isEmpty_iff] at hc
      obtain ⟨h3, ⟨h4, h5⟩, h6⟩ := hc
      subst h4
      refine ⟨by simpa using h3, ?_, ?_, ?_⟩
      · simpa [h5] using h6
      · simp only [h5]
        have : ((lentV c f args).isEmpty || (flatL (e0.enc x).1 && ([] : List (Obj T)).all (flatO c))) = true := by simpa using h6
        rw [this]
        simp [putBack]
      · rw [← hg, ← ren_pack, ren_ren]

/-- What is asked of a configuration. -/
structure Fine (c : Cfg T) : Prop where
  cod : CodOk (rc c)
  zero : ZeroOk c
  eqk : EqkOk c
  flat : FlatOk c
  cf : CfOk c
  gv : GvOk c
  bytes : BytesOk c

def EffOk (c : Cfg T) (η : Eta) (H : List (Obj T)) (w : World) (res : Result Next) : Eff T → Prop
  | .val ok os v => ok = true → ValOk c η H.length w os v res
  | .wr ok H' v => (∀ id, H.length ≤ id → η id = none) → ok = true → WrOk c η H' w v res
  | .call e q g => (∀ x v, g x = some v → e.pan x = false ∧ q x = true ∧ (e.enc x).2 = H ∧ v = Ev.ren (fun _ => none) (pack (e.enc x).1)) ∧ ∀ x, e.val = some x →
      ∃ f xs, res = .ok (.enter f xs.toArray) w ∧ (e.pan x = false → (∀ id, H.length ≤ id → η id = none) → CallOk c η (e.enc x).2 w (pack (e.enc x).1) f xs) ∧
        (e.pan x = false → q x = true → ∃ os, (e.enc x).2 = H ++ os ∧ CallNew c η H.length os w (pack (e.enc x).1) f xs) ∧
        (e.pan x = true → (∀ id, H.length ≤ id → η id = none) → CallPan c η e.penh w (e.penc x) f xs)
  | .pan v => ∃ y, res = .halt (.panic y) w ∧ RV (rc c) η w v y

theorem flat_vals {R : Rc T} {η : Eta} {w : World} : ∀ {ds : List (D T)} {xs : List Value}, RVs R η w (ds.map V.d) xs → ds.all flatD = true → dvals ds = some xs
  | [], xs, h, _ => by simp only [List.map_nil, RVs] at h; subst h; rfl
  | d :: ds, xs, h, hf => by
    simp only [List.map_cons, RVs] at h
    obtain ⟨x, xs', rfl, h1, h2⟩ := h
    rw [List.all_cons, Bool.and_eq_true] at hf
    have ih := flat_vals h2 hf.2
    have hx : dval d = some x := by
      simp only [RV] at h1
      cases h1 <;> first | rfl | (simp [flatD] at hf)
    rw [dvals, hx, ih]

theorem toDs_inv : ∀ {vs : List (V T)} {ds : List (D T)}, toDs vs = some ds → vs = ds.map V.d
  | [], ds, h => by simp only [toDs, Option.some.injEq] at h; subst h; rfl
  | v :: vs, ds, h => by
    unfold toDs at h
    split at h
    · rename_i x xs hx hxs
      simp only [Option.some.injEq] at h
      subst h
      have : v = V.d x := by
        unfold toD at hx
        split at hx
        · simp only [Option.some.injEq] at hx; subst hx; rfl
        · cases hx
      rw [this, toDs_inv hxs]; rfl
    · cases h

theorem op_iface {c : Cfg T} {η : Eta} {w : World} {t : TypeId} {v : V T} {y : Value} {b : Bool} {ds : List (D T)} (hv : RV (rc c) η w v y) (hb : aggB v = some b) (hd : toDs v.cells = some ds)
    (hok : (ds.all flatD && (isAg c.P t == b) && !isIf c.P t && (c.P.underlying t).isSome) = true) :
    (Instr.makeInterface t y).run c.P w = .ok (.iface t y) w ∧ RV (rc c) η w (.pv t ds) (.iface t y) := by
  simp only [Bool.and_eq_true] at hok
  obtain ⟨⟨⟨h1, h2⟩, h3⟩, h4⟩ := hok
  have hi := toDs_inv hd
  constructor
  · cases hu : c.P.underlying t with
    | none => rw [hu] at h4; cases h4
    | some u =>
      unfold isIf at h3
      rw [hu] at h3
      unfold Instr.makeInterface
      cases u <;> simp [run_under hu] at h3 ⊢
  · simp only [RV]
    refine ⟨y, rfl, ?_⟩
    cases v <;> simp only [aggB, Option.some.injEq, reduceCtorEq] at hb
    · rename_i d
      refine ⟨[y], ?_, .inr ⟨by subst hb; simpa [rc] using h2, rfl⟩⟩
      have : ds = [d] := by
        simp only [V.cells] at hi
        cases ds with
        | nil => simp at hi
        | cons a r => cases r <;> simp at hi; rw [hi]
      subst this
      exact flat_vals (R := rc c) (η := η) (w := w) (by simp only [List.map_cons, List.map_nil, RVs]; exact ⟨y, [], rfl, hv, rfl⟩) h1
    · rename_i cs
      simp only [V.cells] at hi
      simp only [RV] at hv
      obtain ⟨xs, rfl, hx⟩ := hv
      rw [hi] at hx
      exact ⟨xs, flat_vals hx h1, .inl ⟨by subst hb; simpa [rc] using h2, rfl⟩⟩

theorem vals_RVs {R : Rc T} {η : Eta} {w : World} : ∀ {ds : List (D T)} {xs : List Value}, dvals ds = some xs → RVs R η w (ds.map V.d) xs
  | [], xs, h => by simp only [dvals, Option.some.injEq] at h; subst h; simp only [List.map_nil, RVs]
  | d :: ds, xs, h => by
    rw [dvals] at h
    split at h
    · rename_i y ys hy hys
      simp only [Option.some.injEq] at h
      subst h
      simp only [List.map_cons, RVs]
      refine ⟨y, ys, rfl, ?_, vals_RVs hys⟩
      simp only [RV]
      cases d <;> simp only [dval, Option.some.injEq, reduceCtorEq] at hy <;> subst hy <;> constructor
    · cases h

/-- What lies in an interface, taken out. -/
theorem pv_val {R : Rc T} {η : Eta} {w : World} {t : TypeId} {ds : List (D T)} {y : Value} (h : RV R η w (.pv t ds) y) : ∃ x, y = .iface t x ∧ RV R η w (valOf (R.ag t) ds) x := by
  simp only [RV] at h
  obtain ⟨x, rfl, vs, hvs, h⟩ := h
  have hr := vals_RVs (R := R) (η := η) (w := w) hvs
  refine ⟨x, rfl, ?_⟩
  rcases h with ⟨ha, rfl⟩ | ⟨ha, rfl⟩
  · rw [ha]
    show RV R η w (.agg (ds.map .d)) _
    simp only [RV]
    exact ⟨vs, rfl, hr⟩
  · rw [ha]
    match ds, hr with
    | [], _ => simp only [valOf, RV]
    | [d], hr =>
      simp only [List.map_cons, List.map_nil, RVs] at hr
      obtain ⟨x', xs', h1, h2, h3⟩ := hr
      cases h1
      exact h2
    | d :: d' :: r, _ => simp only [valOf, RV]

theorem RVs_map {R : Rc T} {η : Eta} {w : World} {ρ : Operand → V T} {σ : Operand → Value} (hρ : ∀ x, RV R η w (ρ x) (σ x)) : ∀ (xs : List Operand), RVs R η w (xs.map ρ) (xs.map σ)
  | [] => by simp [RVs]
  | x :: xs => by simp only [List.map_cons, RVs]; exact ⟨_, _, rfl, hρ x, RVs_map hρ xs⟩

theorem RPs_map {R : Rc T} {η : Eta} {w : World} {ρ : Operand → V T} {σ : Operand → Value} (hρ : ∀ x, RV R η w (ρ x) (σ x)) (ps : Array (Nat × Operand)) :
    RPs R η w (ps.toList.map fun p => (p.1, ρ p.2)) (ps.map fun (i, x) => (i, σ x)).toList := by
  refine ⟨by simp, fun i p q hp hq => ?_⟩
  simp only [List.getElem?_map, Array.toList_map] at hp hq
  cases h : ps.toList[i]? with
  | none => rw [h] at hp; simp at hp
  | some y => rw [h] at hp hq; simp at hp hq; subst hp; subst hq; exact ⟨rfl, hρ y.2⟩

theorem chunk_get {c : Cfg T} (hc : CodOk (rc c)) {η : Eta} {w w0 : World} {e : TypeId} {sz n ix : Nat} {cs : List (V T)} {ys : List (T e)} {xs : List Value} {v : V T}
    (hch : chunk c.cod e sz n cs = some ys) (hx : RVs (rc c) η w cs xs) (hix : ix < n) (h : takeV c.P e (ofDs (c.cod.enc e (ys.getD ix (c.cod.dflt e)))) 0 = some v) (hsz : sizeT c.P e = some sz) :
    ∃ y, (part e xs.toArray (ix * sz)).run c.P w0 = .ok y w0 ∧ RV (rc c) η w v y := by
  obtain ⟨hlen, hrow⟩ := chunk_ok hc hch hx
  have hi : ix < ys.length := by omega
  have hget : ys.getD ix (c.cod.dflt e) = ys[ix] := by simp [List.getD, List.getElem?_eq_getElem hi]
  rw [hget] at h
  have h1 := hrow ix hi
  rcases takeV_ok h h1 with ⟨m, ha, hs, rfl, hle, hrv, hl⟩ | ⟨ha, x, hx', hv⟩
  · rw [hsz] at hs; cases hs
    refine ⟨.agg ((xs.drop (ix * sz)).take sz).toArray, ?_, ?_⟩
    · simp [part, run_isAgg ha, run_size hsz]
    · simp only [RV, List.drop_zero] at hrv ⊢
      refine ⟨_, rfl, ?_⟩
      rw [List.take_take, Nat.min_self] at hrv
      exact hrv
  · refine ⟨x, ?_, hv⟩
    have hx2 : xs[ix * sz]? = some x := by
      rcases Nat.eq_zero_or_pos sz with h0 | h0
      · subst h0; simp at hx'
      · rw [List.getElem?_take_of_lt h0, List.getElem?_drop] at hx'; simpa using hx'
    simp [part, run_isAgg ha, hx2]

theorem run_index_at {P : Program} {w : World} {t e : TypeId} {k : IntKind} {i : Int} {b o n cap : Nat} {inf : TypeInfo} (hu : P.underlying t = some (.slice e)) (hi : P.info? e = some inf)
    (h : 0 ≤ i ∧ i < (n : Int)) : (Instr.indexAt t (.slice (some (at_ b o)) n cap) (.int k i)).run P w = .ok (.pointer (some (at_ b (o + i.toNat * P.cellsOf e)))) w := by
  have hs : (sizeOf e).run P w = .ok (P.cellsOf e) w := by simp [sizeOf, typeInfo, hi, Program.cellsOf]
  simp [Instr.indexAt, asIntOf, run_under hu, h.1, h.2, hs, at_add]

theorem not_alive {R : Rc T} {η : Eta} {H : List (Obj T)} {w : World} (hH : RelH R η H w) {id : Nat} (hr : η id = some .dead) : alive H id = false := by
  unfold alive
  cases ho : H[id]? with
  | none => rfl
  | some o =>
    have := hH.obj id _ o hr ho
    cases o with
    | dead => rfl
    | box cs => obtain ⟨b, ce, e, h, _⟩ := this; cases h
    | arr t xs => obtain ⟨root, cap, h, _⟩ := this; cases h
    | mp kk vt es => obtain ⟨b, ms, cl, h, _⟩ := this; cases h
    | bl s => obtain ⟨b, g, p, v, h, _⟩ := this; cases h
    | unk => rfl

theorem opR_ok {c : Cfg T} (hc : Fine c) {η : Eta} {H : List (Obj T)} {w : World} {a : Act} {ρ : Operand → V T} {o : Oper} {eff : Eff T} (hρ : ∀ x, RV (rc c) η w (ρ x) (a.eval x))
    (hH : RelH (rc c) η H w) (hfr : ∀ ok os v, eff = .val ok os v → Fresh η H.length os.length) (h : opR c H ρ o = some eff) : EffOk c η H w ((execOp a.eval o).run c.P w) eff := by
  obtain ⟨dst, op, ty, pos, after, g⟩ := o
  unfold opR at h
  simp only at h
  split at h
  · simp at h; subst h; intro _; exact .pure (by simp [execOp]) (hρ _)
  · simp at h; subst h; intro _; exact .pure (by simp [execOp]) (hρ _)
  · -- alloc
    rename_i t
    cases hn : newBl c t with
    | true =>
      simp only [hn, cond_true, Option.some.injEq] at h; subst h; intro _; exact op_newBl (hfr _ _ _ rfl) hn
    | false =>
      simp only [hn, cond_false] at h
      split at h
      · rename_i cs hcs
        simp at h; subst h; intro _; exact op_alloc (hfr _ _ _ rfl) hcs
      · cases h
  · -- box
    rename_i t x
    have hx := hρ x
    split at h
    · rename_i cs hcs
      cases hfb : c.fb t with
      | false =>
        simp only [hfb, cond_false, Option.some.injEq] at h; subst h; intro _
        have := op_box (dst := dst) (t := t) (ty := ty) (pos := pos) (after := after) (g := g) (hfr _ _ _ rfl) hx (.inr ⟨cs, hcs⟩)
        rwa [hcs] at this
      | true =>
        simp only [hfb, cond_true, Option.some.injEq] at h; subst h; intro hf _
        rw [hcs] at hx
        have hx' : (V.agg cs).cells = cs := rfl
        have hcl := (V.cells_ok hx (.inr ⟨cs, rfl⟩)).1
        rw [hx'] at hcl
        obtain ⟨η1, a1, a2, a3, a4, a5, a6⟩ := frzL_ok (c := c) cs η H w _ hH hf hcl
        have hfr1 : Fresh η1 (frzL H cs).2.length 1 := fun id h1 _ => a5 id (by rw [a4] at h1; exact h1)
        obtain ⟨x, w', η', h1, h2, hN⟩ := ValOk.box (res := (execOp a.eval ⟨dst, .box t x, ty, pos, after, g⟩).run c.P w) hfr1 (by simp [execOp, Instr.box, newVar, newRow, at_]; rfl) a6
        have hrel := hN.relH hfr1 a3
        refine ⟨x, w', η', ?_, h2, a1.trans hN.evo, a2.trans (hN.keeps hfr1), hrel, fun id hid => ?_⟩
        · exact h1
        · rw [hN.keep id (by simp at hid ⊢; omega)]
          exact a5 id (by simp at hid; omega)
    · rename_i x' hcs
      simp at h; subst h; intro _
      have := op_box (dst := dst) (t := t) (ty := ty) (pos := pos) (after := after) (g := g) (hfr _ _ _ rfl) hx (.inl (by rw [hcs]; rfl))
      rwa [hcs] at this
    · rename_i f caps hcs
      simp at h; subst h; intro _
      have := op_box (dst := dst) (t := t) (ty := ty) (pos := pos) (after := after) (g := g) (hfr _ _ _ rfl) hx (.inl (by rw [hcs]; rfl))
      rwa [hcs] at this
    · rename_i id rng hcs
      simp at h; subst h; intro _
      have := op_box (dst := dst) (t := t) (ty := ty) (pos := pos) (after := after) (g := g) (hfr _ _ _ rfl) hx (.inl (by rw [hcs]; rfl))
      rwa [hcs] at this
    · cases h
  · -- build
    rename_i t parts
    cases hb : buildV c.P t (parts.toList.map fun p => (p.1, ρ p.2)) with
    | none => rw [hb] at h; cases h
    | some v =>
      rw [hb] at h; simp at h; subst h; intro _
      obtain ⟨y, h1, h2⟩ := buildV_ok hb (RPs_map hρ parts)
      exact .pure (by simp only [execOp, Sem.run_bind, h1, Result.andThen_ok, Sem.run_pure]) h2
  · -- buildSlice
    rename_i t len parts
    split at h
    · rename_i e he
      split at h
      · rename_i size zero hs hz
        cases hb : (len * size).ble 16777216 && c.cod.kn e && size.beq zero.length with
        | false => simp [hb] at h
        | true =>
          simp only [hb, cond_true] at h
          simp only [Bool.and_eq_true] at hb
          split at h
          · rename_i cells hfill
            split at h
            · rename_i xs hch
              simp at h; subst h; intro _
              exact op_buildSlice hc.cod (hfr _ _ _ rfl) he hs hz (Nat.le_of_ble_eq_true hb.1.1) hb.1.2 (Nat.eq_of_beq_eq_true hb.2) hfill hch (RPs_map hρ parts)
            · split at h
              · rename_i cells2 hfill2
                split at h
                · rename_i xs hch
                  simp at h; subst h; intro hf _
                  obtain ⟨η1, a1, a2, a3, a4, a5, a6⟩ := frzP_ok (c := c) _ η H w _ hH hf (RPs_map hρ parts)
                  obtain ⟨x, w', η', h1, h2, hN⟩ := op_buildSlice (n := (frzP H (parts.toList.map fun p => (p.1, ρ p.2))).2.length) (ty := ty) (pos := pos) (after := after) (g := g) (dst := dst) hc.cod (fun id h1 _ => a5 id (by rw [a4] at h1; exact h1)) he hs hz (Nat.le_of_ble_eq_true hb.1.1) hb.1.2 (Nat.eq_of_beq_eq_true hb.2) hfill2 hch a6
                  have hfr1 : Fresh η1 (frzP H (parts.toList.map fun p => (p.1, ρ p.2))).2.length 1 := fun id h1 _ => a5 id (by rw [a4] at h1; exact h1)
                  have hrel := hN.relH hfr1 a3
                  refine ⟨x, w', η', ?_, h2, a1.trans hN.evo, a2.trans (hN.keeps hfr1), hrel, fun id hid => ?_⟩
                  · exact h1
                  · rw [hN.keep id (by simp at hid ⊢; omega)]
                    exact a5 id (by simp at hid; omega)
                · cases h
              · cases h
          · cases h
      · cases h
    · cases h
  · -- load
    rename_i t x
    cases hl : loadV c H t (ρ x) with
    | none => rw [hl] at h; cases h
    | some v =>
      rw [hl] at h; simp at h; subst h; intro _
      obtain ⟨y, h1, h2⟩ := loadV_ok hc.cod hc.gv hH (hρ x) hl
      exact .pure (by simp only [execOp, Sem.run_bind, h1, Result.andThen_ok, Sem.run_pure]) h2
  · -- store
    rename_i t x y
    cases hl : storeV c H t (ρ y) (ρ x) with
    | none => rw [hl] at h; cases h
    | some H' =>
      rw [hl] at h; simp at h; subst h; intro hf _
      exact op_store hc.cod hH hf (hρ x) (hρ y) hl
  · -- nilCheck
    rename_i x
    have hx := hρ x
    split at h
    · rename_i id off hv
      cases hal : alive H id with
      | false => simp [hal] at h
      | true =>
        simp [hal] at h; subst h; intro _
        rw [hv] at hx
        have hx' := hx
        simp only [RV] at hx; obtain ⟨r, ad, h1, h2, h3⟩ := hx
        rcases h3 with rfl | ⟨b, rfl, rfl⟩
        · exact absurd hal (by rw [not_alive hH h1]; simp)
        · exact .pure (x := a.eval x) (by simp only [execOp, h2]; rfl) hx'
    · rename_i id ix off hv
      cases hal : alive H id with
      | false => simp [hal] at h
      | true =>
        simp [hal] at h; subst h; intro _
        rw [hv] at hx
        have hx' := hx
        simp only [RV] at hx; obtain ⟨r, ad, h1, h2, h3⟩ := hx
        rcases h3 with rfl | ⟨t', n', b, o', cap', rfl, hix, rfl⟩
        · exact absurd hal (by rw [not_alive hH h1]; simp)
        · exact .pure (x := a.eval x) (by simp only [execOp, h2]; rfl) hx'
    · rename_i t' xs ix off hv
      simp at h; subst h; intro _
      rw [hv] at hx
      have hx' := hx
      simp only [RV] at hx; obtain ⟨b, o', h1, h2, h3, h4, h5⟩ := hx
      exact .pure (x := a.eval x) (by simp only [execOp, h5]; rfl) hx'
    · rename_i id hv
      cases hal : alive H id with
      | false => simp [hal] at h
      | true =>
        simp [hal] at h; subst h; intro _
        rw [hv] at hx
        have hx' := hx
        simp only [RV] at hx; obtain ⟨r, ad, h1, h2, h3⟩ := hx
        rcases h3 with rfl | ⟨b, g, rfl, rfl⟩
        · exact absurd hal (by rw [not_alive hH h1]; simp)
        · exact .pure (x := a.eval x) (by simp only [execOp, h2]; rfl) hx'
    · cases h
  · -- binOp
    rename_i op t x y t'
    split at h
    · rename_i ok v hb
      simp at h; subst h; intro hok
      obtain ⟨z, h1, h2⟩ := binT_ok hc.eqk (hρ x) (hρ y) hb hok
      refine .pure (x := z) ?_ h2
      have : (execOp a.eval ⟨dst, .binOp op t x y t', ty, pos, after, g⟩) = (do pure (Next.value (← (do eqGuard op t x y (a.eval x) (a.eval y); binOp op t (a.eval x) (a.eval y) : Sem Value))) : Sem Next) := rfl
      rw [this, Sem.run_bind, h1]; rfl
    · cases h
  · -- unOp
    rename_i op t x
    cases hu : un op (ρ x) with
    | none => rw [hu] at h; cases h
    | some v =>
      rw [hu] at h; simp at h; subst h; intro _
      obtain ⟨z, h1, h2⟩ := un_ok (hρ x) hu
      exact .pure (by simp only [execOp, Sem.run_bind, h1, Result.andThen_ok, Sem.run_pure]) h2
  · -- convert
    rename_i src dt x
    split at h
    · rename_i d1 d2 hs hd
      obtain ⟨os, u, rfl, y, w', η', h1, h2, h3⟩ := conv_ok hc.cod hc.bytes hH (hρ x) hs hd h hfr
      intro _
      exact ⟨y, w', η', .inl (by simp only [execOp, Sem.run_bind, h1, Result.andThen_ok, Sem.run_pure]), h2, h3⟩
    · cases h
  · -- slice
    rename_i t x lo hi
    split at h
    · rename_i l hh hlo hhi
      split at h
      · rename_i ok v hs
        simp at h; subst h; intro hok
        have e1 : (lo.map a.eval = none ∧ l = none) ∨ ∃ k m, lo.map a.eval = some (.int k m) ∧ l = some m := by
          rcases optI_ok hρ hlo with ⟨rfl, rfl⟩ | ⟨y, k, m, rfl, rfl, h3⟩
          · exact .inl ⟨rfl, rfl⟩
          · exact .inr ⟨k, m, by simp [h3], rfl⟩
        have e2 : (hi.map a.eval = none ∧ hh = none) ∨ ∃ k m, hi.map a.eval = some (.int k m) ∧ hh = some m := by
          rcases optI_ok hρ hhi with ⟨rfl, rfl⟩ | ⟨y, k, m, rfl, rfl, h3⟩
          · exact .inl ⟨rfl, rfl⟩
          · exact .inr ⟨k, m, by simp [h3], rfl⟩
        obtain ⟨y, h1, h2⟩ := sliceV_ok hH e1 e2 (hρ x) hs hok
        exact .pure (by simp only [execOp, Option.map_none, Sem.run_bind, h1, Result.andThen_ok, Sem.run_pure]) h2
      · cases h
    · cases h
  · -- fieldAddr
    rename_i t x f
    have hx := hρ x
    split at h
    · cases h
    · rename_i off u hfo
      have hrun : ∀ b o, a.eval x = .pointer (some (at_ b o)) → (execOp a.eval ⟨dst, .fieldAddr t x f, ty, pos, after, g⟩).run c.P w = .ok (.value (.pointer (some (at_ b (o + off))))) w := fun b o hb => by
        simp only [execOp, hb, Sem.run_bind, run_fieldAt hfo, Result.andThen_ok, Sem.run_pure]
      split at h
      · rename_i id o hv
        cases hal : alive H id with
        | false => simp [hal] at h
        | true =>
          simp [hal] at h; subst h; intro _
          rw [hv] at hx
          simp only [RV] at hx; obtain ⟨r, ad, h1, h2, h3⟩ := hx
          rcases h3 with rfl | ⟨b, rfl, rfl⟩
          · exact absurd hal (by rw [not_alive hH h1]; simp)
          · exact .pure (hrun _ _ h2) (by simp only [RV]; exact ⟨_, _, h1, rfl, .inr ⟨b, rfl, rfl⟩⟩)
      · rename_i id b0 e n ix o hv
        cases hal : alive H id with
        | false => simp [hal] at h
        | true =>
          simp [hal] at h; subst h; intro _
          rw [hv] at hx
          simp only [RV] at hx; obtain ⟨r, ad, h1, h2, h3⟩ := hx
          rcases h3 with rfl | ⟨b, rfl, hix, rfl⟩
          · exact absurd hal (by rw [not_alive hH h1]; simp)
          · exact .pure (hrun _ _ h2) (by simp only [RV]; exact ⟨_, _, h1, rfl, .inr ⟨b, rfl, hix, by rw [Nat.add_assoc]⟩⟩)
      · rename_i id ix o hv
        cases hal : alive H id with
        | false => simp [hal] at h
        | true =>
          simp [hal] at h; subst h; intro _
          rw [hv] at hx
          simp only [RV] at hx; obtain ⟨r, ad, h1, h2, h3⟩ := hx
          rcases h3 with rfl | ⟨t', n', b, o', cap', rfl, hix, rfl⟩
          · exact absurd hal (by rw [not_alive hH h1]; simp)
          · exact .pure (hrun _ _ h2) (by simp only [RV]; exact ⟨_, _, h1, rfl, .inr ⟨t', n', b, o', cap', rfl, hix, by rw [Nat.add_assoc]⟩⟩)
      · rename_i e xs ix o hv
        simp at h; subst h; intro _
        rw [hv] at hx
        simp only [RV] at hx; obtain ⟨b, o', h1, h2, h3, h4, h5⟩ := hx
        exact .pure (hrun _ _ h5) (by simp only [RV]; exact ⟨b, o', h1, h2, h3, h4, by rw [Nat.add_assoc]⟩)
      · rename_i g0 o hv
        simp only [Option.some.injEq] at h; subst h; intro _
        rw [hv] at hx
        simp only [RV] at hx
        exact .pure (hrun _ _ hx) (by simp only [RV])
      · cases h
  · -- field
    rename_i t x f
    have hx := hρ x
    split at h
    · rename_i off u cs hfo hv
      cases ht : takeV c.P u cs off with
      | none => rw [ht] at h; cases h
      | some v =>
        rw [ht] at h; simp at h; subst h; intro _
        rw [hv] at hx
        simp only [RV] at hx; obtain ⟨xs, h1, h2⟩ := hx
        obtain ⟨y, h3, h4⟩ := run_field hfo ht h2
        exact .pure (by simp only [execOp, h1, Sem.run_bind, h3, Result.andThen_ok, Sem.run_pure]) h4
    · cases h
  · -- indexAddr
    rename_i t x ix
    have hx := hρ x
    split at h
    · rename_i i e hi hu
      obtain ⟨k, hk⟩ := asI_ok (hρ ix) hi
      split at h
      · rename_i e' xs hv
        cases hb : e'.beq e && (c.P.info? e).isSome with
        | false => simp [hb] at h
        | true =>
          simp only [hb, cond_true, Option.some.injEq] at h; subst h
          simp only [Bool.and_eq_true] at hb
          have hb' := Nat.eq_of_beq_eq_true hb.1
          subst hb'
          obtain ⟨inf, hinf⟩ := Option.isSome_iff_exists.1 hb.2
          intro hok
          simp only [decide_eq_true_eq] at hok
          rw [hv] at hx
          simp only [RV] at hx
          obtain ⟨ad, cap, h1, hcap, h2⟩ := hx.inv_l
          rcases h2 with rfl | ⟨b, o, rfl, hokb, hlt, harr⟩
          · simp at hok; omega
          · refine .pure (x := .pointer (some (at_ b (o + i.toNat * c.P.cellsOf e')))) ?_ ?_
            · simp only [execOp, h1, hk, Sem.run_bind, run_index_at hu hinf hok, Result.andThen_ok, Sem.run_pure]
            · simp only [RV]; exact ⟨b, o, hokb, hlt, by omega, harr, rfl⟩
      · rename_i id rng hv
        split at h
        · rename_i e' xs hxs
          cases hb : e'.beq e && (c.P.info? e).isSome with
          | false => simp [hb] at h
          | true =>
            simp only [hb, cond_true] at h
            simp only [Bool.and_eq_true] at hb
            have hb' := Nat.eq_of_beq_eq_true hb.1
            subst hb'
            obtain ⟨inf, hinf⟩ := Option.isSome_iff_exists.1 hb.2
            rw [hv] at hx
            split at h
            · simp only [Option.some.injEq] at h; subst h; intro hok
              simp only [decide_eq_true_eq] at hok
              simp only [RV] at hx
              obtain ⟨r, ad, n, cc, hr, h1, h3⟩ := hx
              obtain ⟨root, cap, rfl, hrel⟩ := hH.obj id r _ hr hxs
              rcases h3 with h3 | ⟨t', root', h3, hbase⟩
              · cases h3
              · cases h3
                cases root with
                | none => obtain ⟨h4, _⟩ := hrel; subst h4; simp at hok; omega
                | some p =>
                  obtain ⟨b, o⟩ := p
                  have hcap : xs.length ≤ cc := by obtain ⟨_, _, _, _, _, h5, _⟩ := hrel; exact h5
                  rcases hbase with rfl | hbase
                  case inr => omega
                  refine .pure (x := .pointer (some (at_ b (o + i.toNat * c.P.cellsOf e')))) ?_ ?_
                  · simp only [execOp, h1, hk, Sem.run_bind, rootA, run_index_at hu hinf hok, Result.andThen_ok, Sem.run_pure]
                  · simp only [RV]; exact ⟨_, _, hr, rfl, .inr ⟨e', xs.length, b, o, cc, rfl, by omega, rfl⟩⟩
            · rename_i o n
              simp only [Option.some.injEq] at h; subst h; intro hok
              simp only [decide_eq_true_eq] at hok
              simp only [RV] at hx
              obtain ⟨r, ad, cc, hr, h1, h3⟩ := hx
              obtain ⟨root, cap, rfl, hrel⟩ := hH.obj id r _ hr hxs
              rcases h3 with h3 | ⟨t', n', root', cap', h3, hon, rfl, had⟩
              · cases h3
              · cases h3
                cases root with
                | none => obtain ⟨h4, _⟩ := hrel; subst h4; simp at hon; omega
                | some p =>
                  obtain ⟨b, o'⟩ := p
                  have hcap : xs.length ≤ cap := by obtain ⟨_, _, _, _, _, h5, _⟩ := hrel; exact h5
                  have := had (by omega)
                  subst this
                  refine .pure (x := .pointer (some (at_ b (o' + o * c.P.cellsOf e' + i.toNat * c.P.cellsOf e')))) ?_ ?_
                  · simp only [execOp, h1, hk, Sem.run_bind, addN]
                    have := run_index_at (k := k) (w := w) (b := b) (o := o' + o * c.P.cellsOf e') (cap := cap - o) hu hinf hok
                    simp only [rc] at this ⊢
                    rw [this]; rfl
                  · simp only [RV]; exact ⟨_, _, hr, rfl, .inr ⟨e', xs.length, b, o', cap, rfl, by omega, by rw [Nat.add_mul]; simp only [rc]; congr 2; omega⟩⟩
        · cases h
      · cases h
    · rename_i i n e hi hu
      obtain ⟨k, hk⟩ := asI_ok (hρ ix) hi
      split at h
      · rename_i id off hv
        cases hb : (c.P.info? e).isSome && alive H id with
        | false => simp [hb] at h
        | true =>
          simp only [hb, cond_true, Option.some.injEq] at h; subst h
          simp only [Bool.and_eq_true] at hb
          obtain ⟨inf, hinf⟩ := Option.isSome_iff_exists.1 hb.1
          intro hok
          simp only [decide_eq_true_eq] at hok
          rw [hv] at hx
          simp only [RV] at hx; obtain ⟨r, ad, h1, h2, h3⟩ := hx
          rcases h3 with rfl | ⟨b, rfl, rfl⟩
          · exact absurd hb.2 (by rw [not_alive hH h1]; simp)
          · have hs : ∀ w0, (sizeOf e).run c.P w0 = .ok (c.P.cellsOf e) w0 := fun w0 => by simp [sizeOf, typeInfo, hinf, Program.cellsOf]
            refine .pure (x := .pointer (some (at_ b (off + i.toNat * c.P.cellsOf e)))) ?_ ?_
            · simp [execOp, h2, hk, Instr.indexAt, asIntOf, run_under hu, Instr.sureAddr, hok.1, hok.2, hs, at_add]
            · simp only [RV]; exact ⟨_, _, h1, rfl, .inr ⟨b, rfl, by omega, rfl⟩⟩
      · rename_i g0 off hv
        split at h
        · rename_i ds sz hds hsz
          split at h
          · rename_i xs hch
            simp only [Option.some.injEq] at h; subst h
            intro hok
            simp only [decide_eq_true_eq] at hok
            rw [hv] at hx
            simp only [RV] at hx
            obtain ⟨h1, h2, zs, h3, h4⟩ := gv_row hc.gv hH hds
            obtain ⟨hlen, hrow⟩ := chunk_ok hc.cod hch (h3.drop off)
            have hcells : c.P.cellsOf e = sz := sizeT_cells hsz
            have hs : ∀ w0, (sizeOf e).run c.P w0 = .ok sz w0 := fun w0 => run_size hsz w0
            refine .pure (x := .pointer (some (at_ g0 (off + i.toNat * sz)))) ?_ ?_
            · simp [execOp, hx, hk, Instr.indexAt, asIntOf, run_under hu, Instr.sureAddr, hok.1, hok.2, hs, at_add]
            · simp only [RV]
              refine ⟨g0, off, h1, h2, by omega, ?_, by simp only [rc, hcells, Nat.add_zero]⟩
              intro i' j hi' d hd
              have h5 := hrow i' hi'
              obtain ⟨x', h6, h7⟩ := h5.get j (v := .d d) (by rw [ofDs_get]; show ((c.cod.enc e xs[i'])[j]?).map _ = _; rw [show (c.cod.enc e xs[i'])[j]? = some d from hd]; rfl)
              simp only [RV] at h7
              refine ⟨x', ?_, h7⟩
              have h8 := (((h4.drop off).drop (i' * sz)).take sz) j x' h6
              rw [show (rc c).sz e = sz from hcells]
              simpa [Nat.add_assoc] using h8
          · cases h
        · cases h
      · cases h
    · cases h
  · -- index
    rename_i t x ix
    have hx := hρ x
    split at h
    · rename_i i l hi hu hv
      obtain ⟨k, hk⟩ := asI_ok (hρ ix) hi
      simp only [Option.some.injEq] at h; subst h; intro hok
      simp only [decide_eq_true_eq] at hok
      rw [hv] at hx
      simp only [RV] at hx
      generalize hax : a.eval x = ax at hx
      cases hx
      have hlt : i.toNat < l.length := by omega
      refine .pure (x := .int .u8 ((l.getD i.toNat 0).toNat : Int)) ?_ (by simp only [RV]; exact .i _ _)
      have hg : l.getD i.toNat 0 = l[i.toNat] := by simp [List.getD, List.getElem?_eq_getElem hlt]
      have hs : (ByteArray.mk l.toArray)[i.toNat]? = some l[i.toNat] := by
        rw [getElem?_pos _ _ (by simpa [ByteArray.size] using hlt)]
        rfl
      simp [execOp, hax, hk, Instr.index, asIntOf, run_under hu, hok.1, hs, List.getElem?_eq_getElem hlt]
    · rename_i i n e cs hi hu hv
      obtain ⟨k, hk⟩ := asI_ok (hρ ix) hi
      split at h
      · rename_i sz hsz
        split at h
        · rename_i ys hys
          cases ht : takeV c.P e (ofDs (c.cod.enc e (ys.getD i.toNat (c.cod.dflt e)))) 0 with
          | none => rw [ht] at h; cases h
          | some v =>
            rw [ht] at h; simp only [Option.map_some, Option.some.injEq] at h; subst h; intro hok
            simp only [decide_eq_true_eq] at hok
            rw [hv] at hx
            simp only [RV] at hx; obtain ⟨xs, h1, h2⟩ := hx
            obtain ⟨y, h3, h4⟩ := chunk_get (w0 := w) hc.cod hys h2 (ix := i.toNat) (by omega) ht hsz
            exact .pure (x := y) (by simp [execOp, h1, hk, Instr.index, asIntOf, run_under hu, hok.1, hok.2, run_size hsz, h3]) h4
        · cases h
      · cases h
    · cases h
  · -- makeSlice
    rename_i t l m
    cases hlm : l.beq m with
    | false => simp [hlm] at h
    | true =>
      obtain rfl := Nat.eq_of_beq_eq_true hlm
      simp only [hlm, cond_true] at h
      cases hv : mksV c t (ρ (.tmp l)) with
      | none => rw [hv] at h; cases h
      | some p =>
        rw [hv] at h
        simp only [Option.map_some, Option.some.injEq] at h
        subst h
        obtain ⟨e, zs, ds, z, k, he, hk, hb, hz, hs, hp, hds, hzv, hx, rfl⟩ := mksV_inv hv
        intro hok
        simp only [decide_eq_true_eq] at hok
        have hr := hρ (.tmp l)
        rw [hx] at hr
        simp only [RV] at hr
        generalize hy : a.eval (.tmp l) = y at hr
        cases hr
        exact op_makeSlice hc.cod (hfr _ _ _ rfl) he hk hb hz hs hp hds hzv hok.1 hok.2 hy
  · -- makeMap
    rename_i t
    split at h
    · rename_i kt vt hmt
      split at h
      · rename_i kk hkk
        cases hb : c.cod.kn vt with
        | false => simp [hb] at h
        | true => simp [hb] at h; subst h; intro _; exact op_makeMap kk vt (hfr _ _ _ rfl)
      · cases h
    · cases h
  · -- lookup
    rename_i t x ix comma
    split at h
    · rename_i kk vt id key es hmv
      simp only [Option.some.injEq] at h; subst h; intro _
      exact op_lookup hc.zero hH (hρ x) (hρ ix) hmv
    · cases h
  · -- mapUpdate
    rename_i t m k v
    split at h
    · rename_i kk vt id key es ds hmv hds
      split at h
      · rename_i u hu
        cases hb : aggB (ρ v) == some (isAg c.P vt) with
        | false => simp [hb] at h
        | true =>
          simp only [hb, cond_true, Option.some.injEq] at h; subst h; intro hf _
          exact op_mapUpdate hc.cod hH hf (hρ m) (hρ k) (hρ v) hmv hds hu (by simpa using hb)
      · cases h
    · cases h
  · -- insert
    rename_i t m k v
    split at h
    · rename_i kk vt id key es ds hmv hds
      split at h
      · rename_i u hu
        cases hb : aggB (ρ v) == some (isAg c.P vt) with
        | false => simp [hb] at h
        | true =>
          simp only [hb, cond_true, Option.some.injEq] at h; subst h; intro hf _
          exact op_insert hc.cod hH hf (hρ m) (hρ k) (hρ v) hmv hds hu (by simpa using hb)
      · cases h
    · cases h
  · -- extract
    rename_i x ix
    have hx := hρ x
    split at h
    · rename_i vs hv
      cases hg : vs[ix]? with
      | none => rw [hg] at h; cases h
      | some v =>
        rw [hg] at h; simp at h; subst h; intro _
        rw [hv] at hx
        simp only [RV] at hx; obtain ⟨xs, h1, h2⟩ := hx
        obtain ⟨y, h3, h4⟩ := h2.get ix hg
        exact .pure (x := y) (by simp [execOp, h1, Instr.extract, h3]) h4
    · cases h
  · -- makeFunc
    rename_i f first caps
    cases hb : first.size.beq 0 with
    | false => simp [hb] at h
    | true =>
      simp [hb] at h; subst h; intro _
      have h0 : first = #[] := Array.eq_empty_of_size_eq_zero (Nat.eq_of_beq_eq_true hb)
      subst h0
      refine .pure (x := .func (.func f) #[] (caps.map a.eval)) (by simp [execOp, Instr.makeFunc]) ?_
      simp only [RV]
      exact ⟨caps.toList.map a.eval, by rw [show caps.map a.eval = (caps.toList.map a.eval).toArray from by apply Array.ext'; simp], RVs_map hρ caps.toList⟩
  · -- call
    rename_i k
    have hargs := RVs_map hρ k.args.toList
    obtain ⟨callee, args, argTypes⟩ := k
    simp only at h hargs
    cases callee with
    | invoke => simp at h
    | builtin b =>
      simp only at h
      have hrun : ∀ (P : Value → World → Prop) (s : Sem Value), builtin b argTypes ty (args.map fun | .const _ => true | _ => false) (args.map a.eval) = (do pure (.value (← s)) : Sem Next) →
          ∀ y w', s.run c.P w = .ok y w' → (execOp a.eval ⟨dst, .call ⟨.builtin b, args, argTypes⟩, ty, pos, after, g⟩).run c.P w = .ok (.value y) w' := fun P s hs y w' hy => by
        simp only [execOp, resolve, Sem.run_bind, Sem.run_pure, Result.andThen_ok, invoke]
        exact (congrArg (fun z => Sem.run c.P z w) hs).trans (by simp [hy])
      have hav : args.map a.eval = (args.toList.map a.eval).toArray := by apply Array.ext'; simp
      unfold builtinV at h
      split at h
      · -- len
        rename_i x hx
        split at h
        · rename_i t ht
          split at h
          · rename_i n hn
            simp at h; subst h; intro _
            rw [hx] at hargs
            simp only [RVs] at hargs
            obtain ⟨y, ys, hy, h1, h2⟩ := hargs
            subst h2
            refine .pure (x := .int .i64 n) (hrun (fun _ _ => True) (Builtin.len_ argTypes ty (args.map a.eval)) rfl _ _ ?_) (by simp only [RV]; exact .i _ _)
            rw [hav, hy]
            exact lenV_ok hH h1 hn ty argTypes ht
          · cases h
        · cases h
      · -- append
        rename_i s x hx
        split at h
        · rename_i t u ht hu
          split at h
          · rename_i ok H' v hap
            simp at h; subst h; intro hf hok
            rw [hx] at hargs
            simp only [RVs] at hargs
            obtain ⟨y, ys, hy, h1, z, zs, rfl, h2, h3⟩ := hargs
            subst h3
            obtain ⟨r, w', η', g1, g2, g3, g4, g5, g6⟩ := op_append hc.cod ty hH hf h1 h2 hap hok
            refine ⟨r, w', η', .inl (hrun (fun _ _ => True) (Builtin.append_ argTypes ty (args.map a.eval)) rfl _ _ ?_), g2, g3, g4, g5, g6⟩
            rw [hav, hy, ← g1]
            have e1 : argTypes[0]? = (#[t, u] : Array TypeId)[0]? := by rw [ht]; rfl
            have e2 : argTypes[1]? = (#[t, u] : Array TypeId)[1]? := by rw [hu]; rfl
            simp only [Builtin.append_, e1, e2]
          · cases h
        · cases h
      · -- clear
        rename_i x hx
        split at h
        · rename_i t ht
          cases hcl : clearV c H t x with
          | none => rw [hcl] at h; cases h
          | some H' =>
            rw [hcl] at h; simp only [Option.map_some, Option.some.injEq] at h; subst h; intro hf _
            rw [hx] at hargs
            simp only [RVs] at hargs
            obtain ⟨y, ys, hy, h1, h2⟩ := hargs
            subst h2
            obtain ⟨w', g1, g2, g3, g4⟩ := op_clear hc.cod ty hH h1 hcl
            refine ⟨.tuple #[], w', η, .inl (hrun (fun _ _ => True) (Builtin.clear_ argTypes ty (args.map a.eval)) rfl _ _ ?_), by simp only [RV], g2, Keeps.refl η, g3, fun id hid => hf id (by rw [← g4]; exact hid)⟩
            rw [hav, hy, ← g1]
            have e1 : argTypes[0]? = (#[t] : Array TypeId)[0]? := by rw [ht]; rfl
            simp only [Builtin.clear_, e1]
        · cases h
      · -- min
        rename_i xs hx
        cases hm : minV (args.toList.map ρ) with
        | none => rw [hm] at h; cases h
        | some v =>
          rw [hm] at h; simp only [Option.map_some, Option.some.injEq] at h; subst h; intro _
          unfold minV at hm
          split at hm
          · rename_i k' x' rest hv
            rw [hv] at hargs
            simp only [RVs] at hargs
            obtain ⟨y, ys, hy, h1, h2⟩ := hargs
            simp only [RV] at h1; cases h1
            obtain ⟨z, h3, h4⟩ := minI_ok h2 hm
            refine .pure (x := z) (hrun (fun _ _ => True) (Builtin.min_ argTypes ty (args.map a.eval)) rfl _ _ ?_) h4
            rw [hav, hy]
            simpa [Builtin.min_] using h3
          · cases hm
      · -- max
        rename_i xs hx
        cases hm : maxV (args.toList.map ρ) with
        | none => rw [hm] at h; cases h
        | some v =>
          rw [hm] at h; simp only [Option.map_some, Option.some.injEq] at h; subst h; intro _
          unfold maxV at hm
          split at hm
          · rename_i k' x' rest hv
            rw [hv] at hargs
            simp only [RVs] at hargs
            obtain ⟨y, ys, hy, h1, h2⟩ := hargs
            simp only [RV] at h1; cases h1
            obtain ⟨z, h3, h4⟩ := maxI_ok h2 hm
            refine .pure (x := z) (hrun (fun _ _ => True) (Builtin.max_ argTypes ty (args.map a.eval)) rfl _ _ ?_) h4
            rw [hav, hy]
            simpa [Builtin.max_] using h3
          · cases hm
      · cases h
    | value fo =>
      simp only at h
      split at h
      · rename_i f caps hv
        have hfo := hρ fo
        rw [hv] at hfo
        simp only [RV] at hfo
        obtain ⟨cs, hcs, hcr⟩ := hfo
        obtain ⟨e, q, g', rfl, hcall⟩ := callV_ok hc.flat hc.cf hH (hargs.append hcr) h
        refine ⟨fun x v hg => callV_g h hg, ?_⟩
        intro x hx
        refine ⟨f, args.toList.map a.eval ++ cs, ?_, (hcall x hx).2.1, fun hp hq => callV_new hc.flat hc.cf hH (hargs.append hcr) h hx hp hq, (hcall x hx).2.2⟩
        obtain ⟨fn, h1, h2, h3⟩ := (hcall x hx).1
        have hav : args.map a.eval = (args.toList.map a.eval).toArray := by apply Array.ext'; simp
        have h2' : ¬ (fn.name = "runtime.NumGoroutine") := by simpa using h2
        have h3' : ¬ (fn.body = none) := by intro h4; rw [h4] at h3; simp at h3
        simp [execOp, resolve, hcs, hav, Deferred.ofValue, invoke, callFunc, h1, h2', h3']
      · cases h
  · -- makeInterface
    rename_i t x
    split at h
    · rename_i b ds hb hd
      cases hok : (ds.all flatD && (isAg c.P t == b) && !isIf c.P t && (c.P.underlying t).isSome) with
      | false => simp [hok] at h
      | true =>
        simp only [hok, cond_true, Option.some.injEq] at h
        subst h
        intro _
        obtain ⟨h1, h2⟩ := op_iface (hρ x) hb hd hok
        exact .pure (by simp only [execOp, Sem.run_bind, h1, Result.andThen_ok, Sem.run_pure]) h2
    · cases h
  · -- panic
    rename_i x
    split at h
    · rename_i t ds hx
      simp only [Option.some.injEq] at h
      subst h
      have := hρ x
      rw [hx] at this
      have h0 := this
      simp only [RV] at this
      obtain ⟨y, hy, hvs⟩ := this
      refine ⟨a.eval x, ?_, h0⟩
      rw [hy]
      have hp : (Instr.panic (.iface t y)).run c.P w = .halt (.panic (.iface t y)) w := rfl
      simp only [execOp, Sem.run_bind, hy, hp, Result.andThen]
    · cases h
  · -- typeAssert
    rename_i x xt ty
    split at h
    · rename_i t ds hx
      cases hok : t.beq ty && !isIf c.P ty && (c.P.underlying ty).isSome with
      | false => simp [hok] at h
      | true =>
        simp only [hok, cond_true, Option.some.injEq] at h
        subst h
        intro _
        simp only [Bool.and_eq_true] at hok
        obtain ⟨⟨h1, h2⟩, h3⟩ := hok
        have := Nat.eq_of_beq_eq_true h1
        subst this
        have hv := hρ x
        rw [hx] at hv
        obtain ⟨y, hy, hr⟩ := pv_val hv
        refine .pure (x := .tuple #[y, .bool true]) ?_ ?_
        · cases hu : c.P.underlying t with
          | none => rw [hu] at h3; cases h3
          | some u =>
            unfold isIf at h2
            rw [hu] at h2
            simp only [execOp, hy]
            unfold Instr.typeAssert
            cases u <;> simp [run_under hu] at h2 ⊢
        · simp only [RV, RVs]
          exact ⟨[y, .bool true], rfl, y, [.bool true], rfl, hr, .bool true, [], rfl, .b _, rfl⟩
    · cases h
  · cases h

end Go.Ev
