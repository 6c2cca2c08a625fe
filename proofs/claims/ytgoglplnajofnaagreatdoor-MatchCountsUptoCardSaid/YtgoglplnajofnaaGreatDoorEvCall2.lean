/- A part of the evaluator of Go code over small heaps and of its proof: no condition beyond those that each theorem names. -/
import Derived.Test.YtgoglplnajofnaaGreatDoorEvCall
set_option linter.unusedVariables false
set_option linter.unusedSimpArgs false
set_option linter.constructorNameAsVariable false
namespace Go.Ev
variable {T : TypeId → Type}

theorem ren_pack (m : Nat → Option Nat) : ∀ (vs : List (V T)), Ev.ren m (pack vs) = pack (renL m vs)
  | [] => by simp [pack, Ev.ren, renL]
  | [v] => by simp [pack, renL]
  | v :: u :: vs => by simp [pack, Ev.ren, renL]

theorem flat_pack : ∀ (vs : List (V T)), flatL vs = true → flatV (pack vs) = true
  | [], _ => by simp [pack, flatV, flatL]
  | [v], h => by simpa [pack, flatL] using h
  | v :: u :: vs, h => by simpa [pack, flatV] using h

/-- What the objects are behind a call. -/
def retEta (η η' : Eta) (l ln : List Nat) (n m : Nat) (kl : Bool) : Eta :=
  ⟨fun k => if k < n then (match placeOf l k with
      | some j => η' j
      | none => if kl = true ∧ k ∈ ln then some .dead else η k)
    else if k < n + (m - l.length) then η' (l.length + (k - n)) else none, η.far, η.df⟩

theorem ret_case {η η' : Eta} {l ln : List Nat} {n m : Nat} {kl : Bool} {k : Nat} {r : RO} (h : (retEta η η' l ln n m kl) k = some r) :
    (∃ j, k < n ∧ l[j]? = some k ∧ η' j = some r) ∨ (k < n ∧ k ∉ l ∧ kl = true ∧ k ∈ ln ∧ r = .dead) ∨ (k < n ∧ k ∉ l ∧ (kl = true → k ∉ ln) ∧ η k = some r) ∨
    (n ≤ k ∧ k < n + (m - l.length) ∧ η' (l.length + (k - n)) = some r) := by
  simp only [retEta] at h
  split at h
  · rename_i hk
    split at h
    · rename_i j hj
      exact .inl ⟨j, hk, placeOf_some hj, h⟩
    · rename_i hj
      have := placeOf_none hj
      split at h
      · rename_i h1; simp at h; exact .inr (.inl ⟨hk, this, h1.1, h1.2, h.symm⟩)
      · rename_i h1; exact .inr (.inr (.inl ⟨hk, this, fun h2 h3 => h1 ⟨h2, h3⟩, h⟩))
  · rename_i hk
    split at h
    · rename_i hk2; exact .inr (.inr (.inr ⟨by omega, hk2, h⟩))
    · cases h

theorem call_back {c : Cfg T} (hfl : FlatOk c) {η η' : Eta} {H os : List (Obj T)} {w w' : World} {l ln : List Nat} {res : List (V T)} {v : Value} {kl : Bool} (hH : RelH (rc c) η H w)
    (hf : ∀ id, H.length ≤ id → η id = none) (hn : l.Nodup) (hlt : ∀ id ∈ l, id < H.length) (hln : ∀ id ∈ ln, id < H.length) (hle : l.length ≤ os.length)
    (hv : RV (rc c) η' w' (pack res) v) (he : Evo (calleeEta η l ln) η' w w') (hk : Keeps (calleeEta η l ln) η') (hH' : RelH (rc c) η' os w') (hf' : ∀ id, os.length ≤ id → η' id = none)
    (hkl : kl = true ∨ ln = [] ∨ (flatL res = true ∧ os.all (flatO c) = true)) :
    let b := backOf l H.length
    let H1 := putBack H l ((os.take l.length).map (renO b)) ++ (os.drop l.length).map (renO b)
    let H2 := bif kl then killAll H1 ln else H1
    let η2 := retEta η η' l ln H.length os.length kl
    RV (rc c) η2 w' (pack (renL b res)) v ∧ Evo η η2 w w' ∧ Keeps η η2 ∧ ((∀ id ∈ ln, id ∉ l) → RelH (rc c) η2 H2 w') ∧ (∀ id, H2.length ≤ id → η2 id = none) := by
  intro b H1 H2 η2
  have hb : ∀ id k r, b id = some k → η' id = some r → η2 k = some r := by
    intro id k r hbk hr
    have hid : id < os.length := by
      rcases Nat.lt_or_ge id os.length with h | h
      · exact h
      · rw [hf' id h] at hr; cases hr
    simp only [b, backOf] at hbk
    split at hbk
    · rename_i k' hk'
      cases hbk
      have hlk := hlt k (List.mem_of_getElem? hk')
      simp only [η2, retEta, if_pos hlk, placeOf_get hn hk']
      exact hr
    · rename_i hnone
      cases hbk
      have hge : l.length ≤ id := by
        rcases Nat.lt_or_ge id l.length with h | h
        · rw [List.getElem?_eq_getElem h] at hnone; cases hnone
        · exact h
      simp only [η2, retEta]
      rw [if_neg (by omega), if_pos (by omega), show l.length + (H.length + (id - l.length) - H.length) = id by omega]
      exact hr
  have hfar : η'.far = (calleeEta η l ln).far := he.far
  -- blocks that nothing owned there are owned by nothing here
  have hok : (kl = true ∨ ln = []) → ∀ x, isOk η' x → isOk η2 x := by
    intro hcase x hx
    refine ⟨?_, fun hfx => hx.2 (by rw [hfar]; exact .inl hfx)⟩
    rintro ⟨k, r, hr, hh⟩
    rcases ret_case hr with ⟨j, _, _, h3⟩ | ⟨_, _, _, _, rfl⟩ | ⟨h1, h2, h3, h4⟩ | ⟨_, _, h3⟩
    · exact hx.1 ⟨j, r, h3, hh⟩
    · exact hh.elim
    · have hkn : k ∉ ln := by
        rcases hcase with h5 | h5
        · exact h3 h5
        · subst h5; simp
      exact hx.2 (by rw [hfar]; exact .inr ⟨k, r, h4, hh, h2, hkn⟩)
    · exact hx.1 ⟨_, r, h3, hh⟩
  have howns : ∀ x, owns (calleeEta η l ln) x → owns η x := fun x hx => by
    obtain ⟨j, id, r, _, h1, h2⟩ := callee_owns hx
    exact ⟨id, r, h1, h2⟩
  have hE : Evo η η2 w w' := by
    refine ⟨he.size, fun x hx ho => he.same x hx (fun h => ho (howns x h)), ?_, rfl, rfl, he.rest⟩
    rintro x hx ⟨k, r, hr, hh⟩
    rcases ret_case hr with ⟨j, _, _, h3⟩ | ⟨_, _, _, _, rfl⟩ | ⟨h1, h2, h3, h4⟩ | ⟨_, _, h3⟩
    · exact howns x (he.own x hx ⟨j, r, h3, hh⟩)
    · exact hh.elim
    · exact ⟨k, r, h4, hh⟩
    · exact howns x (he.own x hx ⟨_, r, h3, hh⟩)
  have hK : Keeps η η2 := by
    intro k r hr
    have hkn : k < H.length := by
      rcases Nat.lt_or_ge k H.length with h | h
      · exact h
      · rw [hf k h] at hr; cases hr
    cases hp : placeOf l k with
    | some j =>
      have h2 : η2.m k = η'.m j := by simp only [η2, retEta, if_pos hkn, hp]
      have h3 := hk j r (callee_m hp hr)
      unfold Now at h3 ⊢
      rw [h2]; exact h3
    | none =>
      have h2 : η2.m k = if kl = true ∧ k ∈ ln then some .dead else η.m k := by simp only [η2, retEta, if_pos hkn, hp]
      unfold Now
      rw [h2]
      split
      · exact .inr (.inl rfl)
      · exact .inl hr
  have hnotin : ∀ k r x, η k = some r → k ∉ l → r.has x → ¬ owns (calleeEta η l ln) x := by
    intro k r x hr hkl' hh ho
    obtain ⟨j, id, r', hj, h1, h2⟩ := callee_owns ho
    have := hH.inj k id r r' x hr h1 hh h2
    subst this
    exact hkl' (List.mem_of_getElem? hj)
  have hl1 : H1.length = H.length + (os.length - l.length) := by
    simp only [H1, List.length_append, putBack_length, List.length_map, List.length_drop]
  have hl2 : H2.length = H1.length := by
    simp only [H2]; cases kl <;> simp [killAll_length]
  refine ⟨?_, hE, hK, ?_, ?_⟩
  · rw [← ren_pack]
    refine RV.ren hb (pack res) v ?_ hv
    rcases hkl with h | h | h
    · exact .inl fun x hx _ => hok (.inl h) x hx
    · exact .inl fun x hx _ => hok (.inr h) x hx
    · exact .inr (flat_pack _ h.1)
  · intro hnl
    have hO : ∀ (o : Obj T) r, o ∈ os → relObj (rc c) η' w' o r → relObj (rc c) η2 w' (renO b o) r := by
      intro o r hmem hrel
      refine relObj.ren hb hfl ?_ hrel
      rcases hkl with h | h | h
      · exact .inl fun x hx _ => hok (.inl h) x hx
      · exact .inl fun x hx _ => hok (.inr h) x hx
      · exact .inr (List.all_eq_true.1 h.2 o hmem)
    have hat : ∀ k, k < H.length → k ∉ l → (kl = true → k ∉ ln) → H2[k]? = H[k]? := by
      intro k h1 h2 h3
      have h4 : H1[k]? = H[k]? := by
        simp only [H1]
        rw [List.getElem?_append_left (by simpa [putBack_length] using h1), putBack_other l _ _ k h2]
      simp only [H2]
      cases hkl' : kl with
      | true => simp only [cond_true]; rw [killAll_other ln _ k (h3 hkl'), h4]
      | false => exact h4
    have hatl : ∀ (j k : Nat) (o : Obj T), l[j]? = some k → os[j]? = some o → H2[k]? = some (renO b o) := by
      intro j k o h1 h2
      have hkn := hlt k (List.mem_of_getElem? h1)
      have hjl : j < l.length := (List.getElem?_eq_some_iff.1 h1).1
      have h4 : H1[k]? = some (renO b o) := by
        simp only [H1]
        rw [List.getElem?_append_left (by simpa [putBack_length] using hkn)]
        exact putBack_at l _ _ j k _ hn h1 (by rw [List.getElem?_map, List.getElem?_take_of_lt hjl, h2]; rfl) hkn
      simp only [H2]
      cases hkl' : kl with
      | true => simp only [cond_true]; rw [killAll_other ln _ k (fun h => hnl k h (List.mem_of_getElem? h1)), h4]
      | false => exact h4
    have hatn : ∀ (k : Nat) (o : Obj T), H.length ≤ k → os[l.length + (k - H.length)]? = some o → (H1[k]? = some (renO b o)) := by
      intro k o h1 h2
      simp only [H1]
      rw [List.getElem?_append_right (by simpa [putBack_length] using h1), putBack_length, List.getElem?_map, List.getElem?_drop, h2]
      rfl
    refine ⟨?_, ?_, ?_, ?_, fun x hx => Nat.lt_of_lt_of_le (hH.fl x hx) he.size, hH.oldEvo hE⟩
    · intro k r o hr ho
      rcases ret_case hr with ⟨j, h1, h2, h3⟩ | ⟨h1, h2, h3, h4, rfl⟩ | ⟨h1, h2, h3, h4⟩ | ⟨h1, h2, h3⟩
      · have hjl : j < l.length := (List.getElem?_eq_some_iff.1 h2).1
        have hjo : j < os.length := by omega
        rw [hatl j k os[j] h2 (List.getElem?_eq_getElem hjo)] at ho
        cases ho
        exact hO _ r (List.getElem_mem hjo) (hH'.obj j r _ h3 (List.getElem?_eq_getElem hjo))
      · have : H2[k]? = some .dead := by
          simp only [H2, h3, cond_true]
          exact killAll_at ln H1 k h4 (by omega)
        rw [this] at ho; cases ho; rfl
      · rw [hat k h1 h2 h3] at ho
        refine (hH.obj k r o h4 ho).mono hE hK fun x hx => he.same x (hH.lt k r x h4 hx) (hnotin k r x h4 h2 hx)
      · have hjo : l.length + (k - H.length) < os.length := by omega
        have h5 := hatn k os[l.length + (k - H.length)] h1 (List.getElem?_eq_getElem hjo)
        by_cases hkk : kl = true ∧ k ∈ ln
        · have := hln k hkk.2; omega
        · have h6 : H2[k]? = H1[k]? := by
            simp only [H2]
            cases hkl' : kl with
            | true => simp only [cond_true]; exact killAll_other ln H1 k (fun h => hkk ⟨hkl', h⟩)
            | false => rfl
          rw [h6, h5] at ho
          cases ho
          exact hO _ r (List.getElem_mem hjo) (hH'.obj _ r _ h3 (List.getElem?_eq_getElem hjo))
    · intro k r x hr hx
      rcases ret_case hr with ⟨j, h1, h2, h3⟩ | ⟨h1, h2, h3, h4, rfl⟩ | ⟨h1, h2, h3, h4⟩ | ⟨h1, h2, h3⟩
      · exact hH'.lt j r x h3 hx
      · exact hx.elim
      · exact Nat.lt_of_lt_of_le (hH.lt k r x h4 hx) he.size
      · exact hH'.lt _ r x h3 hx
    · have mixed : ∀ k r x j r', η k = some r → k ∉ l → r.has x → η' j = some r' → r'.has x → False := by
        intro k r x j r' h1 h2 h3 h4 h5
        have hlt' := hH.lt k r x h1 h3
        exact hnotin k r x h1 h2 h3 (he.own x hlt' ⟨j, r', h4, h5⟩)
      intro k k' r r' x hr hr' hx hx'
      rcases ret_case hr with ⟨j, h1, h2, h3⟩ | ⟨h1, h2, h3, h4, rfl⟩ | ⟨h1, h2, h3, h4⟩ | ⟨h1, h2, h3⟩ <;>
        rcases ret_case hr' with ⟨j', h1', h2', h3'⟩ | ⟨h1', h2', h3', h4', rfl⟩ | ⟨h1', h2', h3', h4'⟩ | ⟨h1', h2', h3'⟩
      all_goals first | exact hx.elim | exact hx'.elim | skip
      · have := hH'.inj j j' r r' x h3 h3' hx hx'
        subst this
        rw [h2] at h2'; exact Option.some.inj h2'
      · exact (mixed k' r' x j r h4' h2' hx' h3 hx).elim
      · have := hH'.inj j _ r r' x h3 h3' hx hx'
        have hjl : j < l.length := (List.getElem?_eq_some_iff.1 h2).1
        omega
      · exact (mixed k r x j' r' h4 h2 hx h3' hx').elim
      · exact hH.inj k k' r r' x h4 h4' hx hx'
      · exact (mixed k r x _ r' h4 h2 hx h3' hx').elim
      · have := hH'.inj _ j' r r' x h3 h3' hx hx'
        have hjl : j' < l.length := (List.getElem?_eq_some_iff.1 h2').1
        omega
      · exact (mixed k' r' x _ r h4' h2' hx' h3 hx).elim
      · have := hH'.inj _ _ r r' x h3 h3' hx hx'
        omega
    · intro k r x hr hx hfx
      have hfx' : η.far x := hfx
      rcases ret_case hr with ⟨j, h1, h2, h3⟩ | ⟨h1, h2, h3, h4, rfl⟩ | ⟨h1, h2, h3, h4⟩ | ⟨h1, h2, h3⟩
      · exact hH'.nf j r x h3 hx (by rw [hfar]; exact .inl hfx')
      · exact hx.elim
      · exact hH.nf k r x h4 hx hfx'
      · exact hH'.nf _ r x h3 hx (by rw [hfar]; exact .inl hfx')
  · intro k hk'
    simp only [η2, retEta]
    rw [if_neg (by omega), if_neg (by omega)]

theorem lent_lt {R : Rc T} {η : Eta} {w : World} {n : Nat} (hf : ∀ id, n ≤ id → η id = none) : ∀ (vs : List (V T)) (xs : List Value), RVs R η w vs xs → ∀ id ∈ lent vs, id < n
  | [], _, _, id, h => by simp [lent] at h
  | v :: vs, xs, hr, id, h => by
    simp only [RVs] at hr
    obtain ⟨x, xs', rfl, h1, h2⟩ := hr
    have ih := lent_lt hf vs xs' h2 id
    cases v with
    | sl id' rng =>
      simp only [lent, List.mem_cons] at h
      rcases h with rfl | h
      · rcases Nat.lt_or_ge id n with h3 | h3
        · exact h3
        · exfalso
          have hn := hf id h3
          cases rng with
          | none => simp only [RV] at h1; obtain ⟨r, _, _, _, hr, _⟩ := h1; rw [hn] at hr; cases hr
          | some p => obtain ⟨o, l⟩ := p; simp only [RV] at h1; obtain ⟨r, _, _, hr, _⟩ := h1; rw [hn] at hr; cases hr
      · exact ih h
    | _ => simp only [lent] at h; exact ih h

theorem lentV_lt {c : Cfg T} {η : Eta} {w : World} {n : Nat} {f : FuncId} (hf : ∀ id, n ≤ id → η id = none) {args : List (V T)} {xs : List Value} (h : RVs (rc c) η w args xs) : ∀ id ∈ lentV c f args, id < n := by
  unfold lentV
  cases c.hd f with
  | true => intro id h; simp at h
  | false => exact lent_lt hf args xs h

theorem callee_hand {c : Cfg T} {η : Eta} {H : List (Obj T)} {w : World} {f : FuncId} (hH : RelH (rc c) η H w) {l : List Nat} {args : List (V T)} {xs : List Value} (hnl : ∀ id ∈ lentV c f args, id ∉ l) (hx : RVs (rc c) η w args xs) :
    RVs (rc c) (calleeEta η l (lentV c f args)) w (renL (placeOf l) (handV c H f args)) xs := by
  unfold lentV handV at *
  cases hc : c.hd f with
  | true => exact RVs.ren (fun id' k r' hk hr' => callee_m hk hr') args xs (.inl fun b hb _ => callee_ok (R := rc c) (H := H) (w := w) b hb) hx
  | false =>
    rw [hc] at hnl
    exact callee_args hH hnl args xs (fun id rng hm => lent_mem args id rng hm) hx

/-- What a call gives. -/
def CallOk (c : Cfg T) (η : Eta) (H' : List (Obj T)) (w : World) (v : V T) (f : FuncId) (xs : List Value) : Prop :=
  (∃ fn, c.P.funcs[f]? = some fn ∧ (fn.name == "runtime.NumGoroutine") = false ∧ fn.body.isNone = false) ∧
  Calls c.P f xs.toArray w fun e w' => ∃ y η', e = .returned y ∧ RV (rc c) η' w' v y ∧ Evo η η' w w' ∧ Keeps η η' ∧ RelH (rc c) η' H' w' ∧ (∀ id, H'.length ≤ id → η' id = none)

/-- What a call comes to that panics. -/
def CallPan (c : Cfg T) (η : Eta) (H' : List (Obj T)) (w : World) (v : V T) (f : FuncId) (xs : List Value) : Prop :=
  Calls c.P f xs.toArray w fun e w' => ∃ y η', e = endOf true y ∧ RV (rc c) η' w' v y ∧ Evo η η' w w' ∧ Keeps η η' ∧ RelH (rc c) η' H' w' ∧ (∀ id, H'.length ≤ id → η' id = none)

theorem callV_ok {c : Cfg T} (hfl : FlatOk c) (hcf : CfOk c) {η : Eta} {H : List (Obj T)} {w : World} {f : FuncId} {args : List (V T)} {xs : List Value} (hH : RelH (rc c) η H w)
    (hx : RVs (rc c) η w args xs) {eff : Eff T} (h : callV c H f args = some eff) :
    ∃ e q g, eff = .call e q g ∧ ∀ x, e.val = some x → (∃ fn, c.P.funcs[f]? = some fn ∧ (fn.name == "runtime.NumGoroutine") = false ∧ fn.body.isNone = false) ∧
      (e.pan x = false → (∀ id, H.length ≤ id → η id = none) → CallOk c η (e.enc x).2 w (pack (e.enc x).1) f xs) ∧
      (e.pan x = true → (∀ id, H.length ≤ id → η id = none) → CallPan c η e.penh w (e.penc x) f xs) := by
  unfold callV at h
  simp only at h
  generalize hl : reach H 3 (once (idsL (handV c H f args)) []) = l at h
  have hn : l.Nodup := by rw [← hl]; exact reach_nodup H 3 _ (once_nodup _ _ List.nodup_nil)
  cases hg : l.all (·.blt H.length) && (lentV c f args).all (fun i => !l.any (·.beq i)) with
  | false => simp [hg] at h
  | true =>
  simp only [hg, cond_true] at h
  simp only [Bool.and_eq_true] at hg
  have hlt : ∀ id ∈ l, id < H.length := fun id hid => by
    have := List.all_eq_true.1 hg.1 id hid
    simpa [Nat.blt_eq] using this
  have hnl : ∀ id ∈ lentV c f args, id ∉ l := fun id hid hmem => by
    have := List.all_eq_true.1 hg.2 id hid
    simp only [Bool.not_eq_true', List.any_eq_false] at this
    exact this id hmem (by simp)
  split at h
  · cases h
  · rename_i e he
    simp only [Option.some.injEq] at h
    subst h
    refine ⟨_, _, _, rfl, ?_⟩
    intro x hval
    obtain ⟨hret, hpan⟩ := hcf f _ _ e x he hval
    have hfnn : ∃ fn, c.P.funcs[f]? = some fn ∧ (fn.name == "runtime.NumGoroutine") = false ∧ fn.body.isNone = false := by
      cases hp : e.pan x with
      | false => exact (hret hp).1
      | true => exact (hpan hp).2.1
    refine ⟨hfnn, fun hp hf => ?_, fun hp hf => ?_⟩
    rotate_left
    · obtain ⟨⟨pt, pds, hpv⟩, hfn, hle, hsim⟩ := hpan hp
      simp only
      rw [hpv] at hsim ⊢
      refine (hsim (calleeEta η l (lentV c f args)) w xs (callee_relH hfl hH hn hlt) (fun j hj => ?_) (callee_hand hH hnl hx)).mono ?_
      · simp only [List.length_map] at hj
        simp only [calleeEta, List.getElem?_eq_none hj]
      · rintro e' w' ⟨v, η', rfl, h1, h2, h3, h4, h5⟩
        obtain ⟨g1, g2, g3, g4, g5⟩ := call_back (kl := true) hfl hH hf hn hlt (lentV_lt hf hx) (by simpa only [unks, List.length_map] using Nat.le_refl l.length) h1 h2 h3 h4 h5 (.inl rfl)
        refine ⟨v, _, rfl, g1, g2, g3, ?_⟩
        have g := And.intro (g4 hnl) g5
        have hu : ∀ (b : Nat → Option Nat) (k : Nat), ((List.replicate k (Obj.unk : Obj T)).map (renO b)) = List.replicate k .unk := by intro b k; rw [List.map_replicate]; rfl
        have hul : unks (l.map fun id => renO (placeOf l) (H.getD id .dead)) = List.replicate l.length .unk := by unfold unks; rw [List.map_const', List.length_map]
        rw [hul] at g ⊢
        simpa [hu] using g
    obtain ⟨hfn, hle, hsim⟩ := hret hp
    simp only [List.length_map] at hle
    refine ⟨hfn, ?_⟩
    refine (hsim (calleeEta η l (lentV c f args)) w xs (callee_relH hfl hH hn hlt) (fun j hj => ?_) (callee_hand hH hnl hx)).mono ?_
    · simp only [List.length_map] at hj
      simp only [calleeEta, List.getElem?_eq_none hj]
    · rintro e' w' ⟨v, η', rfl, h1, h2, h3, h4, h5⟩
      cases hq : (lentV c f args).isEmpty || (flatL (e.enc x).1 && (e.enc x).2.all (flatO c)) with
      | false =>
        obtain ⟨g1, g2, g3, g4, g5⟩ := call_back (kl := true) hfl hH hf hn hlt (lentV_lt hf hx) hle h1 h2 h3 h4 h5 (.inl rfl)
        refine ⟨v, retEta η η' l (lentV c f args) H.length (e.enc x).2.length true, rfl, ?_⟩
        simp only [hq, cond_false]
        exact ⟨g1, g2, g3, g4 hnl, g5⟩
      | true =>
        have hcase : false = true ∨ lentV c f args = [] ∨ (flatL (e.enc x).1 = true ∧ (e.enc x).2.all (flatO c) = true) := by
          simp only [Bool.or_eq_true, Bool.and_eq_true, List.isEmpty_iff] at hq
          exact .inr hq
        obtain ⟨g1, g2, g3, g4, g5⟩ := call_back (kl := false) hfl hH hf hn hlt (lentV_lt hf hx) hle h1 h2 h3 h4 h5 hcase
        refine ⟨v, retEta η η' l (lentV c f args) H.length (e.enc x).2.length false, rfl, ?_⟩
        simp only [hq, cond_true]
        exact ⟨g1, g2, g3, g4 hnl, g5⟩

/-- What is known behind a call that was handed nothing of one's own: something new, and nothing changed. -/
def retNew (η η' : Eta) (n m : Nat) : Eta := ⟨fun k => if n ≤ k ∧ k < n + m then η' (k - n) else η k, η.far, η.df⟩

theorem retNew_m (η η' : Eta) (n m k : Nat) : (retNew η η' n m).m k = if n ≤ k ∧ k < n + m then η'.m (k - n) else η.m k := rfl

def CallNew (c : Cfg T) (η : Eta) (n : Nat) (os : List (Obj T)) (w : World) (v : V T) (f : FuncId) (xs : List Value) : Prop :=
  Calls c.P f xs.toArray w fun e w' => ∃ y η', e = .returned y ∧ RV (rc c) η' w' v y ∧ New (rc c) η η' n os w w'

theorem callV_new {c : Cfg T} (hfl : FlatOk c) (hcf : CfOk c) {η : Eta} {H : List (Obj T)} {w : World} {f : FuncId} {args : List (V T)} {xs : List Value} (hH : RelH (rc c) η H w)
    (hx : RVs (rc c) η w args xs) {e : CallE T} {q : e.τ → Bool} {g : e.τ → Option (V T)} (h : callV c H f args = some (.call e q g)) {x : e.τ} (hval : e.val = some x) (hnp : e.pan x = false) (hq : q x = true) :
    ∃ os, (e.enc x).2 = H ++ os ∧ CallNew c η H.length os w (pack (e.enc x).1) f xs := by
  unfold callV at h
  simp only at h
  generalize hl : reach H 3 (once (idsL (handV c H f args)) []) = l at h
  cases hg : l.all (·.blt H.length) && (lentV c f args).all (fun i => !l.any (·.beq i)) with
  | false => simp [hg] at h
  | true =>
  simp only [hg, cond_true] at h
  split at h
  · cases h
  · rename_i e0 he0
    simp only [Option.some.injEq, Eff.call.injEq] at h
    obtain ⟨rfl, h2, h3⟩ := h
    have h2 := eq_of_heq h2
    subst h2
    simp only [Bool.and_eq_true, List.isEmpty_iff] at hq
    obtain ⟨h4, h5⟩ := hq
    subst h4
    refine ⟨((e0.enc x).2).map (renO (backOf [] H.length)), by simp only [h5, cond_true]; simp [putBack], ?_⟩
    simp only at hval
    obtain ⟨hfn, hle, hsim⟩ := (hcf f _ _ e0 x he0 hval).1 hnp
    have hn : ([] : List Nat).Nodup := List.nodup_nil
    have hnl : ∀ id ∈ lentV c f args, id ∉ ([] : List Nat) := fun id _ h => by simp at h
    have hlt : ∀ id ∈ ([] : List Nat), id < H.length := fun id h => by simp at h
    refine (hsim (calleeEta η [] (lentV c f args)) w xs (callee_relH hfl hH hn hlt) (fun j hj => ?_) (callee_hand hH hnl hx)).mono ?_
    · simp only [calleeEta, List.getElem?_nil]
    · rintro e' w' ⟨v, η', rfl, hv, he, hk, hH', hf'⟩
      generalize hos : (e0.enc x).2 = os at *
      have hfar : η'.far = (calleeEta η [] (lentV c f args)).far := he.far
      have hnone : ∀ b, ¬ owns (calleeEta η [] (lentV c f args)) b := by
        rintro b ho
        obtain ⟨j, id, r, hj, _⟩ := callee_owns ho
        simp at hj
      have hbk : ∀ id k r, backOf [] H.length id = some k → η' id = some r → (retNew η η' H.length os.length) k = some r := by
        intro id k r hb hr
        have hid : id < os.length := by
          rcases Nat.lt_or_ge id os.length with h | h
          · exact h
          · rw [hf' id h] at hr; cases hr
        simp [backOf] at hb
        subst hb
        rw [retNew_m, if_pos (by omega), show H.length + id - H.length = id by omega]
        exact hr
      have hok : lentV c f args = [] → ∀ b, isOk η' b → isOk (retNew η η' H.length os.length) b := by
        intro hln b hb
        refine ⟨?_, fun hfx => hb.2 (by rw [hfar]; exact .inl hfx)⟩
        rintro ⟨k, r, hr, hh⟩
        rw [retNew_m] at hr
        split at hr
        · exact hb.1 ⟨_, r, hr, hh⟩
        · exact hb.2 (by rw [hfar]; exact .inr ⟨k, r, hr, hh, by simp, by rw [hln]; simp⟩)
      have hsplit : lentV c f args = [] ∨ (flatL (e0.enc x).1 = true ∧ os.all (flatO c) = true) := by
        simpa [Bool.or_eq_true, Bool.and_eq_true, List.isEmpty_iff] using h5
      refine ⟨v, retNew η η' H.length os.length, rfl, ?_, ?_⟩
      · show RV _ _ _ (pack (renL (backOf [] H.length) (e0.enc x).1)) v
        rw [← ren_pack]
        refine RV.ren hbk _ v ?_ hv
        rcases hsplit with h | h
        · exact .inl fun b hb _ => hok h b hb
        · exact .inr (flat_pack _ h.1)
      · refine ⟨he.size, fun b hb => he.same b hb (hnone b), ?_, ?_, ?_, ?_, rfl, rfl, he.rest⟩
        · intro id hid
          rw [retNew_m, if_neg (by simpa using hid)]
        · intro k o r ho hr
          rw [List.getElem?_map] at ho
          cases hko : os[k]? with
          | none => rw [hko] at ho; simp at ho
          | some o' =>
            rw [hko] at ho
            simp at ho; subst ho
            have hlt' := (List.getElem?_eq_some_iff.1 hko).1
            rw [retNew_m, if_pos (by simp; omega), show H.length + k - H.length = k by omega] at hr
            refine relObj.ren hbk hfl ?_ (hH'.obj k r o' hr hko)
            rcases hsplit with h | h
            · exact .inl fun b hb _ => hok h b hb
            · exact .inr (List.all_eq_true.1 h.2 o' (List.mem_of_getElem? hko))
        · intro k r b hk' hr hb
          simp only [List.length_map] at hk'
          rw [retNew_m, if_pos (by omega), show H.length + k - H.length = k by omega] at hr
          refine ⟨?_, hH'.lt k r b hr hb⟩
          rcases Nat.lt_or_ge b w.heap.size with h | h
          · exact (hnone b (he.own b h ⟨k, r, hr, hb⟩)).elim
          · exact h
        · intro k k' r r' b hk1 hk2 hr hr' hb hb'
          simp only [List.length_map] at hk1 hk2
          rw [retNew_m, if_pos (by omega), show H.length + k - H.length = k by omega] at hr
          rw [retNew_m, if_pos (by omega), show H.length + k' - H.length = k' by omega] at hr'
          exact hH'.inj k k' r r' b hr hr' hb hb'

end Go.Ev
